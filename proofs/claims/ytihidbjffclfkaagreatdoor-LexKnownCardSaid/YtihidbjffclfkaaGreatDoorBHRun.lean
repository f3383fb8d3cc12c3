/- Part of the proof: what it uses of HRun. -/
import Derived.Laws.RangeAny
import Derived.Lib.Hide
import Derived.Lib.OthersKept
import Derived.LoopTactic
import Derived.Test.YtihidbjffclfkaaGreatDoorBHGV
import Derived.Test.YtihidbjffclfkaaGreatDoorBHSpec
import Derived.Test.YtihidbjffclfkaaGreatDoorBPLexL
import Derived.WalkKit
namespace Go.Proofs.YtihidbjffclfkaaGreatDoor.PLex
open Go.RowKit Go.Proofs.YtihidbjffclfkaaGreatDoorW.PrintWords Go.Proofs.YtihidbjffclfkaaGreatDoorW.PrintLast Go.Proofs.YtihidbjffclfkaaGreatDoorW.PrintMore Go.Proofs.YtihidbjffclfkaaGreatDoor.Lx
set_option linter.unusedVariables false
set_option linter.unusedSimpArgs false
theorem letter_f (c : UInt8) : lex_letter.f (c.toNat : Int) = some (isLetter c) := by
  unfold lex_letter.f isLetter
  repeat' split
  all_goals (rw [Option.some.injEq, Bool.eq_iff_iff]; simp; omega)
theorem digit_f (c : UInt8) : lex_digit.f (c.toNat : Int) = some (isDigit c) := by
  unfold lex_digit.f isDigit
  repeat' split
  all_goals (rw [Option.some.injEq, Bool.eq_iff_iff]; simp; omega)
theorem run1_low (c : UInt8) (h : c.toNat < 128) (w : World) :
    Calls Tryz.prog 45 #[.int .i32 c.toNat] w fun e w' => e = .returned (.bool (!isAl c)) ∧ Drawn0 w w' := by
  have hlo : 0 ≤ (c.toNat : Int) := by omega
  have hhi : (c.toNat : Int) < 128 := by omega
  have hge : decide ((c.toNat : Int) ≥ 128) = false := by simp; omega
  have HL := Aside0.mk (letter_f c)
  have HD := Aside0.mk (digit_f c)
  have hd0 := Aside0.mk (Drawn0.refl w)
  by_cases hl : isLetter c = true
  · rw [hl] at HL
    have hres : (!isAl c) = false := by simp [isAl, hl]
    rw [hres]
    clear hl hres
    go_enter Tryz.func45, Tryz.ntmps45
    go_wp2_with (go_at_call 21; (with_reducible refine (lex_letter.calls _ _ _ HL.out).mono ?_); rintro e w' ⟨rfl, ⟨nd, rfl⟩⟩)
    go_ret
    exact ⟨rfl, ⟨_, rfl⟩⟩
  · have hl' : isLetter c = false := by simpa using hl
    rw [hl'] at HL
    have hres : (!isAl c) = (!isDigit c) := by simp [isAl, hl']
    rw [hres]
    clear hl hl' hres
    generalize isDigit c = bd at HD
    go_enter Tryz.func45, Tryz.ntmps45
    go_wp2_with (first | (go_at_call 21; (with_reducible refine (lex_letter.calls _ _ _ HL.out).mono ?_); rintro e w' ⟨rfl, ⟨nd, rfl⟩⟩) | (go_at_call 23; (with_reducible refine (lex_digit.calls _ _ _ HD.out).mono ?_); rintro e w' ⟨rfl, ⟨nd, rfl⟩⟩))
    go_ret
    exact ⟨rfl, ⟨_, rfl⟩⟩
theorem run1_high (r : Int) (h : 128 ≤ r) (h2 : r ≤ 2147483647) (w : World) :
    Calls Tryz.prog 45 #[.int .i32 r] w fun e w' => e = .returned (.bool true) ∧ Drawn0 w w' := by
  have hge : decide (r ≥ 128) = true := by simp; omega
  go_enter Tryz.func45, Tryz.ntmps45
  go_wp2
  go_ret
  exact ⟨rfl, Drawn0.refl _⟩
def oddAt (s : ByteArray) : Int := if (s.data.toList.takeWhile isAl).length = s.size then -1 else ((s.data.toList.takeWhile isAl).length : Int)
theorem takeWhile_at (s : ByteArray) (pos : Nat) (h : pos < s.size) (hall : ∀ j, (hj : j < pos) → isAl (s[j]'(by omega)) = true) :
    (isAl (s[pos]'h) = false → (s.data.toList.takeWhile isAl).length = pos) ∧ True := by
  refine ⟨fun hf => ?_, trivial⟩
  have hl : s.data.toList.length = s.size := (Lib.size_eq s).symm
  have hsp : s.data.toList = s.data.toList.take pos ++ s.data.toList.drop pos := (List.take_append_drop _ _).symm
  have hd : s.data.toList.drop pos = s[pos]'h :: s.data.toList.drop (pos + 1) := by
    rw [List.drop_eq_getElem_cons (by omega)]
    rfl
  rw [hsp, List.takeWhile_append_of_pos, hd, List.takeWhile_cons_of_neg (by simpa using hf)]
  · simp
    omega
  · intro a ha
    obtain ⟨j, hj, rfl⟩ := List.getElem_of_mem ha
    simp only [List.length_take] at hj
    have h2 := hall j (by omega)
    rw [List.getElem_take]
    exact h2
theorem tw_all {p : UInt8 → Bool} : ∀ (l : List UInt8), (∀ a ∈ l, p a = true) → l.takeWhile p = l
  | [], _ => rfl
  | a :: l, h => by rw [List.takeWhile_cons_of_pos (h a (by simp)), tw_all l (fun b hb => h b (by simp [hb]))]
theorem takeWhile_all (s : ByteArray) (hall : ∀ j, (hj : j < s.size) → isAl (s[j]'hj) = true) : (s.data.toList.takeWhile isAl).length = s.size := by
  have hl : s.data.toList.length = s.size := (Lib.size_eq s).symm
  rw [tw_all, hl]
  intro a ha
  obtain ⟨j, hj, rfl⟩ := List.getElem_of_mem ha
  exact hall j (by omega)
set_option maxHeartbeats 1600000 in
set_option maxRecDepth 100000 in
theorem indexFunc_run (s : ByteArray) (hs : s.size ≤ 9223372036854775807) (w : World) :
    Calls Tryz.prog 61 #[.string s, .func (Fn.func 45) #[] #[], .bool true] w fun e w' => e = .returned (.int .i64 (oddAt s)) ∧ Below w.heap.size w w' := by
  have hk0 : (w.iter s 0).heap[w.heap.size]? = some (.stringIter s 0) := World.iter_heap w s 0
  have hb0 : Below w.heap.size w (w.iter s 0) := (Below.refl _ w).alloc (Nat.le_refl _) _
  go_enter Tryz.func61, Tryz.ntmps61
  go_wp2
  go_loopw [7, 8] (fun _ _ wr => ∃ pos : Nat, pos ≤ s.size ∧ wr.heap[w.heap.size]? = some (.stringIter s pos) ∧ Aside0 (∀ j, (hj : j < pos) → (hp : pos ≤ s.size) → isAl (s[j]'(by omega)) = true) ∧ Below w.heap.size w wr)
    (fun _ _ wr => s.size - wr.iterPos w.heap.size)
  case atStart => exact ⟨0, Nat.zero_le _, hk0, ⟨fun j hj => absurd hj (by omega)⟩, hb0⟩
  case round =>
    obtain ⟨pos, hps, hk, hall, hnx⟩ := hrel
    clear hk0 hb0
    have hmu : wr.iterPos w.heap.size = pos := by simp [World.iterPos, hk]
    by_cases hp : pos < s.size
    · by_cases hlow : (s[pos]'hp).toNat < 128
      · have hnext : ∀ ty, (Instr.next (.pointer (some ⟨w.heap.size, 0, none⟩)) true ty).run Tryz.prog wr = _ := fun ty => Lib.run_next_ascii_at wr w.heap.size s pos ty hk hp hlow
        have hk1 := Lib.iterAt_heap wr w.heap.size s pos (pos + 1) hk
        have hnx1 : Below w.heap.size w (wr.iterAt w.heap.size s (pos + 1)) := Lib.below_iterAt hnx (Nat.le_refl _) s (pos + 1)
        generalize wr.iterAt w.heap.size s (pos + 1) = W1 at hnext hk1 hnx1
        obtain ⟨b, hb⟩ : ∃ b, b = isAl (s[pos]'hp) := ⟨_, rfl⟩
        have hr1 := run1_low (s[pos]'hp) hlow
        rw [← hb] at hr1
        have HR1 := Lib.hid hr1
        have HB1 := Lib.hid hb
        clear hr1 hb
        cases b with
        | true =>
          go_wp2_with (go_at_call 45; refine (HR1.out _).mono ?_; rintro e w' ⟨rfl, ⟨nd, rfl⟩⟩)
          go_roundw
          case rel =>
            refine ⟨pos + 1, by omega, hk1, ⟨fun j hj hp' => ?_⟩, pw_below_drewN hnx1 _⟩
            by_cases hjp : j = pos
            · subst hjp
              exact HB1.out.symm
            · exact hall.out j (by omega) (by omega)
          case measure =>
            have hmu2 : W1.iterPos w.heap.size = pos + 1 := by simp [World.iterPos, hk1]
            have hmu3 : (W1.drewN nd).iterPos w.heap.size = pos + 1 := hmu2
            rw [hmu, hmu3]
            omega
        | false =>
          go_wp2_with (go_at_call 45; refine (HR1.out _).mono ?_; rintro e w' ⟨rfl, ⟨nd, rfl⟩⟩)
          go_ret
          have hlen := (takeWhile_at s pos hp (fun j hj => hall.out j hj hps)).1 HB1.out.symm
          refine ⟨?_, pw_below_drewN hnx1 _⟩
          unfold oddAt
          rw [hlen, if_neg (by omega)]
          rfl
      · have hdec := decode_high s pos hp (by omega)
        have hdle := decode_le s pos
        have hnext : ∀ ty, (Instr.next (.pointer (some ⟨w.heap.size, 0, none⟩)) true ty).run Tryz.prog wr = _ := fun ty => Lib.run_next_any_at wr w.heap.size s pos ty hk hp
        have hnx1 : Below w.heap.size w (wr.iterAt w.heap.size s (pos + (Utf8.decode s pos).2)) := Lib.below_iterAt hnx (Nat.le_refl _) s _
        generalize wr.iterAt w.heap.size s (pos + (Utf8.decode s pos).2) = W1 at hnext hnx1
        have hr1 := run1_high ((Utf8.decode s pos).1 : Int) (by omega) (by omega)
        have HR1 := Lib.hid hr1
        clear hr1
        generalize (Utf8.decode s pos).1 = rr at *
        go_wp2_with (go_at_call 45; refine (HR1.out _).mono ?_; rintro e w' ⟨rfl, ⟨nd, rfl⟩⟩)
        go_ret
        have hodd : isAl (s[pos]'hp) = false := by
          cases hh : isAl (s[pos]'hp) with
          | false => rfl
          | true => exact absurd (isAl_low hh) hlow
        have hlen := (takeWhile_at s pos hp (fun j hj => hall.out j hj hps)).1 hodd
        refine ⟨?_, pw_below_drewN hnx1 _⟩
        unfold oddAt
        rw [hlen, if_neg (by omega)]
        rfl
    · have hnext : ∀ ty, (Instr.next (.pointer (some ⟨w.heap.size, 0, none⟩)) true ty).run Tryz.prog wr = _ := fun ty => Lib.run_next_end_at wr w.heap.size s pos ty hk hp
      go_wp2
      go_ret
      have hlen := takeWhile_all s (fun j hj => hall.out j (by omega) (by omega))
      refine ⟨?_, hnx⟩
      unfold oddAt
      rw [if_pos hlen]
      rfl
theorem IndexFunc_run (s : ByteArray) (hs : s.size ≤ 9223372036854775807) (w : World) :
    Calls Tryz.prog 44 #[.string s, .func (Fn.func 45) #[] #[]] w fun e w' => e = .returned (.int .i64 (oddAt s)) ∧ Below w.heap.size w w' := by
  have HC := Lib.hid (indexFunc_run s hs)
  go_enter Tryz.func44, Tryz.ntmps44
  go_wp2_with (go_at_call 61; refine (HC.out _).mono ?_; rintro e w' ⟨rfl, hb⟩)
  go_ret
  exact ⟨rfl, hb⟩
def lex_cursor_run.f (s0_0 : ByteArray) (s0_1 : Int) : Option (ByteArray × ByteArray × Int) :=
  if 0 ≤ s0_1 then (if s0_1 ≤ (s0_0.size : Int) then (if s0_0.size ≤ 9223372036854775807 then some (runB (s0_0.extract s0_1.toNat s0_0.size), s0_0, s0_1) else none) else none) else none
theorem runB_odd (s : ByteArray) : (oddAt s = -1 ∧ runB s = s) ∨ (0 ≤ oddAt s ∧ oddAt s ≤ s.size ∧ runB s = s.extract 0 (oddAt s).toNat) := by
  have hle : (s.data.toList.takeWhile isAl).length ≤ s.size := by
    have h1 := (List.takeWhile_sublist (p := isAl) (l := s.data.toList)).length_le
    have h2 : s.data.toList.length = s.size := (Lib.size_eq s).symm
    omega
  unfold oddAt runB
  by_cases h : (s.data.toList.takeWhile isAl).length = s.size
  · left
    rw [if_pos h, h]
    exact ⟨rfl, ByteArray.extract_zero_size⟩
  · right
    rw [if_neg h]
    exact ⟨by omega, by omega, by simp⟩
set_option maxRecDepth 100000 in
theorem lex_cursor_run.calls (g : Nat) (s0_0 : ByteArray) (s0_1 : Int) (r1 : ByteArray) (r2 : ByteArray) (r3 : Int) (w0 w : World) (hI : IsS36 w0 w g s0_0 s0_1) (hB : Below w0.heap.size w0 w) (h : lex_cursor_run.f s0_0 s0_1 = some (r1, r2, r3)) :
    Calls Tryz.prog 22 #[.pointer (some ⟨g, 0, none⟩)] w fun e w' => e = .returned (.string r1) ∧ IsS36 w0 w' g r2 r3 ∧ Below w0.heap.size w0 w' ∧ KeepBut w w' g none := by
  unfold lex_cursor_run.f at h
  by_cases c1 : 0 ≤ s0_1
  · by_cases c2 : s0_1 ≤ (s0_0.size : Int)
    · by_cases c3 : s0_0.size ≤ 9223372036854775807
      · rw [if_pos c1, if_pos c2, if_pos c3] at h
        obtain ⟨rfl, rfl, rfl⟩ : runB (s0_0.extract s0_1.toNat s0_0.size) = r1 ∧ s0_0 = r2 ∧ s0_1 = r3 := by simpa using h
        clear h
        have hleft : lex_cursor_left.f s0_0 s0_1 = some (s0_0.extract s0_1.toNat s0_0.size, s0_0, s0_1) := by
          unfold lex_cursor_left.f
          rw [if_pos c1, if_pos c2]
        have hes : (s0_0.extract s0_1.toNat s0_0.size).size ≤ 9223372036854775807 := by
          rw [ByteArray.size_extract]
          omega
        have HC1 := Lib.hid (fun w1 hI1 hB1 => lex_cursor_left.calls g s0_0 s0_1 _ _ _ w0 w1 hI1 hB1 hleft)
        clear hleft c1 c2 c3
        generalize s0_0.extract s0_1.toNat s0_0.size = s at *
        have hc2 := IndexFunc_run s hes
        have HI := Lib.hid hI
        have HB := Lib.hid hB
        clear hI hB hes
        have hfin : ∀ w1 w2, IsS36 w0 w1 g s0_0 s0_1 → Below w0.heap.size w0 w1 → KeepBut w w1 g none → Below w1.heap.size w1 w2 → IsS36 w0 w2 g s0_0 s0_1 ∧ Below w0.heap.size w0 w2 ∧ KeepBut w w2 g none :=
          fun w1 w2 hi hb hk hb2 => ⟨hi.below hb2, below_then hb hb.size hb2, hk.trans (KeepBut.of_below hb2 g none) (.inl rfl)⟩
        have HF := Lib.hid hfin
        clear hfin
        rcases runB_odd s with ⟨ho, hr⟩ | ⟨ho0, ho1, hr⟩
        · rw [hr]
          rw [ho] at hc2
          have HC2 := Lib.hid hc2
          clear ho hr hc2
          go_enter Tryz.func22, Tryz.ntmps22
          go_wp2_with (first | (go_at_call 28; refine (HC1.out _ HI.out HB.out).mono ?_; rintro e w1 ⟨rfl, hI1, hB1, hK1⟩; have HX := Lib.hid (And.intro hI1 (And.intro hB1 hK1)); clear hI1 hB1 hK1) | (go_at_call 44; refine (HC2.out _).mono ?_; rintro e w2 ⟨rfl, hb⟩))
          go_ret
          exact ⟨rfl, HF.out _ _ HX.out.1 HX.out.2.1 HX.out.2.2 hb⟩
        · rw [hr]
          generalize oddAt s = o at *
          obtain ⟨n, rfl⟩ := Int.eq_ofNat_of_zero_le ho0
          have HC2 := Lib.hid hc2
          clear hr hc2
          have hlt : decide ((n : Int) < 0) = false := by simp
          go_enter Tryz.func22, Tryz.ntmps22
          go_wp2_with (first | (go_at_call 28; refine (HC1.out _ HI.out HB.out).mono ?_; rintro e w1 ⟨rfl, hI1, hB1, hK1⟩; have HX := Lib.hid (And.intro hI1 (And.intro hB1 hK1)); clear hI1 hB1 hK1) | (go_at_call 44; refine (HC2.out _).mono ?_; rintro e w2 ⟨rfl, hb⟩))
          go_ret
          exact ⟨rfl, HF.out _ _ HX.out.1 HX.out.2.1 HX.out.2.2 hb⟩
      · rw [if_pos c1, if_pos c2, if_neg c3] at h
        exact absurd h (by simp)
    · rw [if_pos c1, if_neg c2] at h
      exact absurd h (by simp)
  · rw [if_neg c1] at h
    exact absurd h (by simp)
end Go.Proofs.YtihidbjffclfkaaGreatDoor.PLex
