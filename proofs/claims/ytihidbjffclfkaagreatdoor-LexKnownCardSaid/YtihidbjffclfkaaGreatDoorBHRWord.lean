/- Part of the proof: what it uses of HRWord. -/
import Derived.Test.YtihidbjffclfkaaGreatDoorBHR5
import Derived.Test.YtihidbjffclfkaaGreatDoorBHRWalk
namespace Go.Proofs.YtihidbjffclfkaaGreatDoor.PLex
open Go.RowKit Go.Maps Go.Proofs.YtihidbjffclfkaaGreatDoorW.PrintWords Go.Proofs.YtihidbjffclfkaaGreatDoorW.PrintLast Go.Proofs.YtihidbjffclfkaaGreatDoorW.PrintMore Go.Proofs.YtihidbjffclfkaaGreatDoor.Lx
set_option linter.unusedVariables false
set_option linter.unusedSimpArgs false
def rtok (s : ByteArray) (a : Int) : Tok → Int × Int × ByteArray × Int × Int × Int
  | .word kd t v r => ((kd : Int), a, ⟨t.toArray⟩, (v : Int), ((s.size - r.length : Nat) : Int), 0)
  | .bad e => (0, a, ⟨#[]⟩, 0, 0, (e : Int))
def signetryref03_word.f (k : Nat) (a0 : ByteArray) (a1 : Int) : Option (Int × Int × ByteArray × Int × Int × Int) :=
  if a0.size ≤ 65536 ∧ 62 * a0.size + 200 ≤ k ∧ 0 ≤ a1 ∧ a1 < (a0.size : Int) then some (rtok a0 a1 (tokL (a0.data.toList.drop a1.toNat))) else none
theorem ext_eq (s : ByteArray) (p n : Nat) (l : List UInt8) (h : s.data.toList.drop p = l) : s.extract p (p + n) = ⟨(l.take n).toArray⟩ := by
  apply ByteArray.ext
  apply Array.ext'
  show (s.extract p (p + n)).data.toList = l.take n
  rw [← Lib.toList_data, Lib.extract_toList, h, Nat.add_sub_cancel_left]
theorem tw_take (l : List UInt8) (f : UInt8 → Bool) : l.take (l.takeWhile f).length = l.takeWhile f := by
  have h := List.takeWhile_append_dropWhile (p := f) (l := l)
  have h2 := List.take_left (l₁ := l.takeWhile f) (l₂ := l.dropWhile f)
  rw [h] at h2
  exact h2
theorem numIs_small (l : List UInt8) (v : Nat) (h : numIs l = .ok v) : v ≤ 2147483648 := by
  obtain ⟨b, rl, hp⟩ : ∃ b rl, numParts l = (b, rl) := ⟨_, _, rfl⟩
  rw [numIs_eq l rl b hp] at h
  split at h
  · cases h
  · split at h
    · rename_i h2
      injection h with h
      omega
    · cases h
theorem rcase (k : Nat) (a0 : ByteArray) (p : Nat) (c : UInt8) (l : List UInt8) (hs : a0.size ≤ 65536) (hk : 62 * a0.size + 200 ≤ k) (hp : p < a0.size) (hd : a0.data.toList.drop p = c :: l) (hb : bt a0 (p : Int) = (c.toNat : Int)) (hl1 : a0.data.toList.drop (p + 1) = l) (hl2 : l.length + 1 = a0.size - p) :
    WCase k a0 p c (isLetter c) ((rtok a0 (p : Int) (tokL (c :: l))).1, (rtok a0 (p : Int) (tokL (c :: l))).2.2) := by
  have hrest : signetryref03_rest.f k a0 (p : Int) = some ((p + ((c :: l).takeWhile isAl).length : Nat) : Int) := by
    rw [← hd]
    exact rrest_eq a0 hs (a0.size - p) k p (Nat.le_refl _) (by omega) (by omega)
  have htl : ((c :: l).takeWhile isAl).length + ((c :: l).dropWhile isAl).length = a0.size - p := by
    have := congrArg List.length (tw_dw (c :: l))
    rw [List.length_append, List.length_cons, hl2] at this
    exact this.symm
  have htx : a0.extract p (p + ((c :: l).takeWhile isAl).length) = ⟨((c :: l).takeWhile isAl).toArray⟩ := by
    rw [ext_eq a0 p _ _ hd, tw_take]
  by_cases h1 : isLetter c = true
  · rw [h1]
    simp only [tokL]
    rw [if_pos h1]
    by_cases h2 : 32 < ((c :: l).takeWhile isAl).length
    · rw [if_pos h2]
      exact WCase.identLong (p + ((c :: l).takeWhile isAl).length) (by omega) (by omega) hrest
    · rw [if_neg h2]
      have := WCase.ident (k := k) (a0 := a0) (p := p) (c := c) (p + ((c :: l).takeWhile isAl).length) (by omega) (by omega) (by omega) hrest
      rw [htx] at this
      simp only [rtok]
      rw [show a0.size - ((c :: l).dropWhile isAl).length = p + ((c :: l).takeWhile isAl).length by omega]
      exact this
  · rw [show isLetter c = false by simpa using h1]
    simp only [tokL]
    rw [if_neg h1]
    have hdig := rdigit c
    by_cases h2 : isDigit c = true
    · rw [if_pos h2]
      rw [h2] at hdig
      have hw : 0 < ((c :: l).takeWhile isAl).length := by
        rw [List.takeWhile_cons_of_pos (al_of (.inr h2)), List.length_cons]
        omega
      have hn : signetryref03_number.f k (a0.extract p (p + ((c :: l).takeWhile isAl).length)) = some (rnum (numIs ((c :: l).takeWhile isAl))) := by
        have hsz : (⟨((c :: l).takeWhile isAl).toArray⟩ : ByteArray).size = ((c :: l).takeWhile isAl).length := by rw [Lib.size_eq]
        rw [htx, rnumber _ (by rw [hsz]; omega) (by rw [hsz]; exact hw) k (by rw [hsz]; omega)]
      cases hni : numIs ((c :: l).takeWhile isAl) with
      | ok v =>
        rw [hni] at hn
        have hv : v ≤ 2147483648 := numIs_small _ _ hni
        have := WCase.num (k := k) (a0 := a0) (p := p) (c := c) (p + ((c :: l).takeWhile isAl).length) (v : Int) (by omega) (by omega) (by omega) (by omega) hdig hrest hn
        rw [htx] at this
        simp only [rtok]
        rw [show a0.size - ((c :: l).dropWhile isAl).length = p + ((c :: l).takeWhile isAl).length by omega]
        exact this
      | word =>
        rw [hni] at hn
        exact WCase.numNone (p + ((c :: l).takeWhile isAl).length) (-1) (by omega) (by omega) (by decide) hdig hrest hn
      | range =>
        rw [hni] at hn
        exact WCase.numRange (p + ((c :: l).takeWhile isAl).length) 2147483649 (by omega) (by omega) (by decide) (by decide) hdig hrest hn
    · rw [if_neg h2]
      rw [show isDigit c = false by simpa using h2] at hdig
      by_cases h3 : c.toNat = 34 ∨ c.toNat = 39
      · rw [if_pos h3]
        have hq : (((c.toNat : Int) == 34) = true) ∨ ((((c.toNat : Int) == 34) = false) ∧ (((c.toNat : Int) == 39) = true)) := by
          by_cases h34 : c.toNat = 34
          · exact .inl (by rw [h34]; rfl)
          · exact .inr ⟨by rw [beq_eq_false_iff_ne]; omega, by rw [show c.toNat = 39 by omega]; rfl⟩
        have hli := rlit_eq a0 hs p c (by omega) hp hb (a0.size - (p + 1)) k (p + 1) (Nat.le_refl _) (by omega) (by omega)
        have hlf : signetryref03_literal.f k a0 (p : Int) = signetryref03_literal.l0 k a0 (p : Int) ((p + 1 : Nat) : Int) := by
          unfold signetryref03_literal.f
          rw [w1_ p (by omega)]
        rw [← hlf, hl1] at hli
        cases hll : litL c l with
        | none =>
          rw [hll] at hli
          exact WCase.litNone 0 hq hdig hli
        | some r2 =>
          rw [hll] at hli
          have hlt := litL_len _ _ _ hll
          have hex : a0.extract p (a0.size - r2.length) = ⟨((c :: l).take (l.length + 1 - r2.length)).toArray⟩ := by
            have := ext_eq a0 p (l.length + 1 - r2.length) _ hd
            rw [show p + (l.length + 1 - r2.length) = a0.size - r2.length by omega] at this
            exact this
          have hu : signetryref02_Unquote.f k (a0.extract p (a0.size - r2.length)) = rUnq (unquote ((c :: l).take (l.length + 1 - r2.length))) := by
            rw [hex]
            exact runquote _ (by rw [Lib.size_eq, List.length_take, List.length_cons]; omega) k (by rw [Lib.size_eq, List.length_take, List.length_cons]; omega)
          simp only
          cases hun : unquote ((c :: l).take (l.length + 1 - r2.length)) with
          | none =>
            rw [hun] at hu
            exact WCase.litBad (a0.size - r2.length) [] 21 (by omega) (by omega) (by decide) hq hdig hli hu
          | some b =>
            rw [hun] at hu
            have := WCase.lit (k := k) (a0 := a0) (p := p) (c := c) (a0.size - r2.length) (bl b) (by omega) (by omega) hq hdig hli hu
            rw [nums_bl] at this
            exact this
      · rw [if_neg h3]
        have b34 : ((c.toNat : Int) == 34) = false := by rw [beq_eq_false_iff_ne]; omega
        have b39 : ((c.toNat : Int) == 39) = false := by rw [beq_eq_false_iff_ne]; omega
        have hsg := rsign c k (by omega)
        by_cases h4 : isSign c = true
        · rw [if_pos h4]
          rw [h4] at hsg
          have := WCase.sign (k := k) (a0 := a0) (p := p) (c := c) (p + 1) (by omega) b34 b39 hdig hsg
          rw [ext_eq a0 p 1 _ hd] at this
          simp only [rtok]
          rw [show a0.size - l.length = p + 1 by omega]
          exact this
        · rw [if_neg h4]
          rw [show isSign c = false by simpa using h4] at hsg
          exact WCase.none_ b34 b39 hdig hsg
theorem signetryref03_word.calls (k : Nat) (a0 : ByteArray) (a1 : Int) (r1 : Int) (r2 : Int) (r3 : ByteArray) (r4 : Int) (r5 : Int) (r6 : Int) (w : World) (h : signetryref03_word.f k a0 a1 = some (r1, r2, r3, r4, r5, r6)) :
    Calls Tryz.prog 16 #[.string a0, .int .i64 a1] w fun e w' => e = .returned (.tuple #[.agg #[.int .i64 r1, .int .i64 r2, .string r3, .int .i64 r4], .int .i64 r5, .int .i64 r6]) ∧ Below w.heap.size w w' := by
  unfold signetryref03_word.f at h
  by_cases hc : a0.size ≤ 65536 ∧ 62 * a0.size + 200 ≤ k ∧ 0 ≤ a1 ∧ a1 < (a0.size : Int)
  · rw [if_pos hc] at h
    obtain ⟨hs, hk, h0, h1⟩ := hc
    obtain ⟨p, rfl⟩ : ∃ p : Nat, a1 = (p : Int) := ⟨a1.toNat, by omega⟩
    have hp : p < a0.size := by omega
    obtain ⟨c, l, hd, hb, hl1, hl2⟩ := drop_parts a0 p hp
    rw [Int.toNat_natCast, hd] at h
    have hcase := rcase k a0 p c l hs hk hp hd hb hl1 hl2
    have hr2 : (rtok a0 (p : Int) (tokL (c :: l))).2.1 = (p : Int) := by cases tokL (c :: l) <;> rfl
    rw [Option.some.inj h] at hcase hr2
    have ha : a0[p] = c := by
      have h2 := congrArg List.head? hd
      rw [List.head?_drop, List.head?_cons] at h2
      have h3 : a0.data.toList[p]? = some a0[p] := by
        show _ = some a0.data[p]
        rw [← Array.getElem_toList, List.getElem?_eq_getElem]
      rw [h3] at h2
      exact Option.some.inj h2
    have := rword_calls k a0 p w h1 hp c ha hs (isLetter c) (rletter c) _ hcase
    simp only at hr2
    subst hr2
    exact this
  · rw [if_neg hc] at h
    cases h
end Go.Proofs.YtihidbjffclfkaaGreatDoor.PLex
