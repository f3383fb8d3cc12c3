/- Part of the proof: what it uses of HCut. -/
import Derived.BigQuiet
import Derived.Deep.LoopGhost
import Derived.IntWalk
import Derived.Outline
import Derived.Test.YtihidbjffclfkaaGreatDoorBHRun
namespace Go.Proofs.YtihidbjffclfkaaGreatDoor.PLex
open Go.RowKit Go.Proofs.YtihidbjffclfkaaGreatDoorW.PrintWords Go.Proofs.YtihidbjffclfkaaGreatDoorW.PrintLast Go.Proofs.YtihidbjffclfkaaGreatDoorW.PrintMore Go.Proofs.YtihidbjffclfkaaGreatDoor.Lx
set_option linter.unusedVariables false
set_option linter.unusedSimpArgs false
def Low (s : ByteArray) : Prop := ∀ j, (hj : j < s.size) → (s[j]'hj).toNat < 128
theorem take_take (s : ByteArray) (n m : Nat) (h : m ≤ n) : (s.extract 0 n).extract 0 m = s.extract 0 m := by
  apply ByteArray.ext
  apply Array.ext'
  simp only [ByteArray.data_extract, Array.toList_extract, List.extract_eq_take_drop, List.drop_zero, Nat.sub_zero, List.take_take]
  rw [Nat.min_eq_left h]
def inB (c : UInt8) (set : ByteArray) (p : Nat) : Bool := (set.data.toList.take p).contains c
theorem inB_succ (c : UInt8) (set : ByteArray) (p : Nat) (h : p < set.size) : inB c set (p + 1) = (inB c set p || ((c.toNat : Int) == ((set[p]'h).toNat : Int))) := by
  have hl : set.data.toList.length = set.size := (Lib.size_eq set).symm
  unfold inB
  rw [List.take_add_one, List.getElem?_eq_getElem (by omega)]
  simp only [Option.toList_some, List.contains_eq_mem, List.mem_append, List.mem_singleton]
  rw [Bool.eq_iff_iff]
  simp only [Bool.or_eq_true, decide_eq_true_eq, beq_iff_eq]
  constructor
  · rintro (h1 | h1)
    · exact Or.inl h1
    · right
      rw [h1]
      rfl
  · rintro (h1 | h1)
    · exact Or.inl h1
    · right
      apply UInt8.toNat_inj.1
      have : (set[p]'h).toNat = c.toNat := by omega
      exact this.symm
set_option maxRecDepth 100000 in
set_option maxHeartbeats 1600000 in
theorem cutLeft_calls (s set : ByteArray) (hs : s.size ≤ 1099511627776) (hls : Low s) (hset : set.size ≤ 1099511627776) (hlset : Low set) (w : World) :
    Calls Tryz.prog 25 #[.string s, .string set] w fun e w' => ∃ t : ByteArray, e = .returned (.string t) ∧
      ((t = ⟨#[]⟩ ∧ ∀ j, (hj : j < s.size) → inB (s[j]'hj) set set.size = true) ∨ (∃ k, ∃ hk : k < s.size, t = s.extract k s.size ∧ inB (s[k]'hk) set set.size = false)) ∧ Below w.heap.size w w' := by
  have hk0 : (w.iter s 0).heap[w.heap.size]? = some (.stringIter s 0) := World.iter_heap w s 0
  have hb0 : Below w.heap.size w (w.iter s 0) := (Below.refl _ w).alloc (Nat.le_refl _) _
  go_enter Tryz.func25, Tryz.ntmps25
  go_wp2
  go_loopg [7] s.size (fun kq v7 wr => ∃ pos : Nat, kq + pos = s.size ∧ wr.heap[w.heap.size]? = some (.stringIter s pos) ∧ Aside0 (∀ j, (hj : j < pos) → (hp : pos ≤ s.size) → inB (s[j]'(by omega)) set set.size = true) ∧ Aside0 (Below w.heap.size w wr))
  case atStart => exact ⟨0, by omega, hk0, ⟨fun j hj => absurd hj (by omega)⟩, ⟨hb0⟩⟩
  case round =>
    obtain ⟨pos, hkq, hk, hall, hnx⟩ := hrel
    clear hk0 hb0
    by_cases hp : pos < s.size
    · have hlow := hls pos hp
      have hnext : ∀ ty, (Instr.next (.pointer (some ⟨w.heap.size, 0, none⟩)) true ty).run Tryz.prog wr = _ := fun ty => Lib.run_next_ascii_at wr w.heap.size s pos ty hk hp hlow
      have hk1 := Lib.iterAt_heap wr w.heap.size s pos (pos + 1) hk
      have hnx1 : Below w.heap.size w (wr.iterAt w.heap.size s (pos + 1)) := Lib.below_iterAt hnx.out (Nat.le_refl _) s (pos + 1)
      generalize wr.iterAt w.heap.size s (pos + 1) = W1 at hnext hk1 hnx1
      have hk2 : (W1.iter set 0).heap[W1.heap.size]? = some (.stringIter set 0) := World.iter_heap W1 set 0
      have hb2 : Below W1.heap.size W1 (W1.iter set 0) := (Below.refl _ W1).alloc (Nat.le_refl _) _
      have hk1b : (W1.iter set 0).heap[w.heap.size]? = some (.stringIter s (pos + 1)) := blk_below hk1 hb2
      have hbb : Below w.heap.size w (W1.iter set 0) := below_then hnx1 hnx1.size hb2
      have hne : w.heap.size < W1.heap.size := blk_lt hk1
      obtain ⟨c, hc⟩ : ∃ c, c = s[pos]'hp := ⟨_, rfl⟩
      rw [← hc] at hnext
      have HK := Lib.hid hc
      have HQ := Lib.hid hkq
      have HNE := Lib.hid hne
      have HLS := Lib.hid hlow
      clear hc hkq hnx hb2 hk hnx1 hk1 hne hlow
      go_wp2
      go_loopg [7] set.size (fun kq v7 wr2 => ∃ p2 : Nat, kq + p2 = set.size ∧ wr2.heap[W1.heap.size]? = some (.stringIter set p2) ∧ wr2.heap[w.heap.size]? = some (.stringIter s (pos + 1)) ∧ v7 = .bool (inB c set p2) ∧ Aside0 (Below w.heap.size w wr2))
      case atStart => exact ⟨0, by omega, hk2, hk1b, rfl, ⟨hbb⟩⟩
      case round =>
        obtain ⟨p2, hkq2, hk3, hk4, rfl, hnx3⟩ := hrel
        clear hk2 hk1b hbb
        try clear hnext
        by_cases hp2 : p2 < set.size
        · have hlow2 := hlset p2 hp2
          have hnext2 : ∀ ty, (Instr.next (.pointer (some ⟨W1.heap.size, 0, none⟩)) true ty).run Tryz.prog wr = _ := fun ty => Lib.run_next_ascii_at wr W1.heap.size set p2 ty hk3 hp2 hlow2
          have hk5 := Lib.iterAt_heap wr W1.heap.size set p2 (p2 + 1) hk3
          have hk6 : (wr.iterAt W1.heap.size set (p2 + 1)).heap[w.heap.size]? = some (.stringIter s (pos + 1)) := (Lib.iterAt_other wr W1.heap.size w.heap.size set (p2 + 1) (by have := HNE.out; omega)).trans hk4
          have hnx4 : Below w.heap.size w (wr.iterAt W1.heap.size set (p2 + 1)) := Lib.below_iterAt hnx3.out (by have := HNE.out; omega) set (p2 + 1)
          generalize wr.iterAt W1.heap.size set (p2 + 1) = W2 at hnext2 hk5 hk6 hnx4
          have HS := Aside0.mk (inB_succ c set p2 hp2)
          have HQ2 := Lib.hid hkq2
          clear hkq2 hnx3 hk3 hk4 hlow2
          obtain ⟨b, hb⟩ : ∃ b, b = inB c set p2 := ⟨_, rfl⟩
          rw [← hb] at HS ⊢
          clear hb
          cases b with
          | true =>
            go_wp2
            go_roundg (set.size - (p2 + 1))
            case measure => have := HQ2.out; omega
            case rel => exact ⟨p2 + 1, by omega, hk5, hk6, by rw [HS.out]; rfl, ⟨hnx4⟩⟩
          | false =>
            go_wp2
            go_roundg (set.size - (p2 + 1))
            case measure => have := HQ2.out; omega
            case rel => exact ⟨p2 + 1, by omega, hk5, hk6, by rw [HS.out]; rfl, ⟨hnx4⟩⟩
        · have hpe : p2 = set.size := by omega
          have hnext2 : ∀ ty, (Instr.next (.pointer (some ⟨W1.heap.size, 0, none⟩)) true ty).run Tryz.prog wr = _ := fun ty => Lib.run_next_end_at wr W1.heap.size set p2 ty hk3 hp2
          rw [hpe] at *
          have HQ2 := Lib.hid hkq2
          clear hkq2 hp2 hpe
          obtain ⟨b, hb⟩ : ∃ b, b = inB c set set.size := ⟨_, rfl⟩
          rw [← hb]
          have HB2 := Lib.hid hb
          clear hb
          cases b with
          | true =>
            go_wp2
            go_roundg (s.size - (pos + 1))
            case measure => have := HQ.out; omega
            case rel =>
              refine ⟨pos + 1, by omega, hk4, ⟨fun j hj hp' => ?_⟩, hnx3⟩
              by_cases hjp : j = pos
              · subst hjp
                rw [← HK.out]
                exact HB2.out.symm
              · exact hall.out j (by omega) (by omega)
          | false =>
            have hpi : (pos : Int) ≤ (s.size : Int) := by omega
            go_wp2
            try rw [Exit.noGoto_ret]
            go_ret
            refine ⟨_, rfl, Or.inr ⟨pos, hp, rfl, ?_⟩, hnx3.out⟩
            rw [← HK.out]
            exact HB2.out.symm
    · have hnext : ∀ ty, (Instr.next (.pointer (some ⟨w.heap.size, 0, none⟩)) true ty).run Tryz.prog wr = _ := fun ty => Lib.run_next_end_at wr w.heap.size s pos ty hk hp
      go_wp2
      try rw [Exit.noGoto_ret]
      go_ret
      exact ⟨_, rfl, Or.inl ⟨rfl, fun j hj => hall.out j (by omega) (by omega)⟩, hnx.out⟩
set_option maxRecDepth 100000 in
theorem decode_last (s : ByteArray) (hs : s.size ≤ 1099511627776) (h : 0 < s.size) (hl : (s[s.size - 1]'(by omega)).toNat < 128) (w : World) :
    Calls Tryz.prog 46 #[.string s] w fun e w' => e = .returned (.tuple #[.int .i32 ((s[s.size - 1]'(by omega)).toNat : Int), .int .i64 1]) ∧ Below w.heap.size w w' := by
  have h9 : s.size - 1 < s.size := by omega
  have h1 : ((s.size : Int) == 0) = false := by rw [beq_eq_false_iff_ne]; omega
  have hwr : IntKind.i64.wrap ((s.size : Int) - 1) = (s.size : Int) - 1 := IntWalk.i64_in _ (by omega)
  have h6 : (0 : Int) ≤ (s.size : Int) - 1 := by omega
  have h6b : decide ((0 : Int) ≤ (s.size : Int) - 1) = true := decide_eq_true h6
  have h8 : (s.size : Int) - 1 < (s.size : Int) := by omega
  have h8b : decide ((s.size : Int) - 1 < (s.size : Int)) = true := decide_eq_true h8
  have h10 : (1 : Int) ≤ (s.size : Int) := by omega
  have h11 : decide (((s[s.size - 1]'h9).toNat : Int) < 128) = true := by simp; omega
  have h12 : ((s[s.size - 1]'h9).toNat : Int) < 128 := by omega
  go_enter Tryz.func46, Tryz.ntmps46
  go_wp2
  go_ret2
  exact ⟨rfl, Below.refl _ _⟩
set_option maxRecDepth 100000 in
set_option maxHeartbeats 1600000 in
theorem cutRight_calls (s set : ByteArray) (hs : s.size ≤ 1099511627776) (hls : Low s) (hset : set.size ≤ 1099511627776) (hlset : Low set) (h0 : 0 < s.size) (hf : inB (s[0]'h0) set set.size = false) (w : World) :
    Calls Tryz.prog 24 #[.string s, .string set] w fun e w' => ∃ t : ByteArray, e = .returned (.string t) ∧ 0 < t.size ∧ Below w.heap.size w w' := by
  have hb0 := Below.refl w.heap.size w
  go_enter Tryz.func24, Tryz.ntmps24
  go_wp2
  go_loopg [0] s.size (fun kq v0 wr => ∃ n : Nat, ∃ t : ByteArray, v0 = .string t ∧ Aside0 (t = s.extract 0 n ∧ 0 < n ∧ n ≤ s.size ∧ kq = n ∧ t.size = n) ∧ Aside0 (Below w.heap.size w wr))
  case atStart => exact ⟨s.size, s, rfl, ⟨ByteArray.extract_zero_size.symm, h0, Nat.le_refl _, rfl, rfl⟩, ⟨hb0⟩⟩
  case round =>
    obtain ⟨n, t, rfl, ht, hnx⟩ := hrel
    clear hb0
    have hts : 0 < t.size := by have := ht.out; omega
    have htl := Aside0.mk hts
    have hgt : (0 : Int) < (t.size : Int) := by omega
    have hgt2 : decide ((t.size : Int) > 0) = true := decide_eq_true hgt
    have hge : ∀ j, (hj : j < t.size) → ∃ h2 : j < s.size, t[j]'hj = s[j]'h2 := by
      intro j hj
      have h1 := ht.out
      obtain ⟨h1, h2, h3, h4, h5⟩ := h1
      refine ⟨by omega, ?_⟩
      subst h1
      rw [ByteArray.getElem_extract]
      simp
    have hlt : (t[t.size - 1]'(by omega)).toNat < 128 := by
      obtain ⟨h2, h3⟩ := hge (t.size - 1) (by omega)
      rw [h3]
      exact hls _ h2
    have hdl := fun w => decode_last t (by have := ht.out; omega) hts hlt w
    obtain ⟨c, hc⟩ : ∃ c, c = t[t.size - 1]'(by omega) := ⟨_, rfl⟩
    rw [← hc] at hdl
    have HK := Lib.hid hc
    have HD := Lib.hid hdl
    have HGE := Lib.hid hge
    clear hc hdl hge hlt
    go_wp2_with (go_at_call 46; refine (HD.out _).mono ?_; rintro e W1 ⟨rfl, hb⟩; have HB1 := Aside0.mk (below_then hnx.out hnx.out.size hb); clear hnx hb; have hnx := HB1; clear HB1)
    have hk2 : (W1.iter set 0).heap[W1.heap.size]? = some (.stringIter set 0) := World.iter_heap W1 set 0
    have hb2 : Below W1.heap.size W1 (W1.iter set 0) := (Below.refl _ W1).alloc (Nat.le_refl _) _
    have hbb : Below w.heap.size w (W1.iter set 0) := below_then hnx.out hnx.out.size hb2
    have hne : w.heap.size ≤ W1.heap.size := hnx.out.size
    have HNE := Lib.hid hne
    clear hb2 hne hnx
    go_loopg [7] set.size (fun kq v7 wr2 => ∃ p2 : Nat, kq + p2 = set.size ∧ wr2.heap[W1.heap.size]? = some (.stringIter set p2) ∧ v7 = .bool (inB c set p2) ∧ Aside0 (Below w.heap.size w wr2))
    case atStart => exact ⟨0, by omega, hk2, rfl, ⟨hbb⟩⟩
    case round =>
      obtain ⟨p2, hkq2, hk3, rfl, hnx3⟩ := hrel
      clear hk2 hbb
      by_cases hp2 : p2 < set.size
      · have hlow2 := hlset p2 hp2
        have hnext2 : ∀ ty, (Instr.next (.pointer (some ⟨W1.heap.size, 0, none⟩)) true ty).run Tryz.prog wr = _ := fun ty => Lib.run_next_ascii_at wr W1.heap.size set p2 ty hk3 hp2 hlow2
        have hk5 := Lib.iterAt_heap wr W1.heap.size set p2 (p2 + 1) hk3
        have hnx4 : Below w.heap.size w (wr.iterAt W1.heap.size set (p2 + 1)) := Lib.below_iterAt hnx3.out (by have := HNE.out; omega) set (p2 + 1)
        generalize wr.iterAt W1.heap.size set (p2 + 1) = W2 at hnext2 hk5 hnx4
        have HS := Aside0.mk (inB_succ c set p2 hp2)
        have HQ2 := Lib.hid hkq2
        clear hkq2 hnx3 hk3 hlow2
        obtain ⟨b, hb⟩ : ∃ b, b = inB c set p2 := ⟨_, rfl⟩
        rw [← hb] at HS ⊢
        clear hb
        cases b with
        | true =>
          go_wp2
          go_roundg (set.size - (p2 + 1))
          case measure => have := HQ2.out; omega
          case rel => exact ⟨p2 + 1, by omega, hk5, by rw [HS.out]; rfl, ⟨hnx4⟩⟩
        | false =>
          go_wp2
          go_roundg (set.size - (p2 + 1))
          case measure => have := HQ2.out; omega
          case rel => exact ⟨p2 + 1, by omega, hk5, by rw [HS.out]; rfl, ⟨hnx4⟩⟩
      · have hpe : p2 = set.size := by omega
        have hnext2 : ∀ ty, (Instr.next (.pointer (some ⟨W1.heap.size, 0, none⟩)) true ty).run Tryz.prog wr = _ := fun ty => Lib.run_next_end_at wr W1.heap.size set p2 ty hk3 hp2
        rw [hpe] at *
        have HQ2 := Lib.hid hkq2
        clear hkq2 hp2 hpe
        obtain ⟨b, hb⟩ : ∃ b, b = inB c set set.size := ⟨_, rfl⟩
        rw [← hb]
        have HB2 := Lib.hid hb
        clear hb
        cases b with
        | true =>
          have hn1 : n ≠ 1 := by
            intro h1
            obtain ⟨h2, h3⟩ := HGE.out (t.size - 1) (by have := htl.out; omega)
            have h4 := HK.out
            rw [h3] at h4
            have h5 : t.size - 1 = 0 := by have := ht.out; omega
            have h6 : c = s[0]'h0 := by rw [h4]; congr 1
            have h7 := HB2.out
            rw [h6, hf] at h7
            cases h7
          have hwr : IntKind.i64.wrap ((t.size : Int) - 1) = (t.size : Int) - 1 := IntWalk.i64_in _ (by have := ht.out; omega)
          have h6 : (0 : Int) ≤ (t.size : Int) - 1 := by omega
          have h8 : (t.size : Int) - 1 ≤ (t.size : Int) := by omega
          have hti : (1 : Int) ≤ (t.size : Int) := by omega
          have HN1 := Lib.hid hn1
          clear hn1
          go_wp2
          go_roundg (n - 1)
          case measure => have := ht.out; have := HN1.out; omega
          case rel =>
            refine ⟨n - 1, _, rfl, ⟨?_⟩, hnx3⟩
            obtain ⟨h1, h2, h3, h4, h5⟩ := ht.out
            have h7 := HN1.out
            refine ⟨?_, by omega, by omega, rfl, ?_⟩
            · rw [h5, h1, take_take s n (n - 1) (by omega)]
            · rw [ByteArray.size_extract]; omega
        | false =>
          go_wp2
          try rw [Exit.noGoto_ret]
          go_ret
          exact ⟨_, rfl, htl.out, hnx3.out⟩
end Go.Proofs.YtihidbjffclfkaaGreatDoor.PLex
