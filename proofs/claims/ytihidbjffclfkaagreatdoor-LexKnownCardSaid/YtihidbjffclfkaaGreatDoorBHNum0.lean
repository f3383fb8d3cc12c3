/- Part of the proof: what it uses of HNum0. -/
import Derived.Test.YtihidbjffclfkaaGreatDoorBHCut
import Derived.Test.YtihidbjffclfkaaGreatDoorBHDig
import Derived.Test.YtihidbjffclfkaaGreatDoorBHPub
namespace Go.Proofs.YtihidbjffclfkaaGreatDoor.Lx
def numParts : List UInt8 → Nat × List UInt8
  | a :: b :: r => if a.toNat = 48 then (if low b = 120 then (16, r) else (8, b :: r)) else (10, a :: b :: r)
  | l => (10, l)
inductive NumIs where
  | ok (n : Nat)
  | word
  | range
def numIs (l : List UInt8) : NumIs :=
  if (numParts l).2 = [] ∨ ¬ ((numParts l).2.all fun c => decide (dig c < (numParts l).1)) = true then .word
  else if val (numParts l).1 (numParts l).2 0 ≤ 2147483648 then .ok (val (numParts l).1 (numParts l).2 0) else .range
def hexB : ByteArray := ⟨#[48, 49, 50, 51, 52, 53, 54, 55, 56, 57, 97, 98, 99, 100, 101, 102]⟩
end Go.Proofs.YtihidbjffclfkaaGreatDoor.Lx
namespace Go.Proofs.YtihidbjffclfkaaGreatDoor.PLex
open Go.RowKit Go.Proofs.YtihidbjffclfkaaGreatDoorW.PrintWords Go.Proofs.YtihidbjffclfkaaGreatDoorW.PrintLast Go.Proofs.YtihidbjffclfkaaGreatDoorW.PrintMore Go.Proofs.YtihidbjffclfkaaGreatDoor.Lx
set_option linter.unusedVariables false
set_option linter.unusedSimpArgs false
theorem hex_low : Low hexB := by
  have : ∀ j : Fin 16, (hexB[j.1]'(by exact j.2)).toNat < 128 := by decide
  exact fun j hj => this ⟨j, hj⟩
theorem hex_size : hexB.size = 16 := rfl
theorem hex_low' (b : Nat) : Low (hexB.extract 0 b) := by
  intro j hj
  rw [ByteArray.getElem_extract]
  exact hex_low _ _
theorem lowerB_low (c : UInt8) (h : c.toNat < 128) : (Lib.lowerB c).toNat < 128 := by
  have key : ∀ n : Fin 128, (Lib.lowerB (UInt8.ofNat n.1)).toNat < 128 := by decide
  have h2 := key ⟨c.toNat, h⟩
  simpa using h2
theorem inB_dig8 (c : UInt8) (h : c.toNat < 128) : inB (Lib.lowerB c) (hexB.extract 0 8) (hexB.extract 0 8).size = decide (dig c < 8) := by
  have key : ∀ n : Fin 128, inB (Lib.lowerB (UInt8.ofNat n.1)) (hexB.extract 0 8) (hexB.extract 0 8).size = decide (dig (UInt8.ofNat n.1) < 8) := by decide +kernel
  have h2 := key ⟨c.toNat, h⟩
  simpa using h2
theorem inB_dig10 (c : UInt8) (h : c.toNat < 128) : inB (Lib.lowerB c) (hexB.extract 0 10) (hexB.extract 0 10).size = decide (dig c < 10) := by
  have key : ∀ n : Fin 128, inB (Lib.lowerB (UInt8.ofNat n.1)) (hexB.extract 0 10) (hexB.extract 0 10).size = decide (dig (UInt8.ofNat n.1) < 10) := by decide +kernel
  have h2 := key ⟨c.toNat, h⟩
  simpa using h2
theorem inB_dig16 (c : UInt8) (h : c.toNat < 128) : inB (Lib.lowerB c) (hexB.extract 0 16) (hexB.extract 0 16).size = decide (dig c < 16) := by
  have key : ∀ n : Fin 128, inB (Lib.lowerB (UInt8.ofNat n.1)) (hexB.extract 0 16) (hexB.extract 0 16).size = decide (dig (UInt8.ofNat n.1) < 16) := by decide +kernel
  have h2 := key ⟨c.toNat, h⟩
  simpa using h2
def lowT (r : ByteArray) : ByteArray := ⟨(Lib.toLowerA r.data.toList).toArray⟩
theorem lowT_size (r : ByteArray) : (lowT r).size = r.size := by
  rw [Lib.size_eq r]
  show (Lib.toLowerA r.data.toList).toArray.size = _
  simp [Lib.toLowerA]
theorem lowT_at (r : ByteArray) (j : Nat) (h : j < (lowT r).size) (h2 : j < r.size) : (lowT r)[j]'h = Lib.lowerB (r[j]'h2) := by
  show (Lib.toLowerA r.data.toList).toArray[j]'_ = _
  simp [Lib.toLowerA]
  rfl
theorem lowT_low (r : ByteArray) (h : Low r) : Low (lowT r) := by
  intro j hj
  have h2 : j < r.size := by rw [← lowT_size]; exact hj
  rw [lowT_at r j hj h2]
  exact lowerB_low _ (h j h2)
theorem lowT_calls (r : ByteArray) (hs : r.size ≤ 140737488355328) (hl : Low r) (w : World) :
    Calls Tryz.prog 26 #[.string r] w fun e w' => e = .returned (.string (lowT r)) ∧ Below w.heap.size w w' :=
  Tryz.strings_ToLower_ascii r w hs (by
    intro j b hb
    obtain ⟨hj, rfl⟩ := List.getElem?_eq_some_iff.1 hb
    exact hl j (by rw [Lib.size_eq]; exact hj))
set_option maxRecDepth 100000 in
theorem cutRight_empty (set : ByteArray) (w : World) :
    Calls Tryz.prog 24 #[.string ⟨#[]⟩, .string set] w fun e w' => e = .returned (.string ⟨#[]⟩) ∧ Below w.heap.size w w' := by
  have hb0 := Below.refl w.heap.size w
  go_enter Tryz.func24, Tryz.ntmps24
  go_wp2
  go_loopg [0] 0 (fun kq v0 wr => v0 = .string ⟨#[]⟩ ∧ Aside0 (Below w.heap.size w wr))
  case atStart => exact ⟨rfl, ⟨hb0⟩⟩
  case round =>
    obtain ⟨rfl, hnx⟩ := hrel
    go_wp2
    try rw [Exit.noGoto_ret]
    go_ret
    exact ⟨rfl, hnx.out⟩
theorem chk_ok (b : Nat) (hin : ∀ c : UInt8, c.toNat < 128 → inB (Lib.lowerB c) (hexB.extract 0 b) (hexB.extract 0 b).size = decide (dig c < b)) (r : ByteArray) (hs : r.size ≤ 1099511627776) (hl : Low r) (hall : r.data.toList.all (fun c => decide (dig c < b)) = true) (w : World) :
    Calls Tryz.prog 25 #[.string (lowT r), .string (hexB.extract 0 b)] w fun e w' => e = .returned (.string ⟨#[]⟩) ∧ Below w.heap.size w w' := by
  refine (cutLeft_calls (lowT r) (hexB.extract 0 b) (by rw [lowT_size]; exact hs) (lowT_low r hl) (by rw [ByteArray.size_extract, hex_size]; omega) (hex_low' b) w).mono ?_
  rintro e w' ⟨t, rfl, h, hb⟩
  refine ⟨?_, hb⟩
  rcases h with ⟨rfl, _⟩ | ⟨k, hk, rfl, hf⟩
  · rfl
  · have h2 : k < r.size := by rw [← lowT_size]; exact hk
    rw [lowT_at r k hk h2, hin _ (hl k h2)] at hf
    rw [List.all_eq_true] at hall
    have := hall (r[k]'h2) (List.getElem_mem (by rw [← Lib.size_eq]; exact h2))
    rw [this] at hf
    cases hf
theorem chk_bad (b : Nat) (hin : ∀ c : UInt8, c.toNat < 128 → inB (Lib.lowerB c) (hexB.extract 0 b) (hexB.extract 0 b).size = decide (dig c < b)) (r : ByteArray) (hs : r.size ≤ 1099511627776) (hl : Low r) (hbad : ¬ r.data.toList.all (fun c => decide (dig c < b)) = true) (w : World) :
    Calls Tryz.prog 25 #[.string (lowT r), .string (hexB.extract 0 b)] w fun e w' => ∃ t1 : ByteArray, e = .returned (.string t1) ∧ (∀ w1, Calls Tryz.prog 24 #[.string t1, .string (hexB.extract 0 b)] w1 fun e w' => ∃ t2 : ByteArray, e = .returned (.string t2) ∧ 0 < t2.size ∧ Below w1.heap.size w1 w') ∧ Below w.heap.size w w' := by
  refine (cutLeft_calls (lowT r) (hexB.extract 0 b) (by rw [lowT_size]; exact hs) (lowT_low r hl) (by rw [ByteArray.size_extract, hex_size]; omega) (hex_low' b) w).mono ?_
  rintro e w' ⟨t, rfl, h, hb⟩
  refine ⟨t, rfl, ?_, hb⟩
  rcases h with ⟨rfl, hall⟩ | ⟨k, hk, rfl, hf⟩
  · refine absurd ?_ hbad
    rw [List.all_eq_true]
    intro c hc
    obtain ⟨j, hj, rfl⟩ := List.getElem_of_mem hc
    have h2 : j < r.size := by rw [Lib.size_eq]; exact hj
    have h3 := hall j (by rw [lowT_size]; exact h2)
    rw [lowT_at r j _ h2, hin _ (hl j h2)] at h3
    exact h3
  · have hsz : ((lowT r).extract k (lowT r).size).size = (lowT r).size - k := by rw [ByteArray.size_extract]; omega
    have h0 : 0 < ((lowT r).extract k (lowT r).size).size := by omega
    have hst := lowT_size r
    intro w1
    refine cutRight_calls _ _ (by omega) ?_ (by rw [ByteArray.size_extract, hex_size]; omega) (hex_low' b) h0 ?_ w1
    · intro j hj
      rw [ByteArray.getElem_extract]
      exact lowT_low r hl _ _
    · rw [ByteArray.getElem_extract]
      exact hf
end Go.Proofs.YtihidbjffclfkaaGreatDoor.PLex
