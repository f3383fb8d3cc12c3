/- Part of the proof: what it uses of HR4. -/
import Derived.Test.YtihidbjffclfkaaGreatDoorBHR3
namespace Go.Proofs.YtihidbjffclfkaaGreatDoor.PLex
open Go.RowKit Go.Maps Go.Proofs.YtihidbjffclfkaaGreatDoorW.PrintWords Go.Proofs.YtihidbjffclfkaaGreatDoorW.PrintLast Go.Proofs.YtihidbjffclfkaaGreatDoorW.PrintMore Go.Proofs.YtihidbjffclfkaaGreatDoor.Lx
set_option linter.unusedVariables false
set_option linter.unusedSimpArgs false
def tab1 : ByteArray := ⟨#[97, 98, 102, 110, 114, 116, 118, 92, 39, 34, 63]⟩
theorem resc_at (c : UInt8) (j : Nat) (hj : j < 11) : (c.toNat : Int) = bt tab1 (j : Int) → esc1 c = some (rd [7, 8, 12, 10, 13, 9, 11, 92, 39, 34, 63] (j : Int)).toNat ∧ ∃ b : Nat, rd [7, 8, 12, 10, 13, 9, 11, 92, 39, 34, 63] (j : Int) = (b : Int) ∧ b < 256 := by
  have key : ∀ n : Fin 256, ∀ j : Fin 11, ((UInt8.ofNat n.1).toNat : Int) = bt tab1 (j.1 : Int) → esc1 (UInt8.ofNat n.1) = some (rd [7, 8, 12, 10, 13, 9, 11, 92, 39, 34, 63] (j.1 : Int)).toNat := by decide +kernel
  have key2 : ∀ j : Fin 11, rd [7, 8, 12, 10, 13, 9, 11, 92, 39, 34, 63] (j.1 : Int) = ((rd [7, 8, 12, 10, 13, 9, 11, 92, 39, 34, 63] (j.1 : Int)).toNat : Int) ∧ (rd [7, 8, 12, 10, 13, 9, 11, 92, 39, 34, 63] (j.1 : Int)).toNat < 256 := by decide +kernel
  have h2 := key ⟨c.toNat, c.toNat_lt⟩ ⟨j, hj⟩
  have h3 := key2 ⟨j, hj⟩
  exact fun h => ⟨by simpa using h2 (by simpa using h), _, h3.1, h3.2⟩
theorem resc_no (c : UInt8) : (∀ j : Nat, j < 11 → ¬ (c.toNat : Int) = bt tab1 (j : Int)) → esc1 c = none := by
  have key : ∀ n : Fin 256, (∀ j : Fin 11, ¬ ((UInt8.ofNat n.1).toNat : Int) = bt tab1 (j.1 : Int)) → esc1 (UInt8.ofNat n.1) = none := by decide +kernel
  intro h
  have h2 := key ⟨c.toNat, c.toNat_lt⟩ (fun j => by simpa using h j.1 j.2)
  simpa using h2
def rEsc : Option (List UInt8 × Nat) → Option (List Int × Int)
  | some (b, n) => some (bl b, (n : Int))
  | none => some ([], 0)
theorem resc_rest (s : ByteArray) (hs : s.size ≤ 65536) (p : Nat) (c : UInt8) (r : List UInt8) (hd : s.data.toList.drop p = c :: r) (he : esc1 c = none) (K : Nat) (hK : 40 ≤ K) :
    (if (c.toNat : Int) ≥ 48 then (signetryref02_escape.j1 K s (p : Int) (c.toNat : Int) (decide ((c.toNat : Int) ≤ 55))) else (signetryref02_escape.j1 K s (p : Int) (c.toNat : Int) false)) = rEsc (spell (c :: r)) := by
  have hL : s.data.toList.length = s.size := (Lib.size_eq s).symm
  have hp : p < s.size := (bt_idx p hd).2
  have hdr : s.data.toList.drop (p + 1) = r := by rw [← List.drop_drop, hd]; rfl
  obtain ⟨K, rfl⟩ : ∃ m, K = m + 4 := ⟨K - 4, by omega⟩
  have hsp : spell (c :: r) = if c.toNat = 120 ∨ c.toNat = 88 then
        (if 0 < digN 16 2 r then some ([UInt8.ofNat (val 16 (r.take (digN 16 2 r)) 0)], digN 16 2 r + 1) else none)
      else if c.toNat = 117 ∨ c.toNat = 85 then
        (if digN 16 (if c.toNat = 85 then 8 else 4) r = (if c.toNat = 85 then 8 else 4) ∧ Lib.validRune (val 16 (r.take (if c.toNat = 85 then 8 else 4)) 0 : Nat) = true then
          some (Lib.encodeRune (val 16 (r.take (if c.toNat = 85 then 8 else 4)) 0 : Nat), (if c.toNat = 85 then 8 else 4) + 1) else none)
      else if 0 < digN 8 3 (c :: r) ∧ val 8 ((c :: r).take (digN 8 3 (c :: r))) 0 ≤ 255 then some ([UInt8.ofNat (val 8 ((c :: r).take (digN 8 3 (c :: r))) 0)], digN 8 3 (c :: r)) else none := by
    simp only [spell, he]
  have hoct : (48 ≤ c.toNat ∧ c.toNat ≤ 55) ↔ dig c < 8 := by
    have key : ∀ n : Fin 256, (48 ≤ (UInt8.ofNat n.1).toNat ∧ (UInt8.ofNat n.1).toNat ≤ 55) ↔ dig (UInt8.ofNat n.1) < 8 := by decide +kernel
    have h2 := key ⟨c.toNat, c.toNat_lt⟩
    simpa using h2
  have hv : ∀ (b m : Nat) (l : List UInt8), b ≤ 16 → val b (l.take (digN b m l)) 0 < 16 ^ m := by
    intro b m l hb
    have h1 := val_small b hb (l.take (digN b m l)) 0 0 (digN_all b m l) (by decide)
    have h2 : (l.take (digN b m l)).length ≤ m := by rw [List.length_take]; have := digN_le b m l; omega
    rw [Nat.zero_add] at h1
    exact Nat.lt_of_lt_of_le h1 (Nat.pow_le_pow_right (by decide) h2)
  have hbl1 : ∀ n : Nat, n ≤ 255 → ([(n : Int) % 256] : List Int) = bl [UInt8.ofNat n] := by
    intro n hn
    unfold bl
    simp only [List.map_cons, List.map_nil, List.cons.injEq, and_true]
    rw [UInt8.toNat_ofNat']
    omega
  by_cases ho : 48 ≤ c.toNat ∧ c.toNat ≤ 55
  · rw [if_pos (by omega), decide_eq_true (by omega), hsp, if_neg (by omega), if_neg (by omega)]
    simp only [signetryref02_escape.j1]
    have n83 : signetryref02_number.f (K + 3) s (p : Int) 8 3 = some (((val 8 ((s.data.toList.drop p).take (digN 8 3 (s.data.toList.drop p))) 0 : Nat) : Int), ((digN 8 3 (s.data.toList.drop p) : Nat) : Int)) := rnumf s hs p 8 (by omega) (by omega) 3 (by omega) (by omega) (K + 3) (by omega)
    rw [if_pos trivial, n83, hd, Option.bind_some]
    have hpos : 0 < digN 8 3 (c :: r) := by
      simp only [digN]
      rw [if_pos (hoct.1 ho)]
      omega
    by_cases h255 : val 8 ((c :: r).take (digN 8 3 (c :: r))) 0 ≤ 255
    · rw [if_neg (by omega), if_pos ⟨hpos, h255⟩, hbl1 _ h255]
      rfl
    · rw [if_pos (by omega), if_neg (fun h => h255 h.2)]
      rfl
  · have hj : (if (c.toNat : Int) ≥ 48 then (signetryref02_escape.j1 (K + 4) s (p : Int) (c.toNat : Int) (decide ((c.toNat : Int) ≤ 55))) else (signetryref02_escape.j1 (K + 4) s (p : Int) (c.toNat : Int) false)) = signetryref02_escape.j1 (K + 4) s (p : Int) (c.toNat : Int) false := by
      by_cases h48 : (c.toNat : Int) ≥ 48
      · rw [if_pos h48, decide_eq_false (by omega)]
      · rw [if_neg h48]
    rw [hj, hsp]
    have hd8 : ¬ dig c < 8 := fun h => ho (hoct.2 h)
    have hd0 : digN 8 3 (c :: r) = 0 := by
      simp only [digN]
      rw [if_neg hd8]
    simp only [signetryref02_escape.j1]
    rw [if_neg (by simp)]
    have hj2 : (if (c.toNat : Int) = 120 then signetryref02_escape.j2 (K + 3) s (p : Int) (c.toNat : Int) true else signetryref02_escape.j2 (K + 3) s (p : Int) (c.toNat : Int) ((c.toNat : Int) == 88)) = signetryref02_escape.j2 (K + 3) s (p : Int) (c.toNat : Int) (decide (c.toNat = 120 ∨ c.toNat = 88)) := by
      by_cases h120 : c.toNat = 120
      · rw [if_pos (by omega), decide_eq_true (.inl h120)]
      · rw [if_neg (by omega)]
        by_cases h88 : c.toNat = 88
        · rw [h88]; rfl
        · rw [beq_eq_false_iff_ne.2 (by omega), decide_eq_false (by omega)]
    rw [hj2]
    by_cases hx : c.toNat = 120 ∨ c.toNat = 88
    · rw [decide_eq_true hx, if_pos hx]
      simp only [signetryref02_escape.j2]
      have n162 : signetryref02_number.f (K + 2) s ((p + 1 : Nat) : Int) 16 2 = some (((val 16 ((s.data.toList.drop (p + 1)).take (digN 16 2 (s.data.toList.drop (p + 1)))) 0 : Nat) : Int), ((digN 16 2 (s.data.toList.drop (p + 1)) : Nat) : Int)) := rnumf s hs (p + 1) 16 (by omega) (by omega) 2 (by omega) (by omega) (K + 2) (by omega)
      rw [if_pos trivial, w1_ p (by omega), n162, hdr, Option.bind_some]
      have h1 := hv 16 2 r (by omega)
      have h2 := digN_le 16 2 r
      by_cases h0 : 0 < digN 16 2 r
      · have h162 : (16 : Nat) ^ 2 = 256 := by decide
        have h3 : val 16 (r.take (digN 16 2 r)) 0 ≤ 255 := by omega
        have e1 : Aside0 (wrap64 (1 + ((digN 16 2 r : Nat) : Int)) = ((digN 16 2 r + 1 : Nat) : Int)) := ⟨by
          rw [Int.add_comm]
          exact w1_ _ (by omega)⟩
        rw [if_neg (by omega), if_pos h0, e1.out, hbl1 _ h3]
        rfl
      · rw [if_pos (by omega), if_neg h0]
        rfl
    · rw [decide_eq_false hx, if_neg hx]
      simp only [signetryref02_escape.j2]
      rw [if_neg (by simp)]
      have hj4 : (if (c.toNat : Int) = 117 then signetryref02_escape.j3 (K + 2) s (p : Int) (c.toNat : Int) 4 else signetryref02_escape.j3 (K + 2) s (p : Int) (c.toNat : Int) 0) = signetryref02_escape.j4 (K + 1) s (p : Int) (if c.toNat = 85 then 8 else if c.toNat = 117 then 4 else 0) := by
        simp only [signetryref02_escape.j3]
        by_cases h85 : c.toNat = 85
        · rw [if_neg (by omega), if_pos (by omega), if_pos h85]
        · rw [if_neg h85]
          by_cases h117 : c.toNat = 117
          · rw [if_pos (by omega), if_neg (by omega), if_pos h117]
          · rw [if_neg (by omega), if_neg (by omega), if_neg h117]
      rw [hj4]
      by_cases hu : c.toNat = 117 ∨ c.toNat = 85
      · rw [if_pos hu]
        obtain ⟨want, hwant⟩ : ∃ want : Nat, want = (if c.toNat = 85 then 8 else 4) := ⟨_, rfl⟩
        have hw8 : want ≤ 8 ∧ 4 ≤ want := by rw [hwant]; split <;> omega
        have hwi : (if c.toNat = 85 then (8 : Int) else if c.toNat = 117 then 4 else 0) = (want : Int) := by
          rw [hwant]
          by_cases h85 : c.toNat = 85
          · rw [if_pos h85, if_pos h85]; rfl
          · rw [if_neg h85, if_neg h85, if_pos (by omega)]; rfl
        rw [hwi, ← hwant]
        have h1 := hv 16 want r (by omega)
        have h16 : (16 : Nat) ^ want ≤ 16 ^ 8 := Nat.pow_le_pow_right (by decide) hw8.1
        have h168 : (16 : Nat) ^ 8 = 4294967296 := by decide
        have h2 := digN_le 16 want r
        simp only [signetryref02_escape.j4]
        have nw : signetryref02_number.f K s ((p + 1 : Nat) : Int) 16 (want : Int) = some (((val 16 ((s.data.toList.drop (p + 1)).take (digN 16 want (s.data.toList.drop (p + 1)))) 0 : Nat) : Int), ((digN 16 want (s.data.toList.drop (p + 1)) : Nat) : Int)) := rnumf s hs (p + 1) 16 (by omega) (by omega) want hw8.1 (by omega) K (by omega)
        rw [w1_ p (by omega), nw, hdr, Option.bind_some, rrune _ (by omega)]
        by_cases hm : digN 16 want r = want
        · have hm2 := hm
          by_cases hvr : Lib.validRune ((val 16 (r.take (digN 16 want r)) 0 : Nat) : Int) = true
          · have e1 : Aside0 (wrap64 (1 + ((digN 16 want r : Nat) : Int)) = ((want + 1 : Nat) : Int)) := ⟨by
              rw [Int.add_comm, hm]
              exact w1_ _ (by omega)⟩
            rw [if_pos hvr, Option.bind_some, if_neg (by omega), if_neg (by omega), if_pos rfl, e1.out]
            rw [hm] at hvr ⊢
            rw [if_pos ⟨rfl, hvr⟩]
            rfl
          · rw [if_neg hvr, Option.bind_some, if_neg (by omega), if_neg (by omega), if_neg (by decide)]
            rw [hm] at hvr
            rw [if_neg (fun h => hvr h.2)]
            rfl
        · have hlt : ((digN 16 want r : Nat) : Int) < (want : Int) := by omega
          rw [if_neg (c := digN 16 want r = want ∧ _) (fun h => hm h.1)]
          by_cases hvr : Lib.validRune ((val 16 (r.take (digN 16 want r)) 0 : Nat) : Int) = true
          · rw [if_pos hvr, Option.bind_some, if_neg (by omega), if_pos hlt]
            rfl
          · rw [if_neg hvr, Option.bind_some, if_neg (by omega), if_pos hlt]
            rfl
      · rw [if_neg hu, if_neg (by omega), if_neg (by omega), if_neg (by rw [hd0]; omega)]
        simp only [signetryref02_escape.j4]
        have n0 : signetryref02_number.f K s ((p + 1 : Nat) : Int) 16 0 = some (0, 0) := by
          have := rnumf s hs (p + 1) 16 (by omega) (by omega) 0 (by omega) (by omega) K (by omega)
          simp only [digN, List.take_zero, val] at this
          exact this
        have r0 := rrune 0 (by omega)
        rw [w1_ p (by omega), n0, Option.bind_some, show signetryref02_Rune.f ([] : List Int) 0 = _ from r0]
        split <;> (rw [Option.bind_some]; rfl)
end Go.Proofs.YtihidbjffclfkaaGreatDoor.PLex
