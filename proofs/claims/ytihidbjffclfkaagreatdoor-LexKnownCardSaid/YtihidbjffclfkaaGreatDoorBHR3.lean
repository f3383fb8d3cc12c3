/- Part of the proof: what it uses of HR3. -/
import Derived.Test.YtihidbjffclfkaaGreatDoorBHR2
import Derived.Test.YtihidbjffclfkaaGreatDoorBHRune
import Derived.Test.YtihidbjffclfkaaGreatDoorBPLexL1
namespace Go.Proofs.YtihidbjffclfkaaGreatDoor.PLex
open Go.RowKit Go.Maps Go.Proofs.YtihidbjffclfkaaGreatDoorW.PrintWords Go.Proofs.YtihidbjffclfkaaGreatDoorW.PrintLast Go.Proofs.YtihidbjffclfkaaGreatDoorW.PrintMore Go.Proofs.YtihidbjffclfkaaGreatDoor.Lx
set_option linter.unusedVariables false
set_option linter.unusedSimpArgs false
theorem rhex (c : UInt8) (K : Nat) (hK : 1 ≤ K) : signetryref02_hex.f K (c.toNat : Int) = some (if dig c < 16 then (dig c : Int) else -1) := by
  obtain ⟨K, rfl⟩ : ∃ m, K = m + 1 := ⟨K - 1, by omega⟩
  have key : ∀ n : Fin 256, signetryref02_hex.f 1 ((UInt8.ofNat n.1).toNat : Int) = some (if dig (UInt8.ofNat n.1) < 16 then (dig (UInt8.ofNat n.1) : Int) else -1) := by decide +kernel
  have h2 := key ⟨c.toNat, c.toNat_lt⟩
  exact up_ (f := fun k => signetryref02_hex.f k (c.toNat : Int)) (fun k => signetryref02_hex.mono _ _) (by omega : 1 ≤ K + 1) (by simpa using h2)
theorem val_small (b : Nat) (hb : b ≤ 16) : ∀ (l : List UInt8) (n m : Nat), (∀ c ∈ l, dig c < b) → n < 16 ^ m → val b l n < 16 ^ (m + l.length)
  | [], n, m, _, h => h
  | c :: l, n, m, hl, h => by
    have hc := hl c (List.mem_cons_self ..)
    have h1 : n * b + dig c < 16 ^ (m + 1) := by
      have : n * b ≤ n * 16 := Nat.mul_le_mul_left _ hb
      rw [Nat.pow_succ]
      omega
    have := val_small b hb l (n * b + dig c) (m + 1) (fun x hx => hl x (List.mem_cons_of_mem _ hx)) h1
    rw [show m + (c :: l).length = m + 1 + l.length by simp only [List.length_cons]; omega]
    exact this
theorem rnum2 (s : ByteArray) (hs : s.size ≤ 65536) (p b : Nat) (hb : 1 ≤ b) (hb2 : b ≤ 16) (most : Nat) (hm : most ≤ 8) : ∀ (d K i n : Nat), i + d = most → p + i ≤ s.size + 1 → 2 * d + 3 ≤ K → n < 16 ^ i →
    signetryref02_number.l0 K s (p : Int) (b : Int) (most : Int) (n : Int) (i : Int) = some (((val b ((s.data.toList.drop (p + i)).take (digN b d (s.data.toList.drop (p + i)))) n : Nat) : Int), ((i + digN b d (s.data.toList.drop (p + i)) : Nat) : Int))
  | 0, K, i, n, h, hp, hK, hn => by
    obtain ⟨K, rfl⟩ : ∃ m, K = m + 2 := ⟨K - 2, by omega⟩
    simp only [signetryref02_number.l0, signetryref02_number.j1]
    rw [if_neg (by omega), if_neg (by simp)]
    rfl
  | d + 1, K, i, n, h, hp, hK, hn => by
    obtain ⟨K, rfl⟩ : ∃ m, K = m + 3 := ⟨K - 3, by omega⟩
    have hw : wrap64 ((p : Int) + (i : Int)) = ((p + i : Nat) : Int) := w64' p i (by omega)
    have HW := Aside0.mk hw
    clear hw
    simp only [signetryref02_number.l0]
    rw [if_pos (by omega), HW.out]
    simp only [signetryref02_number.j1]
    by_cases hin : p + i < s.size
    · obtain ⟨c, l, h1, h2, h3, h4⟩ := drop_parts s (p + i) hin
      have H2 := Aside0.mk h2
      clear h2
      rw [if_pos (decide_eq_true (by omega)), HW.out, if_pos (by omega), if_pos (by omega), H2.out, rhex c _ (by omega)]
      simp only [Option.bind_some]
      rw [h1]
      simp only [digN]
      by_cases hd : dig c < b
      · rw [if_pos (show dig c < 16 by omega), if_neg (by omega), if_neg (by omega), if_pos hd]
        have hnb : n < 16 ^ 8 := Nat.lt_of_lt_of_le hn (Nat.pow_le_pow_right (by decide) (by omega))
        have h168 : (16 : Nat) ^ 8 = 4294967296 := by decide
        have hbn : b * n ≤ 16 * 4294967296 := Nat.mul_le_mul hb2 (by omega)
        have e1 : Aside0 (wrap64 ((b : Int) * (n : Int)) = ((b * n : Nat) : Int)) := ⟨by rw [← Int.natCast_mul]; exact w64 _ (by omega)⟩
        have e2 : Aside0 (wrap64 (((b * n : Nat) : Int) + (dig c : Int)) = ((b * n + dig c : Nat) : Int)) := ⟨w64' _ _ (by omega)⟩
        have hn2 : n * b + dig c < 16 ^ (i + 1) := by
          have : n * b ≤ n * 16 := Nat.mul_le_mul_left _ hb2
          rw [Nat.pow_succ]
          omega
        rw [e1.out, e2.out, w1_ i (by omega), Nat.mul_comm b n]
        have ih := rnum2 s hs p b hb hb2 most hm d (K + 1) (i + 1) (n * b + dig c) (by omega) (by omega) (by omega) hn2
        rw [ih, show p + (i + 1) = p + i + 1 by omega, h3]
        simp only [List.take_succ_cons, val]
        rw [show i + 1 + digN b d l = i + (digN b d l + 1) by omega]
      · rw [if_neg hd]
        simp only [List.take_zero, val, Nat.add_zero]
        by_cases h16 : dig c < 16
        · rw [if_pos h16, if_neg (by omega), if_pos (by omega)]
        · rw [if_neg h16, if_pos (by decide)]
    · rw [if_neg (by simp; omega), List.drop_eq_nil_of_le (by rw [← Lib.size_eq]; omega)]
      rfl
theorem rnumf (s : ByteArray) (hs : s.size ≤ 65536) (p b : Nat) (hb : 1 ≤ b) (hb2 : b ≤ 16) (most : Nat) (hm : most ≤ 8) (hp : p ≤ s.size + 1) (K : Nat) (hK : 20 ≤ K) :
    signetryref02_number.f K s (p : Int) (b : Int) (most : Int) = some (((val b ((s.data.toList.drop p).take (digN b most (s.data.toList.drop p))) 0 : Nat) : Int), ((digN b most (s.data.toList.drop p) : Nat) : Int)) := by
  have := rnum2 s hs p b hb hb2 most hm most K 0 0 (by omega) (by omega) (by omega) (by decide)
  rw [Nat.add_zero, Nat.zero_add] at this
  exact this
theorem small_lt (n : Nat) (h : n ≤ 10) : n < 140737488355328 := by omega
theorem vb_ (n : Nat) (h : Lib.validRune (n : Int) = true) : n < 55296 ∨ (57343 < n ∧ n ≤ 1114111) := by
  simp only [Lib.validRune, decide_eq_true_eq] at h
  omega
theorem rrune (n : Nat) (hn : n ≤ 4294967296) : signetryref02_Rune.f ([] : List Int) (n : Int) = if Lib.validRune (n : Int) = true then some (bl (Lib.encodeRune (n : Int)), 0) else some ([], 20) := by
  have hv : signetryref02_isRune.f (n : Int) = some (Lib.validRune (n : Int)) := by
    unfold signetryref02_isRune.f Lib.validRune
    rw [if_pos (by omega)]
    by_cases h1 : (n : Int) ≤ 1114111
    · rw [if_pos h1]
      by_cases h2 : (n : Int) < 55296
      · rw [if_pos h2, decide_eq_true (.inl ⟨by omega, h2⟩)]
      · rw [if_neg h2]
        exact congrArg some (Bool.eq_iff_iff.2 (by simp only [decide_eq_true_eq]; omega))
    · rw [if_neg h1, decide_eq_false (by omega)]
  unfold signetryref02_Rune.f
  rw [hv, Option.bind_some]
  by_cases hr : Lib.validRune (n : Int) = true
  · rw [if_pos hr, if_pos hr]
    have hr2 := vb_ n hr
    have hc : signetryref00_CopyBytes.f ([] : List Int) = some [] := by unfold signetryref00_CopyBytes.f; rw [if_pos (small_lt _ (by simp))]; rfl
    rw [hc, encode_bl, Option.bind_some]
    have hw : ∀ k : Nat, 1 ≤ k → wrap64 (Int.tdiv (n : Int) (k : Int)) = ((n / k : Nat) : Int) := by
      intro k hk
      rw [Int.tdiv_eq_ediv_of_nonneg (by omega), ← Int.natCast_ediv]
      exact w64 _ (Nat.le_trans (Nat.div_le_self _ _) (by omega))
    have hm : ∀ a k : Nat, Int.tmod (a : Int) (k : Int) = ((a % k : Nat) : Int) := by
      intro a k
      rw [Int.tmod_eq_emod_of_nonneg (by omega), ← Int.natCast_emod]
    by_cases c1 : (n : Int) < 128
    · rw [if_pos c1, if_pos (small_lt _ (by simp)), Lib.encodeRuneZ_one (by omega) (by omega)]
      refine congrArg (fun x => some (x, (0 : Int))) ?_
      simp only [List.nil_append, List.cons.injEq, and_true]
      omega
    rw [if_neg c1]
    by_cases c2 : (n : Int) < 2048
    · rw [if_pos c2, Option.bind_some, if_pos (small_lt _ (by simp)), Lib.encodeRuneZ_two (by omega) (by omega)]
      have e1 := Aside0.mk (hw 64 (by omega))
      have e2 := Aside0.mk (hm n 64)
      rw [show (64 : Int) = ((64 : Nat) : Int) from rfl, e1.out, e2.out]
      refine congrArg (fun x => some (x, (0 : Int))) ?_
      simp only [List.nil_append, List.cons.injEq, and_true]
      omega
    rw [if_neg c2]
    by_cases c3 : (n : Int) < 65536
    · rw [if_pos c3, Option.bind_some, if_pos (small_lt _ (by simp)), Lib.encodeRuneZ_three (by omega)]
      have e1 := Aside0.mk (hw 64 (by omega))
      have e2 := Aside0.mk (hm n 64)
      have e3 := Aside0.mk (hw 4096 (by omega))
      have e4 := Aside0.mk (hm (n / 64) 64)
      rw [show (64 : Int) = ((64 : Nat) : Int) from rfl, show (4096 : Int) = ((4096 : Nat) : Int) from rfl, e1.out, e2.out, e3.out, e4.out]
      refine congrArg (fun x => some (x, (0 : Int))) ?_
      simp only [List.nil_append, List.cons.injEq, and_true]
      omega
    rw [if_neg c3, Option.bind_some, if_pos (small_lt _ (by simp)), Lib.encodeRuneZ_four (by omega) (by omega)]
    have e1 := Aside0.mk (hw 64 (by omega))
    have e2 := Aside0.mk (hm n 64)
    have e3 := Aside0.mk (hw 4096 (by omega))
    have e4 := Aside0.mk (hm (n / 64) 64)
    have e5 := Aside0.mk (hw 262144 (by omega))
    have e6 := Aside0.mk (hm (n / 4096) 64)
    rw [show (64 : Int) = ((64 : Nat) : Int) from rfl, show (4096 : Int) = ((4096 : Nat) : Int) from rfl, show (262144 : Int) = ((262144 : Nat) : Int) from rfl, e1.out, e2.out, e3.out, e4.out, e5.out, e6.out]
    refine congrArg (fun x => some (x, (0 : Int))) ?_
    simp only [List.nil_append, List.cons.injEq, and_true]
    omega
  · rw [if_neg hr, if_neg hr]
end Go.Proofs.YtihidbjffclfkaaGreatDoor.PLex
