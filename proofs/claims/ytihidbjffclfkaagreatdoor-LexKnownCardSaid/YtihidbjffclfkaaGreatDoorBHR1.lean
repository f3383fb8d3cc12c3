/- Part of the proof: what it uses of HR1. -/
import Derived.Test.YtihidbjffclfkaaGreatDoorBHEq2
import Derived.Test.YtihidbjffclfkaaGreatDoorBPLexL
namespace Go.Proofs.YtihidbjffclfkaaGreatDoor.PLex
open Go.RowKit Go.Maps Go.Proofs.YtihidbjffclfkaaGreatDoorW.PrintWords Go.Proofs.YtihidbjffclfkaaGreatDoorW.PrintLast Go.Proofs.YtihidbjffclfkaaGreatDoorW.PrintMore Go.Proofs.YtihidbjffclfkaaGreatDoor.Lx
set_option linter.unusedVariables false
set_option linter.unusedSimpArgs false
theorem w1_ (a : Nat) (h : a ≤ 1000000000) : wrap64 ((a : Int) + 1) = ((a + 1 : Nat) : Int) := w64' a 1 (by omega)
theorem w2_ (a : Nat) (h : a ≤ 1000000000) : wrap64 ((a : Int) + 2) = ((a + 2 : Nat) : Int) := w64' a 2 (by omega)
theorem mn_nat (a b : Nat) : mn (a : Int) (b : Int) = ((min a b : Nat) : Int) := by
  unfold mn
  split <;> omega
theorem drop_parts (s : ByteArray) (a : Nat) (h : a < s.size) : ∃ c l, s.data.toList.drop a = c :: l ∧ bt s (a : Int) = (c.toNat : Int) ∧ s.data.toList.drop (a + 1) = l ∧ l.length + 1 = s.size - a := by
  have hL : s.data.toList.length = s.size := (Lib.size_eq s).symm
  cases hd : s.data.toList.drop a with
  | nil => have := data_nil hd; omega
  | cons c l =>
    refine ⟨c, l, rfl, (bt_idx a hd).1, ?_, ?_⟩
    · rw [← List.drop_drop, hd]; rfl
    · have := congrArg List.length hd
      rw [List.length_drop, hL] at this
      simp only [List.length_cons] at this
      omega
theorem rline_eq (s : ByteArray) (hs : s.size ≤ 65536) (K : Nat) : ∀ (n a : Nat), s.size - a ≤ n → a ≤ s.size → ∃ m, m ≤ s.size - a ∧ lineL (s.data.toList.drop a) = s.data.toList.drop (a + m) ∧ signetryref03_skip.l1 (K + m + 1) s (a : Int) = signetryref03_skip.l0 K s ((a + m : Nat) : Int)
  | n, a, hn, ha => by
    by_cases h : a < s.size
    · obtain ⟨c, l, h1, h2, h3, h4⟩ := drop_parts s a h
      by_cases hc : c.toNat = 10
      · refine ⟨0, by omega, ?_, ?_⟩
        · rw [h1, Nat.add_zero, h1]
          simp only [lineL]
          rw [if_pos hc]
        · simp only [signetryref03_skip.l1]
          rw [if_pos (by omega), if_pos (by omega), h2, if_pos (by omega)]
          rfl
      · cases n with
        | zero => omega
        | succ n =>
          obtain ⟨m, g1, g2, g3⟩ := rline_eq s hs K n (a + 1) (by omega) (by omega)
          refine ⟨m + 1, by omega, ?_, ?_⟩
          · rw [show a + (m + 1) = a + 1 + m by omega, ← g2, h1, h3]
            simp only [lineL]
            rw [if_neg hc]
          · rw [show K + (m + 1) + 1 = (K + m + 1) + 1 by omega, show a + (m + 1) = a + 1 + m by omega, ← g3]
            simp only [signetryref03_skip.l1]
            rw [if_pos (by omega), if_pos (by omega), h2, if_neg (by omega), w1_ a (by omega)]
    · refine ⟨0, by omega, ?_, ?_⟩
      · rw [Nat.add_zero, List.drop_eq_nil_of_le (by rw [← Lib.size_eq]; omega)]
        rfl
      · simp only [signetryref03_skip.l1]
        rw [if_neg (by omega)]
        rfl
theorem two_eq (s : ByteArray) (p : Nat) (c d : UInt8) (l : List UInt8) (h : s.data.toList.drop p = c :: d :: l) (x y : UInt8) : ((s.extract p (p + 2)).toList = [x, y]) ↔ (c = x ∧ d = y) := by
  rw [Lib.extract_toList, h, show p + 2 - p = 2 by omega]
  simp
theorem rrem_eq (s : ByteArray) (hs : s.size ≤ 65536) (K at_ : Nat) : ∀ (n p : Nat), s.size - p ≤ n → p ≤ s.size →
    (remL (s.data.toList.drop p) = none ∧ signetryref03_skip.l2 (K + n + 1) s (at_ : Int) (p : Int) = some ((at_ : Int), false)) ∨ (∃ m, p + m + 2 ≤ s.size ∧ remL (s.data.toList.drop p) = some (s.data.toList.drop (p + m + 2)) ∧ signetryref03_skip.l2 (K + m + 1) s (at_ : Int) (p : Int) = signetryref03_skip.l0 K s ((p + m + 2 : Nat) : Int))
  | n, p, hn, hp => by
    by_cases h : p + 1 < s.size
    · obtain ⟨c, l, h1, h2, h3, h4⟩ := drop_parts s p (by omega)
      obtain ⟨d, l2, k1, k2, k3, k4⟩ := drop_parts s (p + 1) h
      have hl : l = d :: l2 := by rw [← h3, k1]
      subst hl
      have ht := two_eq s p c d l2 h1 42 47
      have hr : remL (c :: d :: l2) = if c.toNat = 42 ∧ d.toNat = 47 then some l2 else remL (d :: l2) := by
        conv => lhs; unfold remL
        simp
      have hcd : (c = 42 ∧ d = 47) ↔ (c.toNat = 42 ∧ d.toNat = 47) := ⟨fun ⟨a, b⟩ => by rw [a, b]; exact ⟨rfl, rfl⟩, fun ⟨a, b⟩ => ⟨UInt8.toNat_inj.1 a, UInt8.toNat_inj.1 b⟩⟩
      have hstep : ∀ k, signetryref03_skip.l2 (k + 1) s (at_ : Int) (p : Int) = if c.toNat = 42 ∧ d.toNat = 47 then signetryref03_skip.l0 k s ((p + 2 : Nat) : Int) else signetryref03_skip.l2 k s (at_ : Int) ((p + 1 : Nat) : Int) := by
        intro k
        simp only [signetryref03_skip.l2]
        rw [w1_ p (by omega), w2_ p (by omega), if_pos (by omega), if_pos (by omega), if_pos (by omega), if_pos (by omega), Int.toNat_natCast, Int.toNat_natCast]
        by_cases hc : c.toNat = 42 ∧ d.toNat = 47
        · rw [if_pos (ht.2 (hcd.2 hc)), if_pos hc, if_neg (by omega)]
        · rw [if_neg (fun h => hc (hcd.1 (ht.1 h))), if_neg hc]
      by_cases hc : c.toNat = 42 ∧ d.toNat = 47
      · refine .inr ⟨0, by omega, ?_, ?_⟩
        · rw [h1, hr, if_pos hc, Nat.add_zero, ← k3]
        · rw [hstep, if_pos hc]
      · cases n with
        | zero => omega
        | succ n =>
          rcases rrem_eq s hs K at_ n (p + 1) (by omega) (by omega) with ⟨g1, g2⟩ | ⟨m, g1, g2, g3⟩
          · refine .inl ⟨?_, ?_⟩
            · rw [h1, hr, if_neg hc, ← h3]
              exact g1
            · rw [show K + (n + 1) + 1 = (K + n + 1) + 1 by omega, hstep, if_neg hc]
              exact g2
          · refine .inr ⟨m + 1, by omega, ?_, ?_⟩
            · rw [h1, hr, if_neg hc, ← h3, g2, show p + (m + 1) + 2 = p + 1 + m + 2 by omega]
            · rw [show K + (m + 1) + 1 = (K + m + 1) + 1 by omega, hstep, if_neg hc, g3, show p + (m + 1) + 2 = p + 1 + m + 2 by omega]
    · refine .inl ⟨?_, ?_⟩
      · have hl : (s.data.toList.drop p).length ≤ 1 := by rw [List.length_drop, ← Lib.size_eq]; omega
        match hd : s.data.toList.drop p with
        | [] => rfl
        | [c] => simp [remL]
        | a :: b :: r => rw [hd] at hl; simp at hl
      · simp only [signetryref03_skip.l2]
        rw [w1_ p (by omega), if_neg (by omega), if_pos (by omega)]
theorem rskip_eq (s : ByteArray) (hs : s.size ≤ 65536) : ∀ (n K a : Nat), s.size - a ≤ n → a ≤ s.size → 4 * n + 4 ≤ K → ∀ r b, skipL (n + 1) (s.data.toList.drop a) = (r, b) →
    signetryref03_skip.l0 K s (a : Int) = some (((s.size - r.length : Nat) : Int), b) := by
  have hL : s.data.toList.length = s.size := (Lib.size_eq s).symm
  intro n
  induction n using Nat.strongRecOn with
  | _ n ih =>
    intro K a hn ha hK r b hk
    by_cases h : a < s.size
    · obtain ⟨c, l, h1, h2, h3, h4⟩ := drop_parts s a h
      obtain ⟨K, rfl⟩ : ∃ m, K = m + 2 := ⟨K - 2, by omega⟩
      have hfu : ∀ (p q : Nat), s.size - p ≤ q → q + 1 ≤ n + 1 → s.size - p ≤ n → skipL n (s.data.toList.drop p) = skipL (q + 1) (s.data.toList.drop p) := fun p q h1 _ h2 => skipL_fuel _ _ _ (by rw [List.length_drop, hL]; exact h2) (by rw [List.length_drop, hL]; omega)
      rw [h1] at hk
      unfold skipL at hk
      have hj : ∀ x : Bool, signetryref03_skip.j1 (K + 1) s (a : Int) (s.extract a (min (a + 2) s.size)) x = if x = true then signetryref03_skip.l0 K s ((a + 1 : Nat) : Int) else (if (s.extract a (min (a + 2) s.size)).toList = ([47, 47] : List UInt8) then (signetryref03_skip.l1 K s (a : Int)) else (if (s.extract a (min (a + 2) s.size)).toList = ([47, 42] : List UInt8) then (signetryref03_skip.l2 K s (a : Int) ((a + 2 : Nat) : Int)) else (some ((a : Int), true)))) := by
        intro x
        simp only [signetryref03_skip.j1]
        rw [w1_ a (by omega), w2_ a (by omega)]
      have hl0 : signetryref03_skip.l0 (K + 2) s (a : Int) = signetryref03_skip.j1 (K + 1) s (a : Int) (s.extract a (min (a + 2) s.size)) (isBlank c) := by
        simp only [signetryref03_skip.l0]
        rw [w2_ a (by omega), mn_nat, if_pos (by omega), if_pos (by omega), if_pos (by omega), if_pos (by omega), Int.toNat_natCast, Int.toNat_natCast, h2]
        unfold isBlank
        by_cases c1 : c.toNat = 32
        · rw [if_pos (by omega)]; simp [c1]
        rw [if_neg (by omega)]
        by_cases c2 : c.toNat = 9
        · rw [if_pos (by omega)]; simp [c2]
        rw [if_neg (by omega)]
        by_cases c3 : c.toNat = 13
        · rw [if_pos (by omega)]; simp [c3]
        rw [if_neg (by omega)]
        have : ((c.toNat : Int) == 10) = (c.toNat == 10) := by
          by_cases c4 : c.toNat = 10
          · rw [c4]; rfl
          · rw [beq_eq_false_iff_ne.2 (by omega), beq_eq_false_iff_ne.2 c4]
        rw [this]
        rw [show (c.toNat == 32) = false from beq_eq_false_iff_ne.2 c1, show (c.toNat == 9) = false from beq_eq_false_iff_ne.2 c2, show (c.toNat == 13) = false from beq_eq_false_iff_ne.2 c3]
        rfl
      rw [hl0, hj]
      by_cases hb : isBlank c = true
      · rw [if_pos hb] at hk ⊢
        obtain ⟨n, rfl⟩ : ∃ m, n = m + 1 := ⟨n - 1, by omega⟩
        rw [← h3] at hk
        exact ih n (by omega) K (a + 1) (by omega) (by omega) (by omega) r b hk
      · rw [if_neg hb] at hk ⊢
        have hx : (s.extract a (min (a + 2) s.size)).toList = (c :: l).take 2 := by
          rw [Lib.extract_toList, h1]
          by_cases h5 : a + 2 ≤ s.size
          · rw [show min (a + 2) s.size - a = 2 by omega]
          · have : l = [] := List.length_eq_zero_iff.1 (by omega)
            subst this
            rw [show min (a + 2) s.size - a = 1 by omega]
            rfl
        rw [hx]
        have h47 : ∀ (y : UInt8) (k : Nat), y.toNat = k → (((c :: l).take 2 = [47, y]) ↔ (c.toNat = 47 ∧ l.head?.map (·.toNat) = some k)) := by
          intro y k hy
          cases l with
          | nil => simp
          | cons d l =>
            simp only [List.take_succ_cons, List.take_zero, List.cons.injEq, and_true, List.head?_cons, Option.map_some, Option.some.injEq]
            constructor
            · rintro ⟨rfl, rfl⟩
              exact ⟨rfl, hy⟩
            · rintro ⟨h1, h2⟩
              exact ⟨UInt8.toNat_inj.1 h1, UInt8.toNat_inj.1 (by omega)⟩
        by_cases hc : c.toNat = 47 ∧ l.head?.map (·.toNat) = some 47
        · rw [if_pos hc] at hk
          rw [if_pos ((h47 47 47 rfl).2 hc)]
          have hll : lineL (s.data.toList.drop a) = lineL l := by
            rw [h1]
            simp only [lineL]
            rw [if_neg (by omega)]
          have hl1 : 1 ≤ l.length := by
            cases l with
            | nil => simp at hc
            | cons d l => simp
          have hm2 : ∀ m, m ≤ s.size - a → lineL (s.data.toList.drop a) = s.data.toList.drop (a + m) → 2 ≤ m := by
            intro m hm hd
            rw [hll] at hd
            cases l with
            | nil => simp at hl1
            | cons d l =>
              simp only [lineL] at hd
              have hd47 : d.toNat = 47 := by simpa using hc.2
              rw [if_neg (by omega)] at hd
              have e1 := congrArg List.length hd
              rw [List.length_drop, hL] at e1
              have e2 := lineL_len l
              simp only [List.length_cons] at h4
              omega
          obtain ⟨m, g1, g2, _⟩ := rline_eq s hs 0 n a hn ha
          have hm := hm2 m g1 g2
          obtain ⟨K', hK'⟩ : ∃ K', K = K' + m + 1 := ⟨K - m - 1, by omega⟩
          obtain ⟨m', g1', g2', g3'⟩ := rline_eq s hs K' n a hn ha
          have e1 := congrArg List.length (g2.symm.trans g2')
          rw [List.length_drop, List.length_drop, hL] at e1
          obtain rfl : m' = m := by omega
          rw [hK', g3']
          rw [← hll, g2'] at hk
          obtain ⟨q, hq⟩ : ∃ q, q + m' = n := ⟨n - m', by omega⟩
          rw [hfu (a + m') q (by omega) (by omega) (by omega)] at hk
          exact ih q (by omega) K' (a + m') (by omega) (by omega) (by omega) r b hk
        · rw [if_neg hc] at hk
          rw [if_neg (fun h => hc ((h47 47 47 rfl).1 h))]
          by_cases hc2 : c.toNat = 47 ∧ l.head?.map (·.toNat) = some 42
          · rw [if_pos hc2] at hk
            rw [if_pos ((h47 42 42 rfl).2 hc2)]
            have hl1 : 1 ≤ l.length := by
              cases l with
              | nil => simp at hc2
              | cons d l => simp
            have hdr : s.data.toList.drop (a + 2) = l.drop 1 := by rw [← h3, List.drop_drop]
            obtain ⟨K1, hK1⟩ : ∃ K1, K = K1 + n + 1 := ⟨K - n - 1, by omega⟩
            rcases rrem_eq s hs K1 a n (a + 2) (by omega) (by omega) with ⟨g1, g2⟩ | ⟨m, g1, g2, _⟩
            · rw [hK1, g2]
              rw [hdr] at g1
              rw [g1] at hk
              cases hk
              rw [show s.size - (c :: l).length = a by simp only [List.length_cons]; omega]
            · obtain ⟨K', hK'⟩ : ∃ K', K = K' + m + 1 := ⟨K - m - 1, by omega⟩
              rcases rrem_eq s hs K' a n (a + 2) (by omega) (by omega) with ⟨g1', _⟩ | ⟨m', g1', g2', g3'⟩
              · rw [g2] at g1'; cases g1'
              · rw [g2] at g2'
                injection g2' with g2'
                have e1 := congrArg List.length g2'
                rw [List.length_drop, List.length_drop, hL] at e1
                obtain rfl : m' = m := by omega
                rw [hK', g3']
                rw [← hdr, g2] at hk
                simp only at hk
                obtain ⟨q, hq⟩ : ∃ q, q + (m' + 4) = n := ⟨n - (m' + 4), by omega⟩
                rw [hfu (a + 2 + m' + 2) q (by omega) (by omega) (by omega)] at hk
                exact ih q (by omega) K' (a + 2 + m' + 2) (by omega) (by omega) (by omega) r b hk
          · rw [if_neg hc2] at hk
            rw [if_neg (fun h => hc2 ((h47 42 42 rfl).1 h))]
            cases hk
            rw [show s.size - (c :: l).length = a by simp only [List.length_cons]; omega]
    · obtain ⟨K, rfl⟩ : ∃ m, K = m + 1 := ⟨K - 1, by omega⟩
      rw [List.drop_eq_nil_of_le (by omega)] at hk
      cases hk
      simp only [signetryref03_skip.l0]
      rw [if_neg (by omega)]
      obtain rfl : a = s.size := by omega
      rfl
end Go.Proofs.YtihidbjffclfkaaGreatDoor.PLex
