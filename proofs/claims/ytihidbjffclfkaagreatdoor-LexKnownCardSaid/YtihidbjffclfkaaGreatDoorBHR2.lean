/- Part of the proof: what it uses of HR2. -/
import Derived.Test.YtihidbjffclfkaaGreatDoorBHR1
import Derived.Test.YtihidbjffclfkaaGreatDoorBPLexL1
namespace Go.Proofs.YtihidbjffclfkaaGreatDoor.PLex
open Go.RowKit Go.Maps Go.Proofs.YtihidbjffclfkaaGreatDoorW.PrintWords Go.Proofs.YtihidbjffclfkaaGreatDoorW.PrintLast Go.Proofs.YtihidbjffclfkaaGreatDoorW.PrintMore Go.Proofs.YtihidbjffclfkaaGreatDoor.Lx
set_option linter.unusedVariables false
set_option linter.unusedSimpArgs false
theorem up_ {α : Type} {f : Nat → Option α} (h : ∀ k, LeO (f k) (f (k + 1))) {k k' : Nat} (hk : k ≤ k') {r : α} (hr : f k = some r) : f k' = some r := by
  induction hk with
  | refl => exact hr
  | step _ ih => exact h _ _ ih
theorem rletter (c : UInt8) : signetryref03_letter.f (c.toNat : Int) = some (isLetter c) := by
  have key : ∀ n : Fin 256, signetryref03_letter.f ((UInt8.ofNat n.1).toNat : Int) = some (isLetter (UInt8.ofNat n.1)) := by decide +kernel
  have h2 := key ⟨c.toNat, c.toNat_lt⟩
  simpa using h2
theorem rdigit (c : UInt8) : signetryref03_digit.f (c.toNat : Int) = some (isDigit c) := by
  have key : ∀ n : Fin 256, signetryref03_digit.f ((UInt8.ofNat n.1).toNat : Int) = some (isDigit (UInt8.ofNat n.1)) := by decide +kernel
  have h2 := key ⟨c.toNat, c.toNat_lt⟩
  simpa using h2
theorem rsign (c : UInt8) (K : Nat) (hK : 20 ≤ K) : signetryref03_sign.f K (c.toNat : Int) = some (isSign c) := by
  have key : ∀ n : Fin 256, signetryref03_sign.f 20 ((UInt8.ofNat n.1).toNat : Int) = some (isSign (UInt8.ofNat n.1)) := by decide +kernel
  have h2 := key ⟨c.toNat, c.toNat_lt⟩
  exact up_ (f := fun k => signetryref03_sign.f k (c.toNat : Int)) (fun k => signetryref03_sign.mono _ _) hK (by simpa using h2)
theorem rrest_eq (s : ByteArray) (hs : s.size ≤ 65536) : ∀ (n K a : Nat), s.size - a ≤ n → a ≤ s.size → n + 1 ≤ K → signetryref03_rest.l0 K s (a : Int) = some ((a + ((s.data.toList.drop a).takeWhile isAl).length : Nat) : Int)
  | n, K, a, hn, ha, hK => by
    obtain ⟨K, rfl⟩ : ∃ m, K = m + 1 := ⟨K - 1, by omega⟩
    by_cases h : a < s.size
    · obtain ⟨c, l, h1, h2, h3, h4⟩ := drop_parts s a h
      have hon : isAl c = true → signetryref03_rest.l0 K s ((a + 1 : Nat) : Int) = some ((a + ((s.data.toList.drop a).takeWhile isAl).length : Nat) : Int) := by
        intro hc
        cases n with
        | zero => omega
        | succ n =>
          have ih := rrest_eq s hs n K (a + 1) (by omega) (by omega) (by omega)
          rw [ih, h1, h3, List.takeWhile_cons_of_pos hc, List.length_cons]
          congr 2
          omega
      simp only [signetryref03_rest.l0]
      rw [if_pos (by omega), if_pos (by omega), h2, rletter]
      simp only [Option.bind_some]
      rw [w1_ a (by omega)]
      by_cases hc : isLetter c = true
      · rw [if_pos hc]
        exact hon (al_of (.inl hc))
      · rw [if_neg hc, rdigit]
        simp only [Option.bind_some]
        by_cases hd : isDigit c = true
        · rw [if_pos hd]
          exact hon (al_of (.inr hd))
        · rw [if_neg hd, h1, List.takeWhile_cons_of_neg (by unfold isAl; simp [hc, hd])]
          rfl
    · simp only [signetryref03_rest.l0]
      rw [if_neg (by omega), List.drop_eq_nil_of_le (by rw [← Lib.size_eq]; omega)]
      rfl
theorem rlit_eq (s : ByteArray) (hs : s.size ≤ 65536) (a : Nat) (q : UInt8) (hq : q.toNat ≠ 10) (ha : a < s.size) (hqa : bt s (a : Int) = (q.toNat : Int)) : ∀ (n K p : Nat), s.size - p ≤ n → p ≤ s.size + 1 → 2 * n + 2 ≤ K →
    signetryref03_literal.l0 K s (a : Int) (p : Int) = match litL q (s.data.toList.drop p) with | none => some (0, false) | some r => some (((s.size - r.length : Nat) : Int), true)
  | n, K, p, hn, hp, hK => by
    obtain ⟨K, rfl⟩ : ∃ m, K = m + 2 := ⟨K - 2, by omega⟩
    by_cases h : p < s.size
    · obtain ⟨c, l, h1, h2, h3, h4⟩ := drop_parts s p h
      have hj : signetryref03_literal.l0 (K + 2) s (a : Int) (p : Int) = signetryref03_literal.j1 (K + 1) s (a : Int) (p : Int) (c.toNat != 10) := by
        simp only [signetryref03_literal.l0]
        rw [if_pos (by omega), if_pos (by omega), h2]
        congr 1
        rw [Bool.eq_iff_iff]
        simp only [bne_iff_ne, ne_eq]
        omega
      rw [hj, h1, litL_cons]
      simp only [signetryref03_literal.j1]
      by_cases hc : c.toNat = 10
      · rw [if_neg (by simp [hc]), if_neg (fun h => hq (by rw [← h]; exact hc)), if_pos hc]
      · rw [if_pos (by simpa using hc), if_pos (by omega), if_pos (by omega), if_pos (by omega), if_pos (by omega), h2, hqa]
        by_cases hcq : c = q
        · rw [if_pos (by rw [hcq]), if_pos hcq, w1_ p (by omega)]
          simp only
          rw [show s.size - l.length = p + 1 by omega]
        · rw [if_neg (fun h => hcq (UInt8.toNat_inj.1 (by omega))), if_neg hcq, if_neg hc, w1_ p (by omega), w1_ (p + 1) (by omega)]
          by_cases h92 : c.toNat = 92
          · rw [if_pos (by omega), if_pos h92]
            by_cases h5 : p + 1 < s.size
            · obtain ⟨d, l2, k1, k2, k3, k4⟩ := drop_parts s (p + 1) h5
              have hl : l = d :: l2 := by rw [← h3, k1]
              subst hl
              rw [if_pos (by omega), if_pos (by omega), k2]
              simp only
              by_cases hd : d.toNat = 10
              · rw [if_pos (by omega), if_pos hd]
              · rw [if_neg (by omega), if_neg hd]
                cases n with
                | zero => omega
                | succ n =>
                  have ih := rlit_eq s hs a q hq ha hqa n K (p + 1 + 1) (by omega) (by omega) (by omega)
                  rw [ih, k3]
            · have hl : l = [] := List.length_eq_zero_iff.1 (by omega)
              subst hl
              rw [if_neg (by omega)]
              cases n with
              | zero => omega
              | succ n =>
                have ih := rlit_eq s hs a q hq ha hqa n K (p + 1 + 1) (by omega) (by omega) (by omega)
                rw [ih, List.drop_eq_nil_of_le (by rw [← Lib.size_eq]; omega)]
                rfl
          · rw [if_neg (by omega), if_neg h92]
            cases n with
            | zero => omega
            | succ n =>
              have ih := rlit_eq s hs a q hq ha hqa n K (p + 1) (by omega) (by omega) (by omega)
              rw [ih, h3]
    · rw [List.drop_eq_nil_of_le (by rw [← Lib.size_eq]; omega)]
      simp only [signetryref03_literal.l0, signetryref03_literal.j1]
      rw [if_neg (by omega), if_neg (by simp)]
      rfl
def tabLo : ByteArray := ⟨#[48, 49, 50, 51, 52, 53, 54, 55, 56, 57, 97, 98, 99, 100, 101, 102]⟩
def tabUp : ByteArray := ⟨#[48, 49, 50, 51, 52, 53, 54, 55, 56, 57, 65, 66, 67, 68, 69, 70]⟩
theorem tab_dig (c : UInt8) (j : Nat) (hj : j < 16) : ((c.toNat : Int) = bt tabLo (j : Int) ∨ (c.toNat : Int) = bt tabUp (j : Int)) ↔ dig c = j := by
  have key : ∀ n : Fin 256, ∀ j : Fin 16, (((UInt8.ofNat n.1).toNat : Int) = bt tabLo (j.1 : Int) ∨ ((UInt8.ofNat n.1).toNat : Int) = bt tabUp (j.1 : Int)) ↔ dig (UInt8.ofNat n.1) = j.1 := by decide +kernel
  have h2 := key ⟨c.toNat, c.toNat_lt⟩ ⟨j, hj⟩
  simpa using h2
theorem rval_in (t : ByteArray) (ht : t.size ≤ 65536) (b : Nat) (hb : b ≤ 16) (n : Int) (i : Nat) (hi : i < t.size) (c : UInt8) (hc : bt t (i : Int) = (c.toNat : Int)) (K : Nat) : ∀ (d j : Nat), j + d = b →
    signetryref03_value.l1 (K + d + 1) t (b : Int) n (i : Int) (if dig c < j then (dig c : Int) else -1) (j : Int) = if dig c < b then signetryref03_value.l0 K t (b : Int) (mn (wrap64 ((wrap64 ((b : Int) * n)) + (dig c : Int))) 2147483649) (wrap64 ((i : Int) + 1)) else some (-1)
  | 0, j, h => by
    obtain rfl : j = b := by omega
    simp only [signetryref03_value.l1]
    rw [if_neg (by omega)]
    by_cases hd : dig c < j
    · rw [if_pos hd, if_pos hd, if_neg (by omega)]
    · rw [if_neg hd, if_neg hd, if_pos (by decide)]
  | d + 1, j, h => by
    have ih := rval_in t ht b hb n i hi c hc K d (j + 1) (by omega)
    have hn : ∀ x : Int, signetryref03_value.l1 (K + (d + 1) + 1) t (b : Int) n (i : Int) x (j : Int) = if dig c = j then signetryref03_value.l1 (K + d + 1) t (b : Int) n (i : Int) (j : Int) ((j + 1 : Nat) : Int) else signetryref03_value.l1 (K + d + 1) t (b : Int) n (i : Int) x ((j + 1 : Nat) : Int) := by
      intro x
      have htab := tab_dig c j (by omega)
      have e : K + (d + 1) + 1 = (K + d + 1) + 1 := by omega
      rw [e]
      simp only [signetryref03_value.l1]
      rw [if_pos (by omega), if_pos (by omega), if_pos (by omega), if_pos (by omega), if_pos (by omega), hc, w1_ j (by omega)]
      change (if (c.toNat : Int) = bt tabLo (j : Int) then _ else if (c.toNat : Int) = bt tabUp (j : Int) then _ else _) = _
      by_cases h1 : (c.toNat : Int) = bt tabLo (j : Int)
      · rw [if_pos h1, if_pos (htab.1 (.inl h1))]
      · rw [if_neg h1]
        by_cases h2 : (c.toNat : Int) = bt tabUp (j : Int)
        · rw [if_pos h2, if_pos (htab.1 (.inr h2))]
        · rw [if_neg h2, if_neg (fun h => (htab.2 h).elim h1 h2)]
    rw [hn]
    by_cases hd : dig c = j
    · rw [if_pos hd, ← ih, if_pos (by omega), hd]
    · rw [if_neg hd, ← ih]
      by_cases h2 : dig c < j
      · rw [if_pos h2, if_pos (by omega)]
      · rw [if_neg h2, if_neg (by omega)]
theorem sat_step (b v k : Nat) (hb : 1 ≤ b) : min (b * min v 2147483649 + k) 2147483649 = min (v * b + k) 2147483649 := by
  by_cases h : v ≤ 2147483649
  · rw [show min v 2147483649 = v by omega, Nat.mul_comm]
  · rw [show min v 2147483649 = 2147483649 by omega]
    have h1 : 2147483649 ≤ b * 2147483649 := Nat.le_mul_of_pos_left _ hb
    have h2 : v ≤ v * b := Nat.le_mul_of_pos_right _ hb
    omega
theorem rval_eq (t : ByteArray) (ht : t.size ≤ 65536) (b : Nat) (hb : 1 ≤ b) (hb2 : b ≤ 16) : ∀ (n K i v : Nat), t.size - i ≤ n → i ≤ t.size → 18 * n + 2 ≤ K → 0 < t.size →
    signetryref03_value.l0 K t (b : Int) ((min v 2147483649 : Nat) : Int) (i : Int) = if ((t.data.toList.drop i).all fun c => decide (dig c < b)) = true then some ((min (val b (t.data.toList.drop i) v) 2147483649 : Nat) : Int) else some (-1)
  | n, K, i, v, hn, hi, hK, h0 => by
    obtain ⟨K, rfl⟩ : ∃ m, K = m + 1 := ⟨K - 1, by omega⟩
    simp only [signetryref03_value.l0]
    by_cases h : i < t.size
    · obtain ⟨c, l, h1, h2, h3, h4⟩ := drop_parts t i h
      rw [if_pos (by omega)]
      obtain ⟨K', hK'⟩ : ∃ K', K = K' + b + 1 := ⟨K - b - 1, by omega⟩
      have hin := rval_in t ht b hb2 ((min v 2147483649 : Nat) : Int) i h c h2 K' b 0 (by omega)
      rw [if_neg (by omega)] at hin
      rw [hK']
      rw [show (0 : Int) = ((0 : Nat) : Int) from rfl, hin, h1]
      by_cases hd : dig c < b
      · rw [if_pos hd]
        have hd16 : dig c < 16 := by omega
        have e1 : wrap64 ((b : Int) * ((min v 2147483649 : Nat) : Int)) = ((b * min v 2147483649 : Nat) : Int) := by
          rw [← Int.natCast_mul]
          refine w64 _ ?_
          have : b * min v 2147483649 ≤ 16 * 2147483649 := Nat.mul_le_mul hb2 (Nat.min_le_right _ _)
          omega
        have e2 : b * min v 2147483649 ≤ 16 * 2147483649 := Nat.mul_le_mul hb2 (Nat.min_le_right _ _)
        rw [e1, w64' _ _ (by omega), w1_ i (by omega), show (2147483649 : Int) = ((2147483649 : Nat) : Int) from rfl, mn_nat, sat_step b v (dig c) hb]
        cases n with
        | zero => omega
        | succ n =>
          have ih := rval_eq t ht b hb hb2 n K' (i + 1) (v * b + dig c) (by omega) (by omega) (by omega) h0
          have hall : ((c :: l).all fun c => decide (dig c < b)) = (l.all fun c => decide (dig c < b)) := by rw [List.all_cons, decide_eq_true hd, Bool.true_and]
          rw [ih, h3]
          simp only [hall, val]
      · have hall : ((c :: l).all fun c => decide (dig c < b)) = false := by rw [List.all_cons, decide_eq_false hd, Bool.false_and]
        rw [if_neg hd]
        simp only [hall]
        rfl
    · rw [if_neg (by omega), if_neg (by omega), List.drop_eq_nil_of_le (by rw [← Lib.size_eq]; omega)]
      simp [val]
theorem rvalue (t : ByteArray) (ht : t.size ≤ 65536) (b : Nat) (hb : 1 ≤ b) (hb2 : b ≤ 16) (K : Nat) (hK : 18 * t.size + 2 ≤ K) : signetryref03_value.f K t (b : Int) = if t.data.toList = [] ∨ ¬ (t.data.toList.all fun c => decide (dig c < b)) = true then some (-1) else some ((min (val b t.data.toList 0) 2147483649 : Nat) : Int) := by
  unfold signetryref03_value.f
  by_cases h0 : 0 < t.size
  · have := rval_eq t ht b hb hb2 t.size K 0 0 (by omega) (by omega) hK h0
    rw [List.drop_zero] at this
    have hne : t.data.toList ≠ [] := by
      intro h
      have := Lib.size_eq t
      rw [h, List.length_nil] at this
      omega
    refine Eq.trans this ?_
    by_cases ha : (t.data.toList.all fun c => decide (dig c < b)) = true
    · rw [if_pos ha, if_neg (by rintro (h | h); exact hne h; exact h ha)]
    · rw [if_neg ha, if_pos (.inr ha)]
  · obtain ⟨K, rfl⟩ : ∃ m, K = m + 1 := ⟨K - 1, by omega⟩
    have hnil : t.data.toList = [] := List.length_eq_zero_iff.1 (by rw [← Lib.size_eq]; omega)
    simp only [signetryref03_value.l0]
    rw [if_neg (by omega), if_pos (by omega), if_pos (.inl hnil)]
def rnum : NumIs → Int
  | .ok n => (n : Int)
  | .word => -1
  | .range => 2147483649
theorem rnum_of (l : List UInt8) (b : Nat) (rl : List UInt8) (h : numParts l = (b, rl)) : (if rl = [] ∨ ¬ (rl.all fun c => decide (dig c < b)) = true then some (-1) else some ((min (val b rl 0) 2147483649 : Nat) : Int)) = some (rnum (numIs l)) := by
  rw [numIs_eq l rl b h]
  by_cases h1 : rl = [] ∨ ¬ (rl.all fun c => decide (dig c < b)) = true
  · rw [if_pos h1, if_pos h1]
    rfl
  · rw [if_neg h1, if_neg h1]
    by_cases h2 : val b rl 0 ≤ 2147483648
    · rw [if_pos h2, Nat.min_eq_left (by omega)]
      rfl
    · rw [if_neg h2, Nat.min_eq_right (by omega)]
      rfl
theorem rnumber (t : ByteArray) (ht : t.size ≤ 65536) (h0 : 0 < t.size) (K : Nat) (hK : 18 * t.size + 10 ≤ K) : signetryref03_number.f K t = some (rnum (numIs t.data.toList)) := by
  have hsz := Lib.size_eq t
  have hv : ∀ (u : ByteArray) (b : Nat) (K' : Nat), u.size ≤ t.size → 1 ≤ b → b ≤ 16 → K ≤ K' + 2 → signetryref03_value.f K' u (b : Int) = if u.data.toList = [] ∨ ¬ (u.data.toList.all fun c => decide (dig c < b)) = true then some (-1) else some ((min (val b u.data.toList 0) 2147483649 : Nat) : Int) := fun u b K' h1 h2 h3 h4 => rvalue u (by omega) b h2 h3 K' (by omega)
  obtain ⟨K, rfl⟩ : ∃ m, K = m + 1 := ⟨K - 1, by omega⟩
  unfold signetryref03_number.f
  rw [Lib.toList_data]
  cases hl : t.data.toList with
  | nil => rw [hl, List.length_nil] at hsz; omega
  | cons a l =>
    cases l with
    | nil =>
      rw [hl] at hsz
      simp only [List.length_cons, List.length_nil] at hsz
      by_cases ha : a = 48
      · subst ha
        rw [if_pos rfl]
        rfl
      · rw [if_neg (by intro h; cases h; exact ha rfl), if_neg (by omega)]
        have hb := bt_head hl
        have h48 : a.toNat ≠ 48 := fun h => ha (UInt8.toNat_inj.1 h)
        simp only [signetryref03_number.j0]
        rw [if_neg (by simp), if_pos (by omega), hb, if_neg (by omega)]
        have := hv t 10 K (Nat.le_refl _) (by omega) (by omega) (by omega)
        rw [hl] at this
        have h2 := rnum_of [a] 10 [a] rfl
        rw [show (10 : Int) = ((10 : Nat) : Int) from rfl, this, h2]
        rfl
    | cons b r =>
      rw [hl] at hsz
      simp only [List.length_cons] at hsz
      rw [if_neg (by simp), if_pos (by omega), if_pos (by decide), if_pos (by omega)]
      have h2 : (t.extract 0 2).toList = [a, b] := by
        rw [Lib.toList_data, extract_to, hl]
        rfl
      rw [h2]
      have hj : (if [a, b] = ([48, 120] : List UInt8) then signetryref03_number.j0 (K + 1) t true else signetryref03_number.j0 (K + 1) t ([a, b] == ([48, 88] : List UInt8))) = signetryref03_number.j0 (K + 1) t (decide (a.toNat = 48 ∧ low b = 120)) := by
        have hlow : ∀ b : UInt8, low b = 120 ↔ (b = 120 ∨ b = 88) := by
          intro b
          have key : ∀ n : Fin 256, low (UInt8.ofNat n.1) = 120 ↔ (UInt8.ofNat n.1 = 120 ∨ UInt8.ofNat n.1 = 88) := by decide +kernel
          have h2 := key ⟨b.toNat, b.toNat_lt⟩
          simpa using h2
        have ha48 : a.toNat = 48 ↔ a = 48 := ⟨fun h => UInt8.toNat_inj.1 h, fun h => by rw [h]; rfl⟩
        by_cases h1 : [a, b] = ([48, 120] : List UInt8)
        · rw [if_pos h1]
          simp only [List.cons.injEq, and_true] at h1
          rw [decide_eq_true ⟨ha48.2 h1.1, (hlow b).2 (.inl h1.2)⟩]
        · rw [if_neg h1]
          congr 1
          rw [Bool.eq_iff_iff]
          simp only [beq_iff_eq, List.cons.injEq, and_true, decide_eq_true_eq, ha48, hlow]
          simp only [List.cons.injEq, and_true] at h1
          constructor
          · rintro ⟨h3, h4⟩
            exact ⟨h3, .inr h4⟩
          · rintro ⟨h3, h4 | h4⟩
            · exact absurd ⟨h3, h4⟩ h1
            · exact ⟨h3, h4⟩
      rw [hj]
      have hb := bt_head hl
      simp only [signetryref03_number.j0]
      by_cases h48 : a.toNat = 48
      · by_cases hx : low b = 120
        · rw [if_pos (by simp [h48, hx]), if_pos (by omega)]
          have he : (t.extract 2 t.size).data.toList = r := by rw [extract_drop, hl]; rfl
          have := hv (t.extract 2 t.size) 16 K (by rw [ByteArray.size_extract]; omega) (by omega) (by omega) (by omega)
          rw [he] at this
          have h3 := rnum_of (a :: b :: r) 16 r (by simp only [numParts]; rw [if_pos h48, if_pos hx])
          rw [show (16 : Int) = ((16 : Nat) : Int) from rfl, this, h3]
          rfl
        · rw [if_neg (by simp [hx]), if_pos (by omega), hb, if_pos (by omega), if_pos (by omega)]
          have he : (t.extract 1 t.size).data.toList = b :: r := by rw [extract_drop, hl]; rfl
          have := hv (t.extract 1 t.size) 8 K (by rw [ByteArray.size_extract]; omega) (by omega) (by omega) (by omega)
          rw [he] at this
          have h3 := rnum_of (a :: b :: r) 8 (b :: r) (by simp only [numParts]; rw [if_pos h48, if_neg hx])
          rw [show (8 : Int) = ((8 : Nat) : Int) from rfl, this, h3]
          rfl
      · rw [if_neg (by simp [h48]), if_pos (by omega), hb, if_neg (by omega)]
        have := hv t 10 K (Nat.le_refl _) (by omega) (by omega) (by omega)
        rw [hl] at this
        have h3 := rnum_of (a :: b :: r) 10 (a :: b :: r) (by simp only [numParts]; rw [if_neg h48])
        rw [show (10 : Int) = ((10 : Nat) : Int) from rfl, this, h3]
        rfl
end Go.Proofs.YtihidbjffclfkaaGreatDoor.PLex
