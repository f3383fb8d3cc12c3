/- Part of the proof: what it uses of HMade. -/
import Derived.Test.YtihidbjffclfkaaDoorVHEq3
import Derived.Test.YtihidbjffclfkaaDoorVHLawJoins
import Derived.Test.YtihidbjffclfkaaDoorVPLexR
namespace Go.Proofs.YtihidbjffclfkaaDoor.PLex
open Go.RowKit Go.Maps Go.Proofs.YtihidbjffclfkaaDoorW.PrintWords Go.Proofs.YtihidbjffclfkaaDoorW.PrintLast Go.Proofs.YtihidbjffclfkaaDoorW.PrintMore Go.Proofs.YtihidbjffclfkaaDoor.Lx
set_option linter.unusedVariables false
set_option linter.unusedSimpArgs false
def Stop (z : List UInt8) : Prop := ∀ c r, z = c :: r → isAl c = false
structure Good (x : S28) (src : List UInt8) : Prop where
  joined : wordB x = some ⟨src.toArray⟩
  head : ∃ c r, src = c :: r ∧ isBlank c = false ∧ c.toNat ≠ 47
  small : x.f2.size ≤ 40
  read : ∃ kd t v, x.f0 = ((kd : Nat) : Int) ∧ x.f2 = ⟨(t : List UInt8).toArray⟩ ∧ x.f3 = ((v : Nat) : Int) ∧ ∀ z, Stop z → tokL (src ++ z) = .word kd t v z
theorem tw_stop (a z : List UInt8) (ha : ∀ c ∈ a, isAl c = true) (hz : Stop z) : (a ++ z).takeWhile isAl = a ∧ (a ++ z).dropWhile isAl = z := by
  have h1 : z.takeWhile isAl = [] ∧ z.dropWhile isAl = z := by
    cases z with
    | nil => exact ⟨rfl, rfl⟩
    | cons c r =>
      have := hz c r rfl
      rw [List.takeWhile_cons_of_neg (by simp [this]), List.dropWhile_cons_of_neg (by simp [this])]
      exact ⟨rfl, rfl⟩
  induction a with
  | nil => exact h1
  | cons c a ih =>
    have hc := ha c (List.mem_cons_self ..)
    have := ih (fun x hx => ha x (List.mem_cons_of_mem _ hx))
    rw [List.cons_append, List.takeWhile_cons_of_pos hc, List.dropWhile_cons_of_pos hc, this.1, this.2]
    exact ⟨rfl, rfl⟩
theorem byte_all {p : UInt8 → Bool} (h : ∀ n : Fin 256, p (UInt8.ofNat n.1) = true) (c : UInt8) : p c = true := by
  have := h ⟨c.toNat, c.toNat_lt⟩
  simpa using this
theorem al_plain (c : UInt8) (h : isAl c = true) : isBlank c = false ∧ c.toNat ≠ 47 := by
  have := byte_all (p := fun c => !isAl c || (!isBlank c && (c.toNat != 47))) (by decide +kernel) c
  rw [h] at this
  simpa using this
theorem dig_al (c : UInt8) (h : dig c < 16) : isAl c = true := by
  have := byte_all (p := fun c => !decide (dig c < 16) || isAl c) (by decide +kernel) c
  rw [decide_eq_true h] at this
  simpa using this
theorem dig_isDigit (c : UInt8) (h : dig c < 10) : isDigit c = true ∧ isLetter c = false := by
  have := byte_all (p := fun c => !decide (dig c < 10) || (isDigit c && !isLetter c)) (by decide +kernel) c
  rw [decide_eq_true h] at this
  simpa using this
theorem dig_zero (c : UInt8) (h : dig c ≠ 0) : c.toNat ≠ 48 := by
  have := byte_all (p := fun c => decide (dig c = 0) || c.toNat != 48) (by decide +kernel) c
  rw [decide_eq_false h] at this
  simpa using this
theorem dig_low (c : UInt8) (h : dig c < 8) : low c ≠ 120 := by
  have := byte_all (p := fun c => !decide (dig c < 8) || low c != 120) (by decide +kernel) c
  rw [decide_eq_true h] at this
  simpa using this
theorem ident_good (t : List UInt8) (hl : (t.length) ≤ 31) (ha : ∀ c ∈ t, isAl c = true) : Good ⟨1, 0, ⟨(95 :: t).toArray⟩, 0⟩ (95 :: t) where
  joined := by
    unfold wordB
    rw [if_neg (by show ¬ (1 : Int) = 3; decide), if_neg (by simp [ByteArray.size])]
  head := ⟨95, t, rfl, by decide, by decide⟩
  small := by simp [ByteArray.size]; omega
  read := by
    refine ⟨1, 95 :: t, 0, rfl, rfl, rfl, fun z hz => ?_⟩
    have := tw_stop (95 :: t) z (fun c hc => by rcases List.mem_cons.1 hc with rfl | hc; decide; exact ha c hc) hz
    rw [List.cons_append] at this ⊢
    simp only [tokL]
    rw [if_pos (by decide), this.1, this.2, if_neg (by simp; omega)]
theorem num_good (c : UInt8) (t : List UInt8) (n : Nat) (hl : t.length ≤ 39) (hc : isDigit c = true ∧ isLetter c = false) (ha : ∀ c ∈ t, isAl c = true) (hn : numIs (c :: t) = .ok n) : Good ⟨2, 0, ⟨(c :: t).toArray⟩, (n : Int)⟩ (c :: t) where
  joined := by
    unfold wordB
    rw [if_neg (by show ¬ (2 : Int) = 3; decide), if_neg (by simp [ByteArray.size])]
  head := ⟨c, t, rfl, (al_plain c (al_of (.inr hc.1))).1, (al_plain c (al_of (.inr hc.1))).2⟩
  small := by simp [ByteArray.size]; omega
  read := by
    refine ⟨2, c :: t, n, rfl, rfl, rfl, fun z hz => ?_⟩
    have := tw_stop (c :: t) z (fun d hd => by rcases List.mem_cons.1 hd with rfl | hd; exact al_of (.inr hc.1); exact ha d hd) hz
    rw [List.cons_append] at this ⊢
    simp only [tokL]
    rw [if_neg (by simp [hc.2]), if_pos hc.1, this.1, this.2, hn]
theorem sign_good (c : UInt8) (h : isSign c = true) : Good ⟨4, 0, ⟨#[c]⟩, 0⟩ [c] where
  joined := by
    unfold wordB
    rw [if_neg (by show ¬ (4 : Int) = 3; decide), if_neg (by simp [ByteArray.size])]
  head := by
    have := byte_all (p := fun c => !isSign c || (!isBlank c && (c.toNat != 47))) (by decide +kernel) c
    rw [h] at this
    refine ⟨c, [], rfl, ?_⟩
    simpa using this
  small := by simp [ByteArray.size]
  read := by
    refine ⟨4, [c], 0, rfl, rfl, rfl, fun z _ => ?_⟩
    have := byte_all (p := fun c => !isSign c || (!isLetter c && !isDigit c && (c.toNat != 34) && (c.toNat != 39))) (by decide +kernel) c
    rw [h] at this
    simp only [Bool.not_true, Bool.false_or, Bool.and_eq_true, Bool.not_eq_true', bne_iff_ne, ne_eq] at this
    obtain ⟨⟨⟨h1, h2⟩, h3⟩, h4⟩ := this
    simp only [List.cons_append, List.nil_append, tokL]
    rw [if_neg (by simp [h1]), if_neg (by simp [h2]), if_neg (by omega), if_pos h]
def qOK (c : UInt8) : Bool :=
  match qOne c with
  | [d] => d == c && d.toNat != 34 && d.toNat != 10 && d.toNat != 92 && decide (32 ≤ d.toNat)
  | [a, d] => a == 92 && d.toNat != 10 && (match esc1 d with | some b => UInt8.ofNat b == c | none => false)
  | [a, d, e, f] => a == 92 && (esc1 d).isNone && d.toNat != 120 && d.toNat != 88 && d.toNat != 117 && d.toNat != 85 && decide (dig d < 8) && decide (dig e < 8) && decide (dig f < 8) && d.toNat != 10 && e.toNat != 10 && e.toNat != 34 && e.toNat != 92 && f.toNat != 10 && f.toNat != 34 && f.toNat != 92 && decide (((0 * 8 + dig d) * 8 + dig e) * 8 + dig f = c.toNat)
  | _ => false
theorem qOK_all (c : UInt8) : qOK c = true := byte_all (p := qOK) (by decide +kernel) c
theorem lit_q (l z : List UInt8) : litL 34 (l.flatMap qOne ++ 34 :: z) = some z := by
  induction l with
  | nil => simp [litL_cons]
  | cons c l ih =>
    have h := qOK_all c
    rw [List.flatMap_cons, List.append_assoc]
    unfold qOK at h
    split at h
    · rename_i d hd
      rw [hd]
      simp only [Bool.and_eq_true, beq_iff_eq, bne_iff_ne, ne_eq] at h
      obtain ⟨⟨⟨⟨_, h1⟩, h2⟩, h3⟩, _⟩ := h
      rw [List.cons_append, litL_cons, if_neg (fun hx => h1 (by rw [hx]; rfl)), if_neg h2, if_neg h3]
      exact ih
    · rename_i a d hd
      rw [hd]
      simp only [Bool.and_eq_true, beq_iff_eq, bne_iff_ne, ne_eq] at h
      obtain ⟨⟨h1, h2⟩, _⟩ := h
      subst h1
      rw [List.cons_append, litL_cons, if_neg (by decide), if_neg (by decide), if_pos (by decide)]
      simp only [List.cons_append, List.nil_append]
      rw [if_neg h2]
      exact ih
    · rename_i a d e f hd
      rw [hd]
      simp only [Bool.and_eq_true, beq_iff_eq, bne_iff_ne, ne_eq] at h
      obtain ⟨⟨⟨⟨⟨⟨⟨⟨⟨⟨⟨⟨⟨⟨⟨⟨h1, _⟩, _⟩, _⟩, _⟩, _⟩, _⟩, _⟩, _⟩, k2⟩, e1⟩, e2⟩, e3⟩, f1⟩, f2⟩, f3⟩, _⟩ := h
      subst h1
      rw [List.cons_append, litL_cons, if_neg (by decide), if_neg (by decide), if_pos (by decide)]
      simp only [List.cons_append, List.nil_append]
      rw [if_neg k2, litL_cons, if_neg (fun hx => e2 (by rw [hx]; rfl)), if_neg e1, if_neg e3, litL_cons, if_neg (fun hx => f2 (by rw [hx]; rfl)), if_neg f1, if_neg f3]
      exact ih
    · cases h
theorem digN3 (d e f : UInt8) (r : List UInt8) (hd : dig d < 8) (he : dig e < 8) (hf : dig f < 8) : digN 8 3 (d :: e :: f :: r) = 3 := by
  simp [digN, hd, he, hf]
theorem unq_q (l : List UInt8) : ∀ k, (l.flatMap qOne).length + 1 ≤ k → unq 34 k (l.flatMap qOne ++ [34]) = some l := by
  induction l with
  | nil =>
    intro k hk
    obtain ⟨k, rfl⟩ : ∃ m, k = m + 1 := ⟨k - 1, by omega⟩
    simp [unq]
  | cons c l ih =>
    intro k hk
    have h := qOK_all c
    rw [List.flatMap_cons] at hk
    rw [List.length_append] at hk
    rw [List.flatMap_cons, List.append_assoc]
    unfold qOK at h
    split at h
    · rename_i d hd
      rw [hd] at hk ⊢
      simp only [List.length_cons, List.length_nil] at hk
      simp only [Bool.and_eq_true, beq_iff_eq, bne_iff_ne, ne_eq, decide_eq_true_eq] at h
      obtain ⟨⟨⟨⟨h0, h1⟩, h2⟩, h3⟩, h4⟩ := h
      obtain ⟨k, rfl⟩ : ∃ m, k = m + 1 := ⟨k - 1, by omega⟩
      rw [List.cons_append]
      simp only [unq, List.nil_append]
      rw [if_neg (fun hx => h1 (by rw [hx]; rfl)), if_neg (by omega), if_neg h3, ih k (by omega), h0]
      rfl
    · rename_i a d hd
      rw [hd] at hk ⊢
      simp only [List.length_cons, List.length_nil] at hk
      simp only [Bool.and_eq_true, beq_iff_eq, bne_iff_ne, ne_eq] at h
      obtain ⟨⟨h1, h2⟩, h3⟩ := h
      subst h1
      obtain ⟨k, rfl⟩ : ∃ m, k = m + 1 := ⟨k - 1, by omega⟩
      rw [List.cons_append]
      simp only [unq, List.cons_append, List.nil_append]
      rw [if_neg (by decide), if_neg (by decide), if_pos (by decide)]
      cases he : esc1 d with
      | none => rw [he] at h3; cases h3
      | some b =>
        rw [he] at h3
        simp only [beq_iff_eq] at h3
        simp only [spell, he, List.drop_succ_cons, List.drop_zero]
        rw [ih k (by omega), h3]
        rfl
    · rename_i a d e f hd
      rw [hd] at hk ⊢
      simp only [List.length_cons, List.length_nil] at hk
      simp only [Bool.and_eq_true, beq_iff_eq, bne_iff_ne, ne_eq, Option.isNone_iff_eq_none, decide_eq_true_eq] at h
      obtain ⟨⟨⟨⟨⟨⟨⟨⟨⟨⟨⟨⟨⟨⟨⟨⟨h1, q1⟩, q2⟩, q3⟩, q4⟩, q5⟩, q6⟩, q7⟩, q8⟩, k2⟩, e1⟩, e2⟩, e3⟩, f1⟩, f2⟩, f3⟩, q9⟩ := h
      subst h1
      obtain ⟨k, rfl⟩ : ∃ m, k = m + 1 := ⟨k - 1, by omega⟩
      rw [List.cons_append]
      simp only [unq, List.cons_append, List.nil_append]
      rw [if_neg (by decide), if_neg (by decide), if_pos (by decide)]
      have hv : val 8 ((d :: e :: f :: (List.flatMap qOne l ++ [34])).take 3) 0 = c.toNat := by
        simp only [List.take_succ_cons, List.take_zero, val]
        exact q9
      have hc := c.toNat_lt
      simp only [spell, q1]
      rw [if_neg (by omega), if_neg (by omega), digN3 d e f _ q6 q7 q8, hv, if_pos ⟨by omega, by omega⟩]
      simp only [List.drop_succ_cons, List.drop_zero]
      rw [ih k (by omega)]
      simp
    · cases h
theorem lit_good (l : List UInt8) (hl : l.length ≤ 40) : Good ⟨3, 0, ⟨l.toArray⟩, 0⟩ (quoteL l) where
  joined := by
    unfold wordB
    rw [if_pos rfl]
  head := ⟨34, _, rfl, by decide, by decide⟩
  small := by simp [ByteArray.size]; omega
  read := by
    refine ⟨3, l, 0, rfl, rfl, rfl, fun z _ => ?_⟩
    unfold quoteL
    rw [List.cons_append, List.append_assoc]
    simp only [tokL, List.cons_append, List.nil_append]
    rw [if_neg (by decide), if_neg (by decide), if_pos (.inl rfl), lit_q]
    simp only
    have e : (34 :: (List.flatMap qOne l ++ 34 :: z)).take ((List.flatMap qOne l ++ 34 :: z).length + 1 - z.length) = 34 :: (List.flatMap qOne l ++ [34]) := by
      rw [show (34 :: (List.flatMap qOne l ++ 34 :: z)) = (34 :: (List.flatMap qOne l ++ [34])) ++ z by simp, show (List.flatMap qOne l ++ 34 :: z).length + 1 - z.length = (34 :: (List.flatMap qOne l ++ [34])).length by simp; omega]
      exact List.take_left
    rw [e]
    unfold unquote
    simp only
    rw [if_pos (.inl rfl), unq_q l _ (by simp)]
theorem val_app (base : Nat) : ∀ (a b : List UInt8) (n : Nat), val base (a ++ b) n = val base b (val base a n)
  | [], b, n => rfl
  | c :: a, b, n => val_app base a b _
structure Digs (base n : Nat) (D : List UInt8) : Prop where
  all : ∀ c ∈ D, dig c < base
  val_ : val base D 0 = n
  ne : D ≠ []
  one : n < base → D.length = 1
  lead : base ≤ n → ∀ c r, D = c :: r → dig c ≠ 0
theorem dig_chr : ∀ n : Fin 16, dig ((⟨#[48, 49, 50, 51, 52, 53, 54, 55, 56, 57, 97, 66, 99, 68, 101, 70]⟩ : ByteArray).data.toList.getD n.1 0) = n.1 := by decide
theorem digits_ok (base : Nat) (hb : base = 8 ∨ base = 10 ∨ base = 16) : ∀ (K n : Nat), 1 ≤ K → K ≤ 4294967296 → n < base ^ K → n ≤ 4294967296 → ∃ D, signetrylaw03_digits.f K (n : Int) (base : Int) = some ⟨D.toArray⟩ ∧ Digs base n D ∧ D.length ≤ K
  | 0, n, h, _, _, _ => by omega
  | K + 1, n, _, hKK, hn, hm => by
    have hb8 : 8 ≤ base := by omega
    have hb16 : base ≤ 16 := by omega
    simp only [signetrylaw03_digits.f]
    by_cases h : n < base
    · have hw : wrap64 ((n : Int) + 1) = ((n + 1 : Nat) : Int) := w64' n 1 (by omega)
      rw [if_pos (by omega), if_pos (by omega), hw, if_pos (by omega), if_pos (by omega)]
      have hD : ((⟨#[48, 49, 50, 51, 52, 53, 54, 55, 56, 57, 97, 66, 99, 68, 101, 70]⟩ : ByteArray).extract (n : Int).toNat ((n + 1 : Nat) : Int).toNat) = ⟨[(⟨#[48, 49, 50, 51, 52, 53, 54, 55, 56, 57, 97, 66, 99, 68, 101, 70]⟩ : ByteArray).data.toList.getD n 0].toArray⟩ := by
        apply ByteArray.ext
        apply Array.ext'
        rw [Int.toNat_natCast, Int.toNat_natCast, extract_one _ n (by show n < 16; omega)]
        have : n < (⟨#[48, 49, 50, 51, 52, 53, 54, 55, 56, 57, 97, 66, 99, 68, 101, 70]⟩ : ByteArray).data.toList.length := by show n < 16; omega
        rw [List.getD_eq_getElem?_getD, List.getElem?_eq_getElem this]
        rfl
      rw [hD]
      have hd := dig_chr ⟨n, by omega⟩
      simp only at hd
      refine ⟨_, rfl, ⟨fun c hc => ?_, ?_, by simp, fun _ => rfl, fun h2 => by omega⟩, by simp⟩
      · rw [List.mem_singleton.1 hc, hd]
        exact h
      · simp only [val, Nat.zero_mul, Nat.zero_add]
        exact hd
    · have hK : 1 ≤ K := by
        cases K with
        | zero => simp at hn; omega
        | succ K => exact Nat.le_add_left 1 K
      have hq : n / base < base ^ K := by
        rw [Nat.pow_succ] at hn
        exact Nat.div_lt_of_lt_mul (by rw [Nat.mul_comm]; exact hn)
      have hml : n % base < base := Nat.mod_lt _ (by omega)
      have hr : n % base < base ^ K := Nat.lt_of_lt_of_le hml (by
        calc base = base ^ 1 := (Nat.pow_one _).symm
          _ ≤ base ^ K := Nat.pow_le_pow_right (by omega) hK)
      have hdl : n / base ≤ n := Nat.div_le_self _ _
      obtain ⟨D1, h1, g1, l1⟩ := digits_ok base hb K (n / base) hK (by omega) hq (by omega)
      obtain ⟨D2, h2, g2, l2⟩ := digits_ok base hb K (n % base) hK (by omega) hr (by omega)
      have ht : Int.tdiv (n : Int) (base : Int) = ((n / base : Nat) : Int) := by rw [Int.tdiv_eq_ediv_of_nonneg (by omega)]; rfl
      have htm : Int.tmod (n : Int) (base : Int) = ((n % base : Nat) : Int) := by rw [Int.tmod_eq_emod_of_nonneg (by omega)]; rfl
      rw [if_neg (by omega), if_neg (by omega), ht, htm, w64 _ (by omega), h1, h2]
      simp only [Option.bind_some]
      have hl2 : D2.length = 1 := g2.one hml
      have hs : (⟨D1.toArray⟩ : ByteArray).size + (⟨D2.toArray⟩ : ByteArray).size ≤ 9223372036854775807 ↔ D1.length + D2.length ≤ 9223372036854775807 := by simp [ByteArray.size]
      have hsz : D1.length + D2.length ≤ 9223372036854775807 := by omega
      · rw [if_pos (hs.2 hsz)]
        refine ⟨D1 ++ D2, ?_, ⟨fun c hc => ?_, ?_, ?_, fun h2 => by omega, fun _ c r hcr => ?_⟩, by rw [List.length_append]; omega⟩
        · congr 1
        · rcases List.mem_append.1 hc with hc | hc
          · exact g1.all c hc
          · exact g2.all c hc
        · rw [val_app, g1.val_]
          obtain ⟨d, hd⟩ := List.length_eq_one_iff.1 hl2
          subst hd
          have := g2.val_
          simp only [val, Nat.zero_mul, Nat.zero_add] at this ⊢
          rw [this]
          exact Nat.div_add_mod' n base
        · simp [g1.ne]
        · cases D1 with
          | nil => exact absurd rfl g1.ne
          | cons a b =>
            simp only [List.cons_append, List.cons.injEq] at hcr
            obtain ⟨rfl, _⟩ := hcr
            by_cases hb2 : base ≤ n / base
            · exact g1.lead hb2 a b rfl
            · have h1 := g1.one (by omega)
              have hbn : b = [] := by
                simp at h1
                exact h1
              subst hbn
              have := g1.val_
              simp only [val, Nat.zero_mul, Nat.zero_add] at this
              rw [this]
              exact Nat.pos_iff_ne_zero.1 (Nat.div_pos (by omega) (by omega))
theorem num_of (base : Nat) (n : Nat) (pre D : List UInt8) (h : Digs base n D) (hp : numParts (pre ++ D) = (base, D)) (hn : n ≤ 2147483648) : numIs (pre ++ D) = .ok n := by
  rw [numIs_eq _ _ _ hp, if_neg, if_pos (by rw [h.val_]; exact hn), h.val_]
  rintro (h1 | h1)
  · exact h.ne h1
  · exact h1 (List.all_eq_true.2 fun c hc => decide_eq_true (h.all c hc))
theorem parts10 (n : Nat) (D : List UInt8) (h : Digs 10 n D) : numParts ([] ++ D) = (10, D) := by
  match D, h with
  | [], h => exact absurd rfl h.ne
  | [a], _ => rfl
  | a :: b :: r, h =>
    have h1 : ¬ n < 10 := fun hx => by have := h.one hx; simp at this
    have h2 := h.lead (by omega) a (b :: r) rfl
    simp only [List.nil_append, numParts]
    rw [if_neg (dig_zero a h2)]
theorem parts8 (n : Nat) (D : List UInt8) (h : Digs 8 n D) : numParts ([48] ++ D) = (8, D) := by
  match D, h with
  | [], h => exact absurd rfl h.ne
  | a :: r, h =>
    have h2 := h.all a (List.mem_cons_self ..)
    simp only [List.cons_append, List.nil_append, numParts]
    rw [if_pos (by decide), if_neg (dig_low a h2)]
theorem parts16 (D : List UInt8) : numParts ([48, 88] ++ D) = (16, D) := by
  simp only [List.cons_append, List.nil_append, numParts]
  rw [if_pos (by decide), if_pos (by decide)]
theorem made_ident (a b : Int) (l : List UInt8) : ∀ (d K : Nat) (t : List UInt8), t.length + d = min l.length 31 → d < K → (∀ c ∈ t, isAl c = true) →
    ∃ t2 : List UInt8, signetrylaw03_made.l0 K ⟨(95 :: t).toArray⟩ (t.length : Int) a b (bl l) = some (1, 0, ⟨(95 :: t2).toArray⟩, 0) ∧ t2.length ≤ 31 ∧ ∀ c ∈ t2, isAl c = true := by
  intro d
  induction d with
  | zero =>
    intro K t h hK ha
    obtain ⟨K, rfl⟩ : ∃ m, K = m + 1 := ⟨K - 1, by omega⟩
    refine ⟨t, ?_, by omega, ha⟩
    simp only [signetrylaw03_made.l0]
    rw [bl_len]
    by_cases h1 : (t.length : Int) < (l.length : Int)
    · rw [if_pos h1, if_neg (by omega)]
    · rw [if_neg h1]
  | succ d ih =>
    intro K t h hK ha
    obtain ⟨K, rfl⟩ : ∃ m, K = m + 1 := ⟨K - 1, by omega⟩
    have hi : t.length < l.length := by omega
    have hrd : rd (bl l) (t.length : Int) = (l[t.length].toNat : Int) := by
      unfold rd bl
      rw [List.getD_eq_getElem?_getD, Int.toNat_natCast, List.getElem?_map, List.getElem?_eq_getElem hi]
      rfl
    have htm : Int.tmod (l[t.length].toNat : Int) 10 = ((l[t.length].toNat % 10 : Nat) : Int) := by
      rw [Int.tmod_eq_emod_of_nonneg (by omega)]
      rfl
    have hm : l[t.length].toNat % 10 < 10 := Nat.mod_lt _ (by decide)
    obtain ⟨m, hmm⟩ : ∃ m, m = l[t.length].toNat % 10 := ⟨_, rfl⟩
    rw [← hmm] at htm hm
    have hch : ∃ c : UInt8, bt (⟨#[97, 98, 99, 88, 89, 90, 95, 48, 49, 57]⟩ : ByteArray) (m : Int) = (c.toNat : Int) ∧ isAl c = true := by
      have : ∀ n : Fin 10, ∃ c : UInt8, bt (⟨#[97, 98, 99, 88, 89, 90, 95, 48, 49, 57]⟩ : ByteArray) ((n.1 : Nat) : Int) = (c.toNat : Int) ∧ isAl c = true := by
        have h : ∀ n : Fin 10, bt (⟨#[97, 98, 99, 88, 89, 90, 95, 48, 49, 57]⟩ : ByteArray) ((n.1 : Nat) : Int) = ((([97, 98, 99, 88, 89, 90, 95, 48, 49, 57] : List UInt8).getD n.1 0).toNat : Int) ∧ isAl (([97, 98, 99, 88, 89, 90, 95, 48, 49, 57] : List UInt8).getD n.1 0) = true := by decide
        exact fun n => ⟨_, h n⟩
      exact this ⟨m, hm⟩
    obtain ⟨c, hc1, hc2⟩ := hch
    have hs1 : strOfNums [(c.toNat : Int)] = ⟨[c].toArray⟩ := nums_bl [c]
    have happ : (⟨(95 :: t).toArray⟩ : ByteArray) ++ ⟨[c].toArray⟩ = ⟨(95 :: (t ++ [c])).toArray⟩ := by
      apply ByteArray.ext
      apply Array.ext'
      simp [ByteArray.data_append]
    obtain ⟨t2, g1, g2, g3⟩ := ih K (t ++ [c]) (by rw [List.length_append]; simp; omega) (by omega) (fun x hx => by
      rcases List.mem_append.1 hx with hx | hx
      · exact ha x hx
      · rw [List.mem_singleton.1 hx]; exact hc2)
    refine ⟨t2, ?_, g2, g3⟩
    simp only [signetrylaw03_made.l0]
    rw [bl_len, if_pos (by omega), if_pos (by omega), if_pos (by omega), hrd, htm, if_pos (by omega), if_pos (by omega), hc1]
    simp only [Option.bind_some]
    rw [hs1, if_pos (by simp [ByteArray.size]; omega), happ, show wrap64 ((t.length : Int) + 1) = ((t.length + 1 : Nat) : Int) from w64' t.length 1 (by omega)]
    rw [List.length_append, List.length_singleton] at g1
    exact g1
theorem bring_nat (a : Int) (n : Nat) (hn : 0 < n) (hm : n ≤ 4294967296) : ∃ b : Nat, signetryref00_Bring.f a (n : Int) = some (b : Int) ∧ b < n := by
  unfold signetryref00_Bring.f
  rw [if_neg (by omega)]
  have h1 := Int.tmod_lt_of_pos a (show (0 : Int) < (n : Int) by omega)
  have h2 : -(n : Int) < Int.tmod a n := by
    have := Int.tmod_lt_of_pos (-a) (show (0 : Int) < (n : Int) by omega)
    rw [Int.neg_tmod] at this
    omega
  by_cases h : Int.tmod a n < 0
  · rw [if_pos h, IntWalk.wrap64_in _ (by omega)]
    exact ⟨(Int.tmod a n + n).toNat, by congr 1; omega, by omega⟩
  · rw [if_neg h]
    exact ⟨(Int.tmod a n).toNat, by congr 1; omega, by omega⟩
theorem app_mk (a b : List UInt8) : (⟨a.toArray⟩ : ByteArray) ++ ⟨b.toArray⟩ = ⟨(a ++ b).toArray⟩ := by
  apply ByteArray.ext
  apply Array.ext'
  simp [ByteArray.data_append]
theorem pow_big (base K : Nat) (hb : 8 ≤ base) (hK : 11 ≤ K) : 8589934592 ≤ base ^ K := by
  have h1 : (8 : Nat) ^ 11 ≤ base ^ 11 := Nat.pow_le_pow_left hb 11
  have h2 : base ^ 11 ≤ base ^ K := Nat.pow_le_pow_right (by omega) hK
  have h3 : (8 : Nat) ^ 11 = 8589934592 := by decide
  omega
theorem made_good (K : Nat) (hK : 64 ≤ K) (hK2 : K ≤ 4294967296) (k n : Int) (l : List UInt8) :
    ∃ x : S28, signetrylaw03_made.f K k n (bl l) = some (x.f0, x.f1, x.f2, x.f3) ∧ x.f1 = 0 ∧ ∃ src, Good x src := by
  obtain ⟨N, hN, hN2⟩ := bring_nat n 2147483649 (by decide) (by decide)
  obtain ⟨kd, hkd, hkd2⟩ := bring_nat k 6 (by decide) (by decide)
  have hN' : signetryref00_Bring.f n 2147483649 = some (N : Int) := hN
  have hkd' : signetryref00_Bring.f k 6 = some (kd : Int) := hkd
  have hdg : ∀ base : Nat, (base = 8 ∨ base = 10 ∨ base = 16) → ∃ D : List UInt8, signetrylaw03_digits.f 11 (N : Int) (base : Int) = some ⟨D.toArray⟩ ∧ Digs base N D ∧ D.length ≤ 11 := by
    intro base hb
    exact digits_ok base hb 11 N (by decide) (by decide) (by have := pow_big base 11 (by omega) (by decide); omega) (by omega)
  have hup : ∀ (base : Int) (r : ByteArray), signetrylaw03_digits.f 11 (N : Int) base = some r → signetrylaw03_digits.f K (N : Int) base = some r := by
    intro base r h
    exact LeO.up (f := fun k => signetrylaw03_digits.f k (N : Int) base) (fun k => signetrylaw03_digits.mono _ _ _) (by omega : 11 ≤ K) h
  unfold signetrylaw03_made.f
  rw [hN', hkd']
  simp only [Option.bind_some]
  by_cases h0 : kd = 0
  · rw [if_pos (by omega)]
    obtain ⟨t2, g1, g2, g3⟩ := made_ident k n l (min l.length 31) K [] (by simp) (by omega) (by simp)
    exact ⟨⟨1, 0, ⟨(95 :: t2).toArray⟩, 0⟩, g1, rfl, _, ident_good t2 g2 g3⟩
  rw [if_neg (by omega)]
  by_cases h1 : kd = 1
  · rw [if_pos (by omega)]
    obtain ⟨D, d1, d2, d3⟩ := hdg 10 (.inr (.inl rfl))
    have d1' : signetrylaw03_digits.f K (N : Int) 10 = some ⟨D.toArray⟩ := hup _ _ d1
    rw [d1']
    simp only [Option.bind_some]
    have hnum := num_of 10 N [] D d2 (parts10 N D d2) (by omega)
    refine ⟨⟨2, 0, ⟨D.toArray⟩, (N : Int)⟩, rfl, rfl, D, ?_⟩
    cases D with
    | nil => exact absurd rfl d2.ne
    | cons c t =>
      simp only [List.length_cons] at d3
      exact num_good c t N (by omega) (dig_isDigit c (d2.all c (List.mem_cons_self ..))) (fun x hx => dig_al x (by have := d2.all x (List.mem_cons_of_mem _ hx); omega)) hnum
  rw [if_neg (by omega)]
  by_cases h2 : kd = 2
  · rw [if_pos (by omega)]
    obtain ⟨D, d1, d2, d3⟩ := hdg 8 (.inl rfl)
    have d1' : signetrylaw03_digits.f K (N : Int) 8 = some ⟨D.toArray⟩ := hup _ _ d1
    rw [d1']
    simp only [Option.bind_some]
    have hnum := num_of 8 N [48] D d2 (parts8 N D d2) (by omega)
    rw [if_pos (by simp [ByteArray.size]; omega)]
    refine ⟨⟨2, 0, (⟨#[48]⟩ : ByteArray) ++ ⟨D.toArray⟩, (N : Int)⟩, rfl, rfl, 48 :: D, ?_⟩
    rw [show (⟨#[48]⟩ : ByteArray) ++ ⟨D.toArray⟩ = ⟨(48 :: D).toArray⟩ from app_mk [48] D]
    exact num_good 48 D N (by omega) (by decide) (fun x hx => dig_al x (by have := d2.all x hx; omega)) hnum
  rw [if_neg (by omega)]
  by_cases h3 : kd = 3
  · rw [if_pos (by omega)]
    obtain ⟨D, d1, d2, d3⟩ := hdg 16 (.inr (.inr rfl))
    have d1' : signetrylaw03_digits.f K (N : Int) 16 = some ⟨D.toArray⟩ := hup _ _ d1
    rw [d1']
    simp only [Option.bind_some]
    have hnum := num_of 16 N [48, 88] D d2 (parts16 D) (by omega)
    rw [if_pos (by simp [ByteArray.size]; omega)]
    refine ⟨⟨2, 0, (⟨#[48, 88]⟩ : ByteArray) ++ ⟨D.toArray⟩, (N : Int)⟩, rfl, rfl, 48 :: 88 :: D, ?_⟩
    rw [show (⟨#[48, 88]⟩ : ByteArray) ++ ⟨D.toArray⟩ = ⟨(48 :: 88 :: D).toArray⟩ from app_mk [48, 88] D]
    exact num_good 48 (88 :: D) N (by simp; omega) (by decide) (fun x hx => by rcases List.mem_cons.1 hx with rfl | hx; decide; exact dig_al x (d2.all x hx)) hnum
  rw [if_neg (by omega)]
  by_cases h4 : kd = 4
  · rw [if_pos (by omega)]
    have hmn : mn ((bl l).length : Int) 40 = ((min l.length 40 : Nat) : Int) := by
      rw [bl_len]
      unfold mn
      split <;> omega
    rw [hmn, if_pos (by omega), if_pos (by rw [bl_len]; omega), Int.toNat_natCast]
    have : (bl l).take (min l.length 40) = bl (l.take (min l.length 40)) := by unfold bl; rw [List.map_take]
    rw [this, nums_bl]
    exact ⟨⟨3, 0, ⟨(l.take (min l.length 40)).toArray⟩, 0⟩, rfl, rfl, _, lit_good _ (by rw [List.length_take]; omega)⟩
  rw [if_neg (by omega)]
  have htm : Int.tmod (N : Int) 13 = ((N % 13 : Nat) : Int) := by
    rw [Int.tmod_eq_emod_of_nonneg (by omega)]
    rfl
  have hm : N % 13 < 13 := Nat.mod_lt _ (by decide)
  obtain ⟨m, hmm⟩ : ∃ m, m = N % 13 := ⟨_, rfl⟩
  rw [← hmm] at htm hm
  rw [htm, show wrap64 ((m : Int) + 1) = ((m + 1 : Nat) : Int) from w64' m 1 (by omega), if_pos (by omega), if_pos (by omega), if_pos (by omega), Int.toNat_natCast, Int.toNat_natCast]
  have hsg : ∀ j : Fin 13, ∃ c : UInt8, ((⟨#[123, 125, 91, 93, 40, 41, 60, 62, 61, 59, 44, 46, 45]⟩ : ByteArray).extract j.1 (j.1 + 1)) = ⟨#[c]⟩ ∧ isSign c = true := by
    have h : ∀ j : Fin 13, ((⟨#[123, 125, 91, 93, 40, 41, 60, 62, 61, 59, 44, 46, 45]⟩ : ByteArray).extract j.1 (j.1 + 1)) = ⟨#[([123, 125, 91, 93, 40, 41, 60, 62, 61, 59, 44, 46, 45] : List UInt8).getD j.1 0]⟩ ∧ isSign (([123, 125, 91, 93, 40, 41, 60, 62, 61, 59, 44, 46, 45] : List UInt8).getD j.1 0) = true := by decide
    exact fun j => ⟨_, h j⟩
  obtain ⟨c, c1, c2⟩ := hsg ⟨m, hm⟩
  simp only at c1
  rw [c1]
  exact ⟨⟨4, 0, ⟨#[c]⟩, 0⟩, rfl, rfl, [c], sign_good c c2⟩
def Goods (ws : List S28) : Prop := ∀ x ∈ ws, x.f1 = 0 ∧ ∃ src, Good x src
theorem row_loop (l0 : List S56) (hb : ∀ x ∈ l0, ∃ b, x.f2 = bl b) : ∀ (d K i : Nat) (acc : List S28), i + d = min l0.length 60 → d + 64 < K → K ≤ 1000 → acc.length = i → Goods acc →
    ∃ ws, signetrylaw03_row.l0 K l0 acc (i : Int) = some ws ∧ ws.length ≤ 60 ∧ Goods ws := by
  intro d
  induction d with
  | zero =>
    intro K i acc h hK hK2 ha hg
    obtain ⟨K, rfl⟩ : ∃ m, K = m + 1 := ⟨K - 1, by omega⟩
    refine ⟨acc, ?_, by omega, hg⟩
    simp only [signetrylaw03_row.l0]
    by_cases h1 : (i : Int) < (l0.length : Int)
    · rw [if_pos h1, if_neg (by omega)]
    · rw [if_neg h1]
  | succ d ih =>
    intro K i acc h hK hK2 ha hg
    obtain ⟨K, rfl⟩ : ∃ m, K = m + 1 := ⟨K - 1, by omega⟩
    have hi : i < l0.length := by omega
    have hrd : rd_T56 l0 (i : Int) = l0[i] := by
      unfold rd_T56
      rw [List.getD_eq_getElem?_getD, Int.toNat_natCast, List.getElem?_eq_getElem hi]
      rfl
    obtain ⟨b, hb1⟩ := hb l0[i] (List.getElem_mem hi)
    obtain ⟨x, x1, x2, x3⟩ := made_good K (by omega) (by omega) l0[i].f0 l0[i].f1 b
    obtain ⟨ws, g1, g2, g3⟩ := ih K (i + 1) (acc ++ [x]) (by omega) (by omega) (by omega) (by simp [ha]) (fun y hy => by
      rcases List.mem_append.1 hy with hy | hy
      · exact hg y hy
      · rw [List.mem_singleton.1 hy]; exact ⟨x2, x3⟩)
    refine ⟨ws, ?_, g2, g3⟩
    simp only [signetrylaw03_row.l0]
    rw [if_pos (by omega), if_pos (by omega), if_pos (by omega), hrd, hb1, x1]
    simp only [Option.bind_some]
    rw [if_pos (by omega), show wrap64 ((i : Int) + 1) = ((i + 1 : Nat) : Int) from w64' i 1 (by omega)]
    exact g1
theorem row_good (l0 : List S56) (hb : ∀ x ∈ l0, ∃ b, x.f2 = bl b) : ∃ ws, signetrylaw03_row.f 200 l0 = some ws ∧ ws.length ≤ 60 ∧ Goods ws :=
  row_loop l0 hb (min l0.length 60) 200 0 [] (by omega) (by omega) (by omega) rfl (fun x hx => by cases hx)
def Pad (p : List UInt8) : Prop := ∀ c r, isBlank c = false → c.toNat ≠ 47 → ∀ k, (p ++ c :: r).length ≤ k → skipL k (p ++ c :: r) = (c :: r, true)
inductive Row : List S28 → List UInt8 → List UInt8 → Prop where
  | nil {tail : List UInt8} : Row [] tail tail
  | cons {x : S28} {xs : List S28} {p src rest tail : List UInt8} (hp : Pad p) (hg : Good x src) (hs : Stop rest) (h : Row xs rest tail) : Row (x :: xs) (p ++ (src ++ rest)) tail
def Like (x : S28) (y : Tk) : Prop := x.f0 = (y.k : Int) ∧ x.f2 = ⟨y.t.toArray⟩ ∧ x.f3 = (y.n : Int)
def Res.app (us : List Tk) : Res → Res
  | .bad a e => .bad a e
  | .ok l => .ok (us ++ l)
theorem Row.lexed {xs : List S28} {l tail : List UInt8} (h : Row xs l tail) (n : Nat) (res : Res) (ht : Lexed n tail res) : ∃ us : List Tk, us.length = xs.length ∧ (∀ (i : Nat) (h1 : i < xs.length) (h2 : i < us.length), Like xs[i] us[i]) ∧ Lexed n l (Res.app us res) := by
  induction h with
  | nil =>
    refine ⟨[], rfl, fun i h => by simp at h, ?_⟩
    cases res <;> exact ht
  | @cons x xs p src rest tail hp hg hs hr ih =>
    obtain ⟨us, h1, h2, h3⟩ := ih ht
    obtain ⟨c, r, hc, hc1, hc2⟩ := hg.head
    obtain ⟨kd, t, v, k1, k2, k3, k4⟩ := hg.read
    have hsk : skipL (p ++ (src ++ rest)).length (p ++ (src ++ rest)) = (src ++ rest, true) := by
      rw [hc, List.cons_append]
      exact hp c (r ++ rest) hc1 hc2 _ (Nat.le_refl _)
    refine ⟨⟨kd, n - (src ++ rest).length, t, v⟩ :: us, by simp [h1], fun i i1 i2 => ?_, ?_⟩
    · cases i with
      | zero => exact ⟨k1, k2, k3⟩
      | succ i => exact h2 i (by simpa using i1) (by simpa using i2)
    · have := Lexed.word (n := n) hsk (by rw [hc]; simp) (k4 rest hs) h3
      cases res <;> exact this
theorem pad_nil : Pad [] := by
  intro c r h1 h2 k hk
  obtain ⟨k, rfl⟩ : ∃ m, k = m + 1 := ⟨k - 1, by simp at hk; omega⟩
  simp only [List.nil_append]
  unfold skipL
  rw [if_neg (by simp [h1]), if_neg (fun h => h2 h.1), if_neg (fun h => h2 h.1)]
theorem pad_blank (b : UInt8) (hb : isBlank b = true) {p : List UInt8} (h : Pad p) : Pad (b :: p) := by
  intro c r h1 h2 k hk
  obtain ⟨k, rfl⟩ : ∃ m, k = m + 1 := ⟨k - 1, by simp at hk; omega⟩
  simp only [List.cons_append]
  unfold skipL
  rw [if_pos hb]
  exact h c r h1 h2 k (by simp at hk ⊢; omega)
theorem stop_blank (b : UInt8) (hb : isBlank b = true) (z : List UInt8) : Stop (b :: z) := by
  intro c r h
  cases h
  cases ha : isAl b with
  | false => rfl
  | true =>
    have := (al_plain b ha).1
    rw [hb] at this
    cases this
end Go.Proofs.YtihidbjffclfkaaDoor.PLex
