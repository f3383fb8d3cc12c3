/- Part of the proof: what it uses of HPlc. -/
import Derived.Test.YtihidbjffclfkaaDoorPHTok
namespace Go.Proofs.YtihidbjffclfkaaDoor.Lx
theorem lineL_suf : ∀ l : List UInt8, lineL l <:+ l
  | [] => List.suffix_refl _
  | c :: r => by
    unfold lineL
    split
    · exact List.suffix_refl _
    · exact (lineL_suf r).trans (List.suffix_cons _ _)
theorem remL_suf : ∀ (l r : List UInt8), remL l = some r → r <:+ l
  | [], _, h => by simp [remL] at h
  | c :: r, r2, h => by
    unfold remL at h
    split at h
    · cases h
      exact (List.drop_suffix _ _).trans (List.suffix_cons _ _)
    · exact (remL_suf r r2 h).trans (List.suffix_cons _ _)
theorem skipL_suf : ∀ (k : Nat) (l r : List UInt8) (b : Bool), skipL k l = (r, b) → r <:+ l
  | 0, l, r, b, h => by cases h; exact List.suffix_refl _
  | _ + 1, [], r, b, h => by cases h; exact List.suffix_refl _
  | k + 1, c :: r, r2, b, h => by
    unfold skipL at h
    split at h
    · exact (skipL_suf k _ _ _ h).trans (List.suffix_cons _ _)
    · split at h
      · exact ((skipL_suf k _ _ _ h).trans (lineL_suf r)).trans (List.suffix_cons _ _)
      · split at h
        · split at h
          · rename_i r3 hr
            exact (((skipL_suf k _ _ _ h).trans (remL_suf _ _ hr)).trans (List.drop_suffix _ _)).trans (List.suffix_cons _ _)
          · cases h
            exact List.suffix_refl _
        · cases h
          exact List.suffix_refl _
theorem litL_suf (q : UInt8) : ∀ (l r : List UInt8), litL q l = some r → r <:+ l
  | [], _, h => by simp [litL] at h
  | [c], r2, h => by
    simp only [litL] at h
    split at h
    · cases h; exact List.suffix_cons _ _
    · split at h
      · cases h
      · split at h <;> cases h
  | c :: d :: r, r2, h => by
    unfold litL at h
    split at h
    · cases h; exact List.suffix_cons _ _
    · split at h
      · cases h
      · split at h
        · simp only at h
          split at h
          · cases h
          · exact ((litL_suf q _ _ h).trans (List.suffix_cons _ _)).trans (List.suffix_cons _ _)
        · exact (litL_suf q _ _ h).trans (List.suffix_cons _ _)
theorem tokL_suf {l : List UInt8} {kd : Nat} {t : List UInt8} {v : Nat} {r : List UInt8} (h : tokL l = .word kd t v r) : r <:+ l := by
  obtain ⟨c, l2, rfl, h | h | h | h⟩ := tokL_inv h
  · obtain ⟨hc, _, rfl, _, _, rfl⟩ := h
    exact List.dropWhile_suffix _
  · obtain ⟨_, hc, _, rfl, _, rfl⟩ := h
    exact List.dropWhile_suffix _
  · obtain ⟨_, _, _, _, hr, _⟩ := h
    exact (litL_suf _ _ _ hr).trans (List.suffix_cons _ _)
  · obtain ⟨_, _, _, _, _, _, _, rfl⟩ := h
    exact List.suffix_cons _ _
theorem suf_len {a z r : List UInt8} (h : r <:+ z) (e : a ++ z = r) : a = [] := by
  have := h.length_le
  rw [← e, List.length_append] at this
  exact List.length_eq_zero_iff.1 (by omega)
theorem remL_cut : ∀ (a b z : List UInt8), remL (a ++ z) = some (b ++ z) → remL a = some b
  | [], b, z, h => by
    have := remL_len _ _ h
    simp at this
    omega
  | [c], b, z, h => by
    simp only [List.cons_append, List.nil_append] at h
    have h2 := h
    unfold remL at h
    split at h
    · rename_i hc
      injection h with h
      have := congrArg List.length h
      cases z with
      | nil => simp at hc
      | cons d z => simp at this; omega
    · have := remL_len _ _ h
      simp at this
      omega
  | c :: d :: a, b, z, h => by
    simp only [List.cons_append] at h
    unfold remL at h ⊢
    simp only [List.head?_cons, List.drop_one, List.tail_cons] at h ⊢
    split at h
    · rename_i hc
      rw [if_pos hc]
      injection h with h
      rw [List.append_cancel_right h]
    · rename_i hc
      rw [if_neg hc]
      exact remL_cut (d :: a) b z h
theorem lineL_cut : ∀ (a z : List UInt8), lineL (a ++ z) = lineL a ++ z ∨ (lineL a = [] ∧ lineL (a ++ z) = lineL z)
  | [], z => .inr ⟨rfl, rfl⟩
  | c :: a, z => by
    simp only [List.cons_append, lineL]
    by_cases hc : c.toNat = 10
    · rw [if_pos hc, if_pos hc]
      exact .inl rfl
    · rw [if_neg hc, if_neg hc]
      exact lineL_cut a z
theorem skipL_cut : ∀ (k : Nat) (a b z : List UInt8), skipL k (a ++ z) = (b ++ z, true) → skipL k a = (b, true)
  | 0, a, b, z, h => by
    injection h with h _
    rw [List.append_cancel_right h]
    rfl
  | k + 1, [], b, z, h => by
    have := suf_len (skipL_suf _ _ _ _ h) rfl
    subst this
    rfl
  | k + 1, [c], b, z, h => by
    simp only [List.cons_append, List.nil_append] at h
    unfold skipL at h ⊢
    by_cases hb : isBlank c = true
    · rw [if_pos hb] at h ⊢
      exact skipL_cut k [] b z h
    · rw [if_neg hb] at h ⊢
      rw [if_neg (by simp), if_neg (by simp)]
      split at h
      · rename_i hc
        cases z with
        | nil => simp at hc
        | cons d z =>
          exfalso
          have hd : d.toNat = 47 := by simpa using hc.2
          have e : lineL (d :: z) = lineL z := by simp only [lineL]; rw [if_neg (by omega)]
          rw [e] at h
          have h1 := skipL_len _ _ _ _ h
          have h2 := lineL_len z
          simp at h1
          omega
      · split at h
        · rename_i hc
          cases z with
          | nil => simp at hc
          | cons d z =>
            exfalso
            split at h
            · rename_i r2 hr
              have h1 := skipL_len _ _ _ _ h
              have h2 := remL_len _ _ hr
              simp at h1 h2
              omega
            · injection h with _ h
              cases h
        · injection h with h _
          have : [c] ++ z = b ++ z := h
          rw [List.append_cancel_right this]
  | k + 1, c :: d :: a, b, z, h => by
    simp only [List.cons_append] at h
    unfold skipL at h ⊢
    simp only [List.head?_cons, List.drop_one, List.tail_cons] at h ⊢
    split at h
    · rename_i hb
      rw [if_pos hb]
      exact skipL_cut k (d :: a) b z h
    · rename_i hb
      rw [if_neg hb]
      split at h
      · rename_i hc
        rw [if_pos hc]
        rcases lineL_cut (d :: a) z with e | ⟨e1, e2⟩
        · rw [← List.cons_append, e] at h
          exact skipL_cut k _ b z h
        · rw [← List.cons_append, e2] at h
          have := suf_len ((skipL_suf _ _ _ _ h).trans (lineL_suf z)) rfl
          subst this
          rw [e1]
          cases k <;> rfl
      · rename_i hc
        rw [if_neg hc]
        split at h
        · rename_i hc2
          rw [if_pos hc2]
          split at h
          · rename_i r2 hr
            obtain ⟨r3, rfl⟩ := (List.suffix_append b z).trans (skipL_suf _ _ _ _ h)
            rw [remL_cut _ _ _ hr]
            exact skipL_cut k r3 b z h
          · injection h with _ h
            cases h
        · rename_i hc2
          rw [if_neg hc2]
          injection h with h _
          have : (c :: d :: a) ++ z = b ++ z := h
          rw [← List.append_cancel_right this]
theorem while_cut (p : UInt8 → Bool) : ∀ (a b z : List UInt8), (a ++ z).dropWhile p = b ++ z → a.dropWhile p = b ∧ a.takeWhile p = (a ++ z).takeWhile p
  | [], b, z, h => by
    have := suf_len (r := b ++ z) (z := z) (a := b) (by rw [← h]; exact List.dropWhile_suffix p) rfl
    subst this
    refine ⟨rfl, ?_⟩
    simp only [List.nil_append] at h ⊢
    cases z with
    | nil => rfl
    | cons d z =>
      by_cases hp : p d = true
      · rw [List.dropWhile_cons_of_pos hp] at h
        have := (List.dropWhile_suffix p (l := z)).length_le
        rw [h] at this
        simp at this
        omega
      · rw [List.takeWhile_cons_of_neg hp]
        rfl
  | c :: a, b, z, h => by
    simp only [List.cons_append] at h ⊢
    by_cases hp : p c = true
    · rw [List.dropWhile_cons_of_pos hp] at h ⊢
      rw [List.takeWhile_cons_of_pos hp, List.takeWhile_cons_of_pos hp]
      have := while_cut p a b z h
      exact ⟨this.1, by rw [this.2]⟩
    · rw [List.dropWhile_cons_of_neg hp] at h ⊢
      rw [List.takeWhile_cons_of_neg hp, List.takeWhile_cons_of_neg hp]
      have : (c :: a) ++ z = b ++ z := h
      exact ⟨List.append_cancel_right this, rfl⟩
theorem litL_cut (q : UInt8) : ∀ (a b z : List UInt8), litL q (a ++ z) = some (b ++ z) → litL q a = some b
  | [], b, z, h => by
    have := litL_len _ _ _ h
    simp at this
    omega
  | [c], b, z, h => by
    have hl := litL_len _ _ _ h
    simp only [List.cons_append, List.nil_append] at h
    unfold litL at h
    split at h
    · rename_i hc
      injection h with h
      have : [] ++ z = b ++ z := h
      rw [← List.append_cancel_right this]
      simp [litL, hc]
    · exfalso
      split at h
      · cases h
      · split at h
        · split at h
          · cases h
          · split at h
            · cases h
            · have := litL_len _ _ _ h
              simp at this
              omega
        · have := litL_len _ _ _ h
          simp at this
          omega
  | c :: d :: a, b, z, h => by
    simp only [List.cons_append] at h
    unfold litL at h ⊢
    split at h
    · rename_i hc
      rw [if_pos hc]
      injection h with h
      have : (d :: a) ++ z = b ++ z := h
      rw [List.append_cancel_right this]
    · rename_i hc
      rw [if_neg hc]
      split at h
      · cases h
      · rename_i hc2
        rw [if_neg hc2]
        split at h
        · rename_i hc3
          rw [if_pos hc3]
          simp only at h ⊢
          split at h
          · cases h
          · rename_i hc4
            rw [if_neg hc4]
            exact litL_cut q a b z h
        · rename_i hc3
          rw [if_neg hc3]
          exact litL_cut q (d :: a) b z h
theorem tokL_cut (a b z : List UInt8) (kd : Nat) (t : List UInt8) (v : Nat) (h : tokL (a ++ z) = .word kd t v (b ++ z)) : tokL a = .word kd t v b := by
  have hl := tokL_len _ _ _ _ _ h
  cases a with
  | nil => simp at hl; omega
  | cons c a =>
    obtain ⟨c2, l2, e, h⟩ := tokL_inv h
    simp only [List.cons_append, List.cons.injEq] at e
    obtain ⟨rfl, rfl⟩ := e
    simp only [List.cons_append] at h
    rcases h with h | h | h | h
    · obtain ⟨h1, rfl, rfl, h2, rfl, h3⟩ := h
      have := while_cut isAl (c :: a) b z h3.symm
      rw [← List.cons_append, ← this.2] at h2 ⊢
      simp only [tokL]
      rw [if_pos h1, if_neg (by omega), this.1]
    · obtain ⟨h0, h1, rfl, rfl, h2, h3⟩ := h
      have := while_cut isAl (c :: a) b z h3.symm
      rw [← List.cons_append, ← this.2] at h2 ⊢
      simp only [tokL]
      rw [if_neg (by simp [h0]), if_pos h1, h2, this.1]
    · obtain ⟨h0, h1, h2, rfl, h3, h4, rfl⟩ := h
      have h5 := litL_cut _ _ _ _ h3
      have h6 := litL_len _ _ _ h5
      have e : (c :: (a ++ z)).take ((c :: (a ++ z)).length - (b ++ z).length) = (c :: a).take (a.length + 1 - b.length) := by
        rw [← List.cons_append, List.take_append_of_le_length (by simp; omega)]
        congr 1
        simp
        omega
      rw [e] at h4
      simp only [tokL]
      rw [if_neg (by simp [h0]), if_neg (by simp [h1]), if_pos h2, h5]
      simp only [h4]
    · obtain ⟨h0, h1, h2, h3, rfl, rfl, rfl, h4⟩ := h
      rw [List.append_cancel_right h4]
      simp only [tokL]
      rw [if_neg (by simp [h0]), if_neg (by simp [h1]), if_neg h2, if_pos h3]
end Go.Proofs.YtihidbjffclfkaaDoor.Lx
