/- Part of the proof: what it uses of HTok. -/
import Derived.Test.YtihidbjffclfkaaGreatDoorBHNum0
import Derived.Test.YtihidbjffclfkaaGreatDoorBHSpec3
namespace Go.Proofs.YtihidbjffclfkaaGreatDoor.Lx
def isBlank (c : UInt8) : Bool := c.toNat == 32 || c.toNat == 9 || c.toNat == 13 || c.toNat == 10
def signsL : List Nat := [123, 125, 91, 93, 40, 41, 60, 62, 61, 59, 44, 46, 45]
def isSign (c : UInt8) : Bool := signsL.contains c.toNat
def lineL : List UInt8 → List UInt8
  | [] => []
  | c :: r => if c.toNat = 10 then c :: r else lineL r
def remL : List UInt8 → Option (List UInt8)
  | [] => none
  | c :: r => if c.toNat = 42 ∧ r.head?.map (·.toNat) = some 47 then some (r.drop 1) else remL r
def skipL : Nat → List UInt8 → List UInt8 × Bool
  | 0, l => (l, true)
  | _ + 1, [] => ([], true)
  | k + 1, c :: r =>
    if isBlank c = true then skipL k r
    else if c.toNat = 47 ∧ r.head?.map (·.toNat) = some 47 then skipL k (lineL r)
    else if c.toNat = 47 ∧ r.head?.map (·.toNat) = some 42 then
      match remL (r.drop 1) with
      | some r2 => skipL k r2
      | none => (c :: r, false)
    else (c :: r, true)
def litL (q : UInt8) : List UInt8 → Option (List UInt8)
  | [] => none
  | c :: r =>
    if c = q then some r
    else if c.toNat = 10 then none
    else if c.toNat = 92 then
      match r with
      | [] => none
      | d :: r2 => if d.toNat = 10 then none else litL q r2
    else litL q r
inductive Tok where
  | bad (e : Nat)
  | word (k : Nat) (t : List UInt8) (n : Nat) (r : List UInt8)
def tokL : List UInt8 → Tok
  | [] => .bad 30
  | c :: r =>
    if isLetter c = true then
      (if 32 < ((c :: r).takeWhile isAl).length then .bad 30 else .word 1 ((c :: r).takeWhile isAl) 0 ((c :: r).dropWhile isAl))
    else if isDigit c = true then
      match numIs ((c :: r).takeWhile isAl) with
      | .ok n => .word 2 ((c :: r).takeWhile isAl) n ((c :: r).dropWhile isAl)
      | .word => .bad 30
      | .range => .bad 9
    else if c.toNat = 34 ∨ c.toNat = 39 then
      match litL c r with
      | none => .bad 21
      | some r2 =>
        match unquote ((c :: r).take (r.length + 1 - r2.length)) with
        | none => .bad 21
        | some b => .word 3 b 0 r2
    else if isSign c = true then .word 4 [c] 0 r
    else .bad 30
structure Tk where
  k : Nat
  at_ : Nat
  t : List UInt8
  n : Nat
deriving DecidableEq
inductive Res where
  | bad (at_ e : Nat)
  | ok (l : List Tk)
deriving DecidableEq
def Res.cons (x : Tk) : Res → Res
  | .bad a e => .bad a e
  | .ok l => .ok (x :: l)
def lexL (n : Nat) : Nat → List UInt8 → Res
  | 0, _ => .bad 0 99
  | k + 1, l =>
    match skipL l.length l with
    | (r, false) => .bad (n - r.length) 30
    | (r, true) =>
      if r = [] then .ok [⟨0, n, [], 0⟩]
      else match tokL r with
        | .bad e => .bad (n - r.length) e
        | .word kd t v r2 => (lexL n k r2).cons ⟨kd, n - r.length, t, v⟩
def lexS (l : List UInt8) : Res := lexL l.length (l.length + 1) l
theorem lineL_len : ∀ l : List UInt8, (lineL l).length ≤ l.length
  | [] => Nat.le_refl _
  | c :: r => by
    have := lineL_len r
    unfold lineL
    split <;> simp <;> omega
theorem remL_len : ∀ (l r : List UInt8), remL l = some r → r.length < l.length
  | [], _, h => by simp [remL] at h
  | c :: r, r2, h => by
    unfold remL at h
    split at h
    · cases h
      simp
      omega
    · have := remL_len r r2 h
      simp
      omega
theorem skipL_len : ∀ (k : Nat) (l r : List UInt8) (b : Bool), skipL k l = (r, b) → r.length ≤ l.length
  | 0, l, r, b, h => by cases h; exact Nat.le_refl _
  | _ + 1, [], r, b, h => by cases h; exact Nat.le_refl _
  | k + 1, c :: r, r2, b, h => by
    unfold skipL at h
    split at h
    · have := skipL_len k _ _ _ h
      simp
      omega
    · split at h
      · have := skipL_len k _ _ _ h
        have := lineL_len r
        simp
        omega
      · split at h
        · split at h
          · rename_i r3 hr
            have := skipL_len k _ _ _ h
            have := remL_len _ _ hr
            simp at this ⊢
            omega
          · cases h
            exact Nat.le_refl _
        · cases h
          exact Nat.le_refl _
theorem skipL_fuel : ∀ (k k2 : Nat) (l : List UInt8), l.length ≤ k → l.length ≤ k2 → skipL k l = skipL k2 l
  | 0, 0, l, _, _ => rfl
  | 0, _ + 1, l, h, _ => by
    cases l with
    | nil => rfl
    | cons a b => simp at h
  | _ + 1, 0, l, _, h => by
    cases l with
    | nil => rfl
    | cons a b => simp at h
  | _ + 1, _ + 1, [], _, _ => rfl
  | k + 1, k2 + 1, c :: r, h, h2 => by
    simp only [List.length_cons] at h h2
    have hl := lineL_len r
    have e1 := skipL_fuel k k2 r (by omega) (by omega)
    have e2 := skipL_fuel k k2 (lineL r) (by omega) (by omega)
    unfold skipL
    rw [e1, e2]
    cases hr : remL (r.drop 1) with
    | none => rfl
    | some r2 =>
      have h3 := remL_len _ _ hr
      simp only [List.length_drop] at h3
      have e3 := skipL_fuel k k2 r2 (by omega) (by omega)
      simp only [e3]
theorem litL_len (q : UInt8) : ∀ (l r : List UInt8), litL q l = some r → r.length < l.length
  | [], _, h => by simp [litL] at h
  | [c], r2, h => by
    simp only [litL] at h
    split at h
    · cases h; simp
    · split at h
      · cases h
      · split at h <;> cases h
  | c :: d :: r, r2, h => by
    unfold litL at h
    split at h
    · cases h; simp
    · split at h
      · cases h
      · split at h
        · simp only at h
          split at h
          · cases h
          · have := litL_len q _ _ h
            simp only [List.length_cons] at this ⊢
            omega
        · have := litL_len q _ _ h
          simp only [List.length_cons] at this ⊢
          omega
theorem tokL_inv {l : List UInt8} {kd : Nat} {t : List UInt8} {v : Nat} {r : List UInt8} (h : tokL l = .word kd t v r) :
    ∃ c l2, l = c :: l2 ∧
      ((isLetter c = true ∧ kd = 1 ∧ t = l.takeWhile isAl ∧ t.length ≤ 32 ∧ v = 0 ∧ r = l.dropWhile isAl) ∨
       (isLetter c = false ∧ isDigit c = true ∧ kd = 2 ∧ t = l.takeWhile isAl ∧ numIs t = .ok v ∧ r = l.dropWhile isAl) ∨
       (isLetter c = false ∧ isDigit c = false ∧ (c.toNat = 34 ∨ c.toNat = 39) ∧ kd = 3 ∧ litL c l2 = some r ∧ unquote (l.take (l.length - r.length)) = some t ∧ v = 0) ∨
       (isLetter c = false ∧ isDigit c = false ∧ ¬ (c.toNat = 34 ∨ c.toNat = 39) ∧ isSign c = true ∧ kd = 4 ∧ t = [c] ∧ v = 0 ∧ r = l2)) := by
  cases l with
  | nil => simp [tokL] at h
  | cons c l =>
    refine ⟨c, l, rfl, ?_⟩
    simp only [tokL] at h
    by_cases h1 : isLetter c = true
    · rw [if_pos h1] at h
      split at h
      · simp at h
      · injection h with e1 e2 e3 e4
        exact .inl ⟨h1, e1.symm, e2.symm, by rw [← e2]; omega, e3.symm, e4.symm⟩
    · rw [if_neg h1] at h
      replace h1 : isLetter c = false := by simpa using h1
      by_cases h2 : isDigit c = true
      · rw [if_pos h2] at h
        split at h
        · rename_i n hn
          injection h with e1 e2 e3 e4
          exact .inr (.inl ⟨h1, h2, e1.symm, e2.symm, by rw [← e2, ← e3]; exact hn, e4.symm⟩)
        · simp at h
        · simp at h
      · rw [if_neg h2] at h
        replace h2 : isDigit c = false := by simpa using h2
        by_cases h3 : c.toNat = 34 ∨ c.toNat = 39
        · rw [if_pos h3] at h
          split at h
          · simp at h
          · rename_i r2 hr
            split at h
            · simp at h
            · rename_i b hb
              injection h with e1 e2 e3 e4
              subst e4 e2
              exact .inr (.inr (.inl ⟨h1, h2, h3, e1.symm, hr, by simpa using hb, e3.symm⟩))
        · rw [if_neg h3] at h
          split at h
          · rename_i h4
            injection h with e1 e2 e3 e4
            exact .inr (.inr (.inr ⟨h1, h2, h3, h4, e1.symm, e2.symm, e3.symm, e4.symm⟩))
          · simp at h
theorem al_of {c : UInt8} (h : isLetter c = true ∨ isDigit c = true) : isAl c = true := by unfold isAl; rcases h with h | h <;> simp [h]
theorem tw_dw (l : List UInt8) : l = l.takeWhile isAl ++ l.dropWhile isAl := (List.takeWhile_append_dropWhile).symm
theorem tokL_len (l : List UInt8) (kd : Nat) (t : List UInt8) (v : Nat) (r : List UInt8) (h : tokL l = .word kd t v r) : r.length < l.length := by
  obtain ⟨c, l2, rfl, h | h | h | h⟩ := tokL_inv h
  · obtain ⟨hc, _, rfl, _, _, rfl⟩ := h
    have := congrArg List.length (tw_dw (c :: l2))
    rw [List.takeWhile_cons_of_pos (al_of (.inl hc))] at this
    simp only [List.length_append, List.length_cons] at this ⊢
    omega
  · obtain ⟨_, hc, _, rfl, _, rfl⟩ := h
    have := congrArg List.length (tw_dw (c :: l2))
    rw [List.takeWhile_cons_of_pos (al_of (.inr hc))] at this
    simp only [List.length_append, List.length_cons] at this ⊢
    omega
  · obtain ⟨_, _, _, _, hr, _⟩ := h
    have := litL_len _ _ _ hr
    simp
    omega
  · obtain ⟨_, _, _, _, _, _, _, rfl⟩ := h
    simp
end Go.Proofs.YtihidbjffclfkaaGreatDoor.Lx
