/- Part of the proof: what it uses of HSpec3. -/
import Derived.Test.YtihidbjffclfkaaGreatDoorBHPlain
namespace Go.Proofs.YtihidbjffclfkaaGreatDoor.Lx
def unq (q : UInt8) : Nat → List UInt8 → Option (List UInt8)
  | 0, _ => none
  | _ + 1, [] => none
  | k + 1, c :: r =>
    if c = q then (if r = [] then some [] else none)
    else if c.toNat < 32 then none
    else if c.toNat = 92 then
      match spell r with
      | some (bs, n) => (unq q k (r.drop n)).map (bs ++ ·)
      | none => none
    else (unq q k r).map (c :: ·)
def unquote : List UInt8 → Option (List UInt8)
  | [] => none
  | q :: r => if q.toNat = 34 ∨ q.toNat = 39 then unq q (r.length + 1) r else none
theorem spell_bounds {l : List UInt8} {bs : List UInt8} {n : Nat} (h : spell l = some (bs, n)) : bs.length ≤ 4 ∧ 1 ≤ n ∧ n ≤ l.length := by
  cases l with
  | nil => simp [spell] at h
  | cons c r =>
    simp only [spell] at h
    split at h
    · cases h
      simp
    · split at h
      · split at h
        · cases h
          have := digN_le 16 2 r
          simp
          omega
        · cases h
      · have key : ∀ want : Nat, (if digN 16 want r = want ∧ Lib.validRune (val 16 (r.take want) 0 : Nat) = true then some (Lib.encodeRune (val 16 (r.take want) 0 : Nat), want + 1) else none) = some (bs, n) → bs.length ≤ 4 ∧ 1 ≤ n ∧ n ≤ (c :: r).length := by
          intro want h
          split at h
          · rename_i hq
            cases h
            have h1 := digN_le 16 want r
            have h2 : (Lib.encodeRune (val 16 (r.take want) 0 : Nat)).length ≤ 4 := by
              have := (Lib.runeCells_le (val 16 (r.take want) 0 : Nat)).2
              rw [Lib.runeCells_length] at this
              exact this
            refine ⟨h2, by omega, ?_⟩
            rw [hq.1] at h1
            simp
            omega
          · cases h
        by_cases hu : c.toNat = 117 ∨ c.toNat = 85
        · rw [if_pos hu] at h
          exact key _ h
        · rw [if_neg hu] at h
          split at h
          · rename_i hq
            cases h
            have h1 := digN_le 8 3 (c :: r)
            simp only [List.length_cons, List.length_nil] at h1 ⊢
            omega
          · cases h
theorem unq_last (q : UInt8) : ∀ (k : Nat) (l bs : List UInt8), unq q k l = some bs → l.getLast? = some q
  | 0, _, _, h => by simp [unq] at h
  | _ + 1, [], _, h => by simp [unq] at h
  | k + 1, c :: r, bs, h => by
    simp only [unq] at h
    split at h
    · rename_i hc
      split at h
      · rename_i hr
        subst hc hr
        rfl
      · cases h
    · split at h
      · cases h
      · split at h
        · split at h
          · rename_i bs' n hs
            obtain ⟨x, hx, _⟩ := Option.map_eq_some_iff.1 h
            have ih := unq_last q k _ _ hx
            have hb := spell_bounds hs
            rw [List.getLast?_drop] at ih
            split at ih
            · cases ih
            · cases r with
              | nil => simp at ih
              | cons a b => simpa using ih
          · cases h
        · obtain ⟨x, hx, _⟩ := Option.map_eq_some_iff.1 h
          have ih := unq_last q k _ _ hx
          cases r with
          | nil => simp at ih
          | cons a b => simpa using ih
end Go.Proofs.YtihidbjffclfkaaGreatDoor.Lx
