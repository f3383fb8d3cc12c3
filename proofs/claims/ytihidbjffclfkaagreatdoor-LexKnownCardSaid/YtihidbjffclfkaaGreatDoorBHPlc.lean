/- Part of the proof: what it uses of HPlc. -/
import Derived.Test.YtihidbjffclfkaaGreatDoorBHTok
namespace Go.Proofs.YtihidbjffclfkaaGreatDoor.Lx
theorem lineL_suf : ∀ l : List UInt8, lineL l <:+ l
  | [] => List.suffix_refl _
  | c :: r => by
    unfold lineL
    split
    · exact List.suffix_refl _
    · exact (lineL_suf r).trans (List.suffix_cons _ _)
theorem remL_suf : ∀ (l r : List UInt8), remL l = some r → r <:+ l
  | [], _, h => by simp [remL] at h
  | c :: r, r2, h => by
    unfold remL at h
    split at h
    · cases h
      exact (List.drop_suffix _ _).trans (List.suffix_cons _ _)
    · exact (remL_suf r r2 h).trans (List.suffix_cons _ _)
theorem skipL_suf : ∀ (k : Nat) (l r : List UInt8) (b : Bool), skipL k l = (r, b) → r <:+ l
  | 0, l, r, b, h => by cases h; exact List.suffix_refl _
  | _ + 1, [], r, b, h => by cases h; exact List.suffix_refl _
  | k + 1, c :: r, r2, b, h => by
    unfold skipL at h
    split at h
    · exact (skipL_suf k _ _ _ h).trans (List.suffix_cons _ _)
    · split at h
      · exact ((skipL_suf k _ _ _ h).trans (lineL_suf r)).trans (List.suffix_cons _ _)
      · split at h
        · split at h
          · rename_i r3 hr
            exact (((skipL_suf k _ _ _ h).trans (remL_suf _ _ hr)).trans (List.drop_suffix _ _)).trans (List.suffix_cons _ _)
          · cases h
            exact List.suffix_refl _
        · cases h
          exact List.suffix_refl _
theorem litL_suf (q : UInt8) : ∀ (l r : List UInt8), litL q l = some r → r <:+ l
  | [], _, h => by simp [litL] at h
  | [c], r2, h => by
    simp only [litL] at h
    split at h
    · cases h; exact List.suffix_cons _ _
    · split at h
      · cases h
      · split at h <;> cases h
  | c :: d :: r, r2, h => by
    unfold litL at h
    split at h
    · cases h; exact List.suffix_cons _ _
    · split at h
      · cases h
      · split at h
        · simp only at h
          split at h
          · cases h
          · exact ((litL_suf q _ _ h).trans (List.suffix_cons _ _)).trans (List.suffix_cons _ _)
        · exact (litL_suf q _ _ h).trans (List.suffix_cons _ _)
theorem tokL_suf {l : List UInt8} {kd : Nat} {t : List UInt8} {v : Nat} {r : List UInt8} (h : tokL l = .word kd t v r) : r <:+ l := by
  obtain ⟨c, l2, rfl, h | h | h | h⟩ := tokL_inv h
  · obtain ⟨hc, _, rfl, _, _, rfl⟩ := h
    exact List.dropWhile_suffix _
  · obtain ⟨_, hc, _, rfl, _, rfl⟩ := h
    exact List.dropWhile_suffix _
  · obtain ⟨_, _, _, _, hr, _⟩ := h
    exact (litL_suf _ _ _ hr).trans (List.suffix_cons _ _)
  · obtain ⟨_, _, _, _, _, _, _, rfl⟩ := h
    exact List.suffix_cons _ _
end Go.Proofs.YtihidbjffclfkaaGreatDoor.Lx
