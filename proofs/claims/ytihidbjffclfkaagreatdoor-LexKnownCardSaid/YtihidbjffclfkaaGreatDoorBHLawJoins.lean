/- Part of the proof: what it uses of HLawJoins. -/
import Derived.Test.YtihidbjffclfkaaGreatDoorBHPQuote
namespace Go.Proofs.YtihidbjffclfkaaGreatDoor.PLex
open Go.RowKit Go.Maps Go.Proofs.YtihidbjffclfkaaGreatDoorW.PrintWords Go.Proofs.YtihidbjffclfkaaGreatDoorW.PrintLast Go.Proofs.YtihidbjffclfkaaGreatDoorW.PrintMore Go.Proofs.YtihidbjffclfkaaGreatDoor.Lx
set_option linter.unusedVariables false
set_option linter.unusedSimpArgs false
theorem rput_eq (s t : ByteArray) (h : s.size + t.size ≤ 1099511627776) : rput s t = some ⟨((if t.data.toList ≠ [] ∧ s.data.toList ≠ [] then s.data.toList ++ [32] else s.data.toList) ++ t.data.toList).toArray⟩ := by
  unfold rput
  rw [if_pos h]
  congr 1
  have ht : 0 < t.size ↔ t.data.toList ≠ [] := by rw [Lib.size_eq]; exact List.length_pos_iff
  have hs : 0 < s.size ↔ s.data.toList ≠ [] := by rw [Lib.size_eq]; exact List.length_pos_iff
  by_cases hc : t.data.toList ≠ [] ∧ s.data.toList ≠ []
  · rw [if_pos hc, if_pos ⟨ht.2 hc.1, hs.2 hc.2⟩]
    apply ByteArray.ext
    apply Array.ext'
    simp
  · rw [if_neg hc, if_neg (fun h => hc ⟨ht.1 h.1, hs.1 h.2⟩)]
    apply ByteArray.ext
    apply Array.ext'
    simp
def sizeOK (x : S33) : Prop := x.f2.size ≤ 1000000
theorem wordB_some {x : S33} {b : ByteArray} (h : wordB x = some b) : b.data.toList ≠ [] := by
  unfold wordB at h
  split at h
  · injection h with h
    subst h
    simp [quoteL]
  · split at h
    · cases h
    · rename_i hz
      injection h with h
      subst h
      intro hn
      have := Lib.size_eq x.f2
      rw [hn] at this
      exact hz this
def behind (s : List UInt8) (ps : List (List UInt8)) : List UInt8 := s ++ Lib.joinTail [32] ps
theorem quoteL_len (l : List UInt8) : (quoteL l).length ≤ 4 * l.length + 2 := by
  have h : ∀ l : List UInt8, (l.flatMap qOne).length ≤ 4 * l.length := by
    intro l
    induction l with
    | nil => simp
    | cons a l ih =>
      rw [List.flatMap_cons, List.length_append, List.length_cons]
      have := quote_one_len a
      omega
  have h1 := h l
  unfold quoteL
  rw [List.length_cons, List.length_append, List.length_singleton]
  omega
theorem rword_eq (x : S33) (hx : sizeOK x) : ∃ t, rword x = some t ∧ t.size ≤ 4000002 ∧ ((wordB x = none ∧ t.data.toList = []) ∨ wordB x = some t) := by
  unfold rword wordB
  unfold sizeOK at hx
  have hs : x.f2.data.toList.length = x.f2.size := (Lib.size_eq x.f2).symm
  by_cases h3 : x.f0 = 3
  · rw [if_pos h3, if_pos h3, rquote_eq _ (by omega)]
    refine ⟨_, rfl, ?_, Or.inr rfl⟩
    have := quoteL_len x.f2.data.toList
    show (quoteL x.f2.data.toList).toArray.size ≤ _
    simp
    omega
  · rw [if_neg h3, if_neg h3]
    refine ⟨_, rfl, by omega, ?_⟩
    by_cases h0 : x.f2.size = 0
    · rw [if_pos h0]
      exact Or.inl ⟨rfl, List.length_eq_zero_iff.1 (by omega)⟩
    · rw [if_neg h0]
      exact Or.inr rfl
theorem rjoin_eq : ∀ (l : List S33) (s : ByteArray), (∀ x ∈ l, sizeOK x) → s.size + l.length * 4000003 ≤ 1099511627776 →
    rjoin l s = some ⟨(if s.data.toList = [] then Lib.join ((joinL l).map (·.data.toList)) [32] else behind s.data.toList ((joinL l).map (·.data.toList))).toArray⟩
  | [], s, _, _ => by
    unfold rjoin
    by_cases h : s.data.toList = []
    · rw [if_pos h]
      congr 1
      apply ByteArray.ext
      apply Array.ext'
      rw [h]
      rfl
    · rw [if_neg h]
      congr 1
      apply ByteArray.ext
      apply Array.ext'
      simp [behind, joinL, Lib.joinTail]
  | x :: l, s, hx, hsz => by
    obtain ⟨t, ht, hts, hw⟩ := rword_eq x (hx x (by simp))
    have hl : (x :: l).length = l.length + 1 := rfl
    rw [hl] at hsz
    unfold rjoin
    rw [ht, Option.bind_some, rput_eq s t (by omega), Option.bind_some]
    have ih := rjoin_eq l ⟨((if t.data.toList ≠ [] ∧ s.data.toList ≠ [] then s.data.toList ++ [32] else s.data.toList) ++ t.data.toList).toArray⟩ (fun y hy => hx y (by simp [hy])) (by
      have h1 : (if t.data.toList ≠ [] ∧ s.data.toList ≠ [] then s.data.toList ++ [32] else s.data.toList).length ≤ s.size + 1 := by
        rw [Lib.size_eq]
        split
        · simp
        · omega
      have h2 : t.data.toList.length = t.size := (Lib.size_eq t).symm
      show (((if t.data.toList ≠ [] ∧ s.data.toList ≠ [] then s.data.toList ++ [32] else s.data.toList) ++ t.data.toList).toArray).size + _ ≤ _
      rw [List.size_toArray, List.length_append]
      omega)
    rw [ih]
    congr 1
    congr 1
    congr 1
    simp only []
    rcases hw with ⟨hn, ht0⟩ | hsome
    · have hj : joinL (x :: l) = joinL l := by unfold joinL; rw [List.filterMap_cons_none hn]
      rw [hj, ht0]
      simp
    · have hj : joinL (x :: l) = t :: joinL l := by unfold joinL; rw [List.filterMap_cons_some hsome]
      have ht0 := wordB_some hsome
      rw [hj]
      by_cases hs0 : s.data.toList = []
      · rw [hs0]
        simp [ht0, behind, Lib.join_cons]
      · simp [ht0, hs0, behind, Lib.joinTail]
theorem joins_len : ∀ (l : List S33), (∀ x ∈ l, x.f2.size ≤ 40) → l.length ≤ 1000 → (Lib.join ((joinL l).map (·.data.toList)) [32]).length ≤ 1000000 := by
  intro l hl hn
  have key : ∀ l : List S33, (∀ x ∈ l, x.f2.size ≤ 40) → (Lib.joinTail [32] ((joinL l).map (·.data.toList))).length ≤ 200 * l.length := by
    intro l
    induction l with
    | nil => intro _; simp [joinL, Lib.joinTail]
    | cons x l ih =>
      intro h
      have ih := ih (fun y hy => h y (by simp [hy]))
      have hx := h x (by simp)
      rw [List.length_cons]
      cases hw : wordB x with
      | none =>
        have hj : joinL (x :: l) = joinL l := by unfold joinL; rw [List.filterMap_cons_none hw]
        rw [hj]
        omega
      | some t =>
        have hj : joinL (x :: l) = t :: joinL l := by unfold joinL; rw [List.filterMap_cons_some hw]
        have ht : t.data.toList.length ≤ 162 := by
          have hs : x.f2.data.toList.length = x.f2.size := (Lib.size_eq x.f2).symm
          unfold wordB at hw
          split at hw
          · injection hw with hw
            subst hw
            have := quoteL_len x.f2.data.toList
            show (quoteL x.f2.data.toList).toArray.toList.length ≤ _
            rw [List.toList_toArray]
            omega
          · split at hw
            · cases hw
            · injection hw with hw
              subst hw
              omega
        rw [hj]
        unfold Lib.joinTail at ih ⊢
        rw [List.map_cons, List.map_cons, List.flatten_cons, List.length_append, List.length_append, List.length_singleton]
        omega
  have h2 := key l hl
  cases hm : (joinL l).map (·.data.toList) with
  | nil => rw [Lib.join_nil]; simp
  | cons a r =>
    rw [hm] at h2
    rw [Lib.join_cons]
    unfold Lib.joinTail at h2 ⊢
    rw [List.map_cons, List.flatten_cons, List.length_append, List.length_append, List.length_singleton] at h2
    rw [List.length_append]
    omega
theorem all_small (l : List S33) (hl : ∀ x ∈ l, x.f2.size ≤ 40) : (l.all fun x => decide (x.f2.size ≤ 1099511627776)) = true := by
  rw [List.all_eq_true]
  intro x hx
  have := hl x hx
  exact decide_eq_true (by omega)
theorem join_f (l : List S33) (hl : ∀ x ∈ l, x.f2.size ≤ 40) (hn : l.length ≤ 1000) : lex_Join.f l = some ⟨(Lib.join ((joinL l).map (·.data.toList)) [32]).toArray⟩ := by
  unfold lex_Join.f
  have h1 := joins_len l hl hn
  exact if_pos ⟨by omega, all_small l hl, by omega⟩
theorem rjoin_f (l : List S33) (hl : ∀ x ∈ l, x.f2.size ≤ 40) (hn : l.length ≤ 1000) : signetryref03_Join.f l = some ⟨(Lib.join ((joinL l).map (·.data.toList)) [32]).toArray⟩ := by
  unfold signetryref03_Join.f
  have h := rjoin_eq l ⟨#[]⟩ (fun x hx => by have := hl x hx; unfold sizeOK; omega) (by have : (⟨#[]⟩ : ByteArray).size = 0 := rfl; omega)
  rw [if_pos (And.intro (show l.length ≤ 1048576 by omega) (all_small l hl)), h]
  exact congrArg (fun x : List UInt8 => some (⟨x.toArray⟩ : ByteArray)) (if_pos rfl)
theorem same_loop (l : List S33) (hl : l.length ≤ 1000000000) : ∀ (n i k : Nat), i + n = l.length → n + 1 ≤ k → signetryref03_Same.l0 k l l (i : Int) = some true
  | 0, i, k, hi, hk => by
    obtain ⟨k, rfl⟩ : ∃ k', k = k' + 1 := ⟨k - 1, by omega⟩
    simp only [signetryref03_Same.l0]
    rw [if_neg (by omega)]
  | n + 1, i, k, hi, hk => by
    obtain ⟨k, rfl⟩ : ∃ k', k = k' + 1 := ⟨k - 1, by omega⟩
    simp only [signetryref03_Same.l0]
    rw [if_pos (by omega), if_pos (by omega), if_pos (by omega), if_neg (by simp)]
    have hw : wrap64 ((i : Int) + 1) = ((i + 1 : Nat) : Int) := by rw [IntWalk.wrap64_in _ (by omega)]; rfl
    rw [hw]
    exact same_loop l hl n (i + 1) k (by omega) (by omega)
theorem same_f (l : List S33) (hl : l.length ≤ 1000000000) (k : Nat) (hk : l.length + 1 ≤ k) : signetryref03_Same.f k l l = some true := by
  unfold signetryref03_Same.f
  rw [if_pos rfl]
  exact same_loop l hl l.length 0 k (by omega) hk
end Go.Proofs.YtihidbjffclfkaaGreatDoor.PLex
