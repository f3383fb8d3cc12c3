/- Part of the proof: what it uses of HLawJoins. -/
import Derived.Test.YtihidbjffclfkaaDoorVHJoin
import Derived.Test.YtihidbjffclfkaaDoorVPLexL
namespace Go.Proofs.YtihidbjffclfkaaDoor.PLex
open Go.RowKit Go.Maps Go.Proofs.YtihidbjffclfkaaDoorW.PrintWords Go.Proofs.YtihidbjffclfkaaDoorW.PrintLast Go.Proofs.YtihidbjffclfkaaDoorW.PrintMore Go.Proofs.YtihidbjffclfkaaDoor.Lx
set_option linter.unusedVariables false
set_option linter.unusedSimpArgs false
theorem LeO.up {α : Type} {f : Nat → Option α} (h : ∀ k, LeO (f k) (f (k + 1))) {k k' : Nat} (hk : k ≤ k') {r : α} (hr : f k = some r) : f k' = some r := by
  induction hk with
  | refl => exact hr
  | step _ ih => exact h _ _ ih
theorem quoteL_len (l : List UInt8) : (quoteL l).length ≤ 4 * l.length + 2 := by
  have h : ∀ l : List UInt8, (l.flatMap qOne).length ≤ 4 * l.length := by
    intro l
    induction l with
    | nil => simp
    | cons a l ih =>
      rw [List.flatMap_cons, List.length_append, List.length_cons]
      have := quote_one_len a
      omega
  have h1 := h l
  unfold quoteL
  rw [List.length_cons, List.length_append, List.length_singleton]
  omega
theorem joins_len : ∀ (l : List S28), (∀ x ∈ l, x.f2.size ≤ 40) → l.length ≤ 1000 → (Lib.join ((joinL l).map (·.data.toList)) [32]).length ≤ 1000000 := by
  intro l hl hn
  have key : ∀ l : List S28, (∀ x ∈ l, x.f2.size ≤ 40) → (Lib.joinTail [32] ((joinL l).map (·.data.toList))).length ≤ 200 * l.length := by
    intro l
    induction l with
    | nil => intro _; simp [joinL, Lib.joinTail]
    | cons x l ih =>
      intro h
      have ih := ih (fun y hy => h y (by simp [hy]))
      have hx := h x (by simp)
      rw [List.length_cons]
      cases hw : wordB x with
      | none =>
        have hj : joinL (x :: l) = joinL l := by unfold joinL; rw [List.filterMap_cons_none hw]
        rw [hj]
        omega
      | some t =>
        have hj : joinL (x :: l) = t :: joinL l := by unfold joinL; rw [List.filterMap_cons_some hw]
        have ht : t.data.toList.length ≤ 162 := by
          have hs : x.f2.data.toList.length = x.f2.size := (Lib.size_eq x.f2).symm
          unfold wordB at hw
          split at hw
          · injection hw with hw
            subst hw
            have := quoteL_len x.f2.data.toList
            show (quoteL x.f2.data.toList).toArray.toList.length ≤ _
            rw [List.toList_toArray]
            omega
          · split at hw
            · cases hw
            · injection hw with hw
              subst hw
              omega
        rw [hj]
        unfold Lib.joinTail at ih ⊢
        rw [List.map_cons, List.map_cons, List.flatten_cons, List.length_append, List.length_append, List.length_singleton]
        omega
  have h2 := key l hl
  cases hm : (joinL l).map (·.data.toList) with
  | nil => rw [Lib.join_nil]; simp
  | cons a r =>
    rw [hm] at h2
    rw [Lib.join_cons]
    unfold Lib.joinTail at h2 ⊢
    rw [List.map_cons, List.flatten_cons, List.length_append, List.length_append, List.length_singleton] at h2
    rw [List.length_append]
    omega
theorem all_small (l : List S28) (hl : ∀ x ∈ l, x.f2.size ≤ 40) : (l.all fun x => decide (x.f2.size ≤ 1099511627776)) = true := by
  rw [List.all_eq_true]
  intro x hx
  have := hl x hx
  exact decide_eq_true (by omega)
theorem join_f (l : List S28) (hl : ∀ x ∈ l, x.f2.size ≤ 40) (hn : l.length ≤ 1000) : lex_Join.f l = some ⟨(Lib.join ((joinL l).map (·.data.toList)) [32]).toArray⟩ := by
  unfold lex_Join.f
  have h1 := joins_len l hl hn
  exact if_pos ⟨by omega, all_small l hl, by omega⟩
end Go.Proofs.YtihidbjffclfkaaDoor.PLex
