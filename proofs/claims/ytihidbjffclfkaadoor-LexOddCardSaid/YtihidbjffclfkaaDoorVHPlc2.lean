/- Part of the proof: what it uses of HPlc2. -/
import Derived.Test.YtihidbjffclfkaaDoorVHPlc
namespace Go.Proofs.YtihidbjffclfkaaDoor.Lx
inductive Lexed (n : Nat) : List UInt8 → Res → Prop where
  | open_ {l r : List UInt8} (h : skipL l.length l = (r, false)) : Lexed n l (.bad (n - r.length) 30)
  | end_ {l : List UInt8} (h : skipL l.length l = ([], true)) : Lexed n l (.ok [⟨0, n, [], 0⟩])
  | bad {l r : List UInt8} {e : Nat} (h : skipL l.length l = (r, true)) (hr : r ≠ []) (ht : tokL r = .bad e) : Lexed n l (.bad (n - r.length) e)
  | word {l r : List UInt8} {kd : Nat} {t : List UInt8} {v : Nat} {r2 : List UInt8} {x : Res} (h : skipL l.length l = (r, true)) (hr : r ≠ []) (ht : tokL r = .word kd t v r2) (hx : Lexed n r2 x) : Lexed n l (x.cons ⟨kd, n - r.length, t, v⟩)
theorem lexed (n : Nat) : ∀ (k : Nat) (l : List UInt8), l.length < k → Lexed n l (lexL n k l)
  | 0, _, h => by omega
  | k + 1, l, h => by
    unfold lexL
    obtain ⟨r, b, hs⟩ : ∃ r b, skipL l.length l = (r, b) := ⟨_, _, rfl⟩
    have hl := skipL_len _ _ _ _ hs
    rw [hs]
    cases b with
    | false => exact .open_ hs
    | true =>
      simp only
      split
      · rename_i hr
        subst hr
        exact .end_ hs
      · rename_i hr
        cases ht : tokL r with
        | bad e => exact .bad hs hr ht
        | word kd t v r2 =>
          have h3 := tokL_len _ _ _ _ _ ht
          exact .word hs hr ht (lexed n k r2 (by omega))
theorem Lexed.eq {n : Nat} {l : List UInt8} {x : Res} (h : Lexed n l x) : ∀ k, l.length < k → lexL n k l = x := by
  induction h with
  | open_ h =>
    intro k hk
    obtain ⟨k, rfl⟩ : ∃ m, k = m + 1 := ⟨k - 1, by omega⟩
    simp only [lexL, h]
  | end_ h =>
    intro k hk
    obtain ⟨k, rfl⟩ : ∃ m, k = m + 1 := ⟨k - 1, by omega⟩
    simp only [lexL, h, if_true]
  | bad h hr ht =>
    intro k hk
    obtain ⟨k, rfl⟩ : ∃ m, k = m + 1 := ⟨k - 1, by omega⟩
    simp only [lexL, h, if_neg hr, ht]
  | word h hr ht hx ih =>
    intro k hk
    obtain ⟨k, rfl⟩ : ∃ m, k = m + 1 := ⟨k - 1, by omega⟩
    have h1 := skipL_len _ _ _ _ h
    have h2 := tokL_len _ _ _ _ _ ht
    simp only [lexL, h, if_neg hr, ht]
    rw [ih k (by omega)]
theorem Lexed.lexS {l : List UInt8} {x : Res} (h : Lexed l.length l x) : lexS l = x := h.eq _ (by omega)
theorem lexS_lexed (l : List UInt8) : Lexed l.length l (lexS l) := lexed _ _ _ (by omega)
end Go.Proofs.YtihidbjffclfkaaDoor.Lx
