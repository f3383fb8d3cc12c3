/- Part of the proof: what it uses of HPlc2. -/
import Derived.Test.YtihidbjffclfkaaGreatDoorBHPlc
namespace Go.Proofs.YtihidbjffclfkaaGreatDoor.Lx
theorem Res.cons_ok {x : Tk} {r : Res} {ts : List Tk} (h : r.cons x = .ok ts) : ∃ us, r = .ok us ∧ ts = x :: us := by
  cases r with
  | bad a e => simp [Res.cons] at h
  | ok l => exact ⟨l, rfl, by simpa [Res.cons] using h.symm⟩
inductive Lexed (n : Nat) : List UInt8 → Res → Prop where
  | open_ {l r : List UInt8} (h : skipL l.length l = (r, false)) : Lexed n l (.bad (n - r.length) 30)
  | end_ {l : List UInt8} (h : skipL l.length l = ([], true)) : Lexed n l (.ok [⟨0, n, [], 0⟩])
  | bad {l r : List UInt8} {e : Nat} (h : skipL l.length l = (r, true)) (hr : r ≠ []) (ht : tokL r = .bad e) : Lexed n l (.bad (n - r.length) e)
  | word {l r : List UInt8} {kd : Nat} {t : List UInt8} {v : Nat} {r2 : List UInt8} {x : Res} (h : skipL l.length l = (r, true)) (hr : r ≠ []) (ht : tokL r = .word kd t v r2) (hx : Lexed n r2 x) : Lexed n l (x.cons ⟨kd, n - r.length, t, v⟩)
theorem lexed (n : Nat) : ∀ (k : Nat) (l : List UInt8), l.length < k → Lexed n l (lexL n k l)
  | 0, _, h => by omega
  | k + 1, l, h => by
    unfold lexL
    obtain ⟨r, b, hs⟩ : ∃ r b, skipL l.length l = (r, b) := ⟨_, _, rfl⟩
    have hl := skipL_len _ _ _ _ hs
    rw [hs]
    cases b with
    | false => exact .open_ hs
    | true =>
      simp only
      split
      · rename_i hr
        subst hr
        exact .end_ hs
      · rename_i hr
        cases ht : tokL r with
        | bad e => exact .bad hs hr ht
        | word kd t v r2 =>
          have h3 := tokL_len _ _ _ _ _ ht
          exact .word hs hr ht (lexed n k r2 (by omega))
theorem lexS_lexed (l : List UInt8) : Lexed l.length l (lexS l) := lexed _ _ _ (by omega)
theorem Lexed.count {n : Nat} {l : List UInt8} {x : Res} (h : Lexed n l x) : ∀ ts, x = .ok ts → ts.length ≤ l.length + 1 := by
  induction h with
  | open_ h => intro ts h; cases h
  | end_ h => intro ts h; cases h; simp
  | bad h hr ht => intro ts h; cases h
  | word h hr ht hx ih =>
    intro ts e
    obtain ⟨us, rfl, rfl⟩ := Res.cons_ok e
    have h1 := skipL_len _ _ _ _ h
    have h2 := tokL_len _ _ _ _ _ ht
    have := ih us rfl
    simp only [List.length_cons]
    omega
end Go.Proofs.YtihidbjffclfkaaGreatDoor.Lx
