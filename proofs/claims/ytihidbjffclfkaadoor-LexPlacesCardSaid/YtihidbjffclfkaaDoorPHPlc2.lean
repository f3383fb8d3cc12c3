/- Part of the proof: what it uses of HPlc2. -/
import Derived.Test.YtihidbjffclfkaaDoorPHPlc
namespace Go.Proofs.YtihidbjffclfkaaDoor.Lx
theorem Res.cons_ok {x : Tk} {r : Res} {ts : List Tk} (h : r.cons x = .ok ts) : ∃ us, r = .ok us ∧ ts = x :: us := by
  cases r with
  | bad a e => simp [Res.cons] at h
  | ok l => exact ⟨l, rfl, by simpa [Res.cons] using h.symm⟩
theorem Res.cons_bad {x : Tk} {r : Res} {a e : Nat} (h : r.cons x = .bad a e) : r = .bad a e := by
  cases r with
  | bad a2 e2 => simpa [Res.cons] using h
  | ok l => simp [Res.cons] at h
inductive Lexed (n : Nat) : List UInt8 → Res → Prop where
  | open_ {l r : List UInt8} (h : skipL l.length l = (r, false)) : Lexed n l (.bad (n - r.length) 30)
  | end_ {l : List UInt8} (h : skipL l.length l = ([], true)) : Lexed n l (.ok [⟨0, n, [], 0⟩])
  | bad {l r : List UInt8} {e : Nat} (h : skipL l.length l = (r, true)) (hr : r ≠ []) (ht : tokL r = .bad e) : Lexed n l (.bad (n - r.length) e)
  | word {l r : List UInt8} {kd : Nat} {t : List UInt8} {v : Nat} {r2 : List UInt8} {x : Res} (h : skipL l.length l = (r, true)) (hr : r ≠ []) (ht : tokL r = .word kd t v r2) (hx : Lexed n r2 x) : Lexed n l (x.cons ⟨kd, n - r.length, t, v⟩)
theorem lexed (n : Nat) : ∀ (k : Nat) (l : List UInt8), l.length < k → Lexed n l (lexL n k l)
  | 0, _, h => by omega
  | k + 1, l, h => by
    unfold lexL
    obtain ⟨r, b, hs⟩ : ∃ r b, skipL l.length l = (r, b) := ⟨_, _, rfl⟩
    have hl := skipL_len _ _ _ _ hs
    rw [hs]
    cases b with
    | false => exact .open_ hs
    | true =>
      simp only
      split
      · rename_i hr
        subst hr
        exact .end_ hs
      · rename_i hr
        cases ht : tokL r with
        | bad e => exact .bad hs hr ht
        | word kd t v r2 =>
          have h3 := tokL_len _ _ _ _ _ ht
          exact .word hs hr ht (lexed n k r2 (by omega))
theorem Lexed.eq {n : Nat} {l : List UInt8} {x : Res} (h : Lexed n l x) : ∀ k, l.length < k → lexL n k l = x := by
  induction h with
  | open_ h =>
    intro k hk
    obtain ⟨k, rfl⟩ : ∃ m, k = m + 1 := ⟨k - 1, by omega⟩
    simp only [lexL, h]
  | end_ h =>
    intro k hk
    obtain ⟨k, rfl⟩ : ∃ m, k = m + 1 := ⟨k - 1, by omega⟩
    simp only [lexL, h, if_true]
  | bad h hr ht =>
    intro k hk
    obtain ⟨k, rfl⟩ : ∃ m, k = m + 1 := ⟨k - 1, by omega⟩
    simp only [lexL, h, if_neg hr, ht]
  | word h hr ht hx ih =>
    intro k hk
    obtain ⟨k, rfl⟩ : ∃ m, k = m + 1 := ⟨k - 1, by omega⟩
    have h1 := skipL_len _ _ _ _ h
    have h2 := tokL_len _ _ _ _ _ ht
    simp only [lexL, h, if_neg hr, ht]
    rw [ih k (by omega)]
theorem Lexed.lexS {l : List UInt8} {x : Res} (h : Lexed l.length l x) : lexS l = x := h.eq _ (by omega)
theorem lexS_lexed (l : List UInt8) : Lexed l.length l (lexS l) := lexed _ _ _ (by omega)
theorem Lexed.places {n : Nat} {l : List UInt8} {x : Res} (h : Lexed n l x) : ∀ ts, x = .ok ts → l.length ≤ n →
    (∃ y ys, ts = y :: ys ∧ n - l.length ≤ y.at_) ∧
    (∀ i, (hi : i < ts.length) → ∃ a z, l = a ++ z ∧ ts[i].at_ = n - z.length ∧ Lexed (n - z.length) a (.ok (ts.take i ++ [⟨0, n - z.length, [], 0⟩])) ∧
      ((i + 1 = ts.length ∧ z = [] ∧ ts[i] = ⟨0, n, [], 0⟩) ∨ ((hi2 : i + 1 < ts.length) → ∃ r2, tokL z = .word ts[i].k ts[i].t ts[i].n r2 ∧ ts[i].at_ < ts[i + 1].at_) ∧ i + 1 < ts.length)) := by
  induction h with
  | open_ h => intro ts h; cases h
  | bad h hr ht => intro ts h; cases h
  | @end_ l h =>
    intro ts e hl
    cases e
    refine ⟨⟨_, _, rfl, by simp⟩, fun i hi => ?_⟩
    obtain rfl : i = 0 := by simp at hi; omega
    refine ⟨l, [], by simp, by simp, ?_, .inl ⟨rfl, rfl, rfl⟩⟩
    simp only [List.length_nil, Nat.sub_zero, List.take_zero, List.nil_append]
    exact .end_ h
  | @word l r kd t v r2 x h hr ht hx ih =>
    intro ts e hl
    obtain ⟨us, rfl, rfl⟩ := Res.cons_ok e
    have h1 := skipL_suf _ _ _ _ h
    have h2 := tokL_suf ht
    have h3 := tokL_len _ _ _ _ _ ht
    have h4 := h1.length_le
    obtain ⟨⟨y, ys, rfl, hy⟩, ihp⟩ := ih us rfl (by omega)
    refine ⟨⟨_, _, rfl, by simp; omega⟩, fun i hi => ?_⟩
    cases i with
    | zero =>
      obtain ⟨a, rfl⟩ := h1
      refine ⟨a, r, rfl, rfl, ?_, .inr ⟨fun _ => ⟨r2, ht, ?_⟩, by simp⟩⟩
      · have := skipL_cut _ a [] r (by simpa using h)
        simp only [List.take_zero, List.nil_append]
        refine .end_ ?_
        rw [← this]
        exact skipL_fuel _ _ _ (Nat.le_refl _) (by simp)
      · simp only [List.getElem_cons_zero, List.getElem_cons_succ]
        simp only [List.length_append] at hl h4
        omega
    | succ i =>
      have hi2 : i < (y :: ys).length := by simpa using hi
      obtain ⟨b, z, hz, ha, hl2, hc⟩ := ihp i hi2
      have hzs : z <:+ r2 := ⟨b, hz.symm⟩
      obtain ⟨a, hal⟩ := hzs.trans (h2.trans h1)
      obtain ⟨c, hcr⟩ := hzs.trans h2
      refine ⟨a, z, hal.symm, ?_, ?_, ?_⟩
      · simpa using ha
      · have hs : skipL l.length (a ++ z) = (c ++ z, true) := by rw [hal, hcr]; exact h
        have hs2 := skipL_cut _ _ _ _ hs
        have ht2 : tokL c = .word kd t v b := tokL_cut c b z kd t v (by rw [hcr, ← hz]; exact ht)
        have hcn : c ≠ [] := by intro hx; subst hx; simp [tokL] at ht2
        have e1 : (n - z.length) - c.length = n - r.length := by rw [← hcr]; simp; omega
        have hw := Lexed.word (n := n - z.length) (l := a) (r := c) (by rw [← hs2]; exact skipL_fuel _ _ _ (Nat.le_refl _) (by rw [← hal]; simp)) hcn ht2 hl2
        rw [e1] at hw
        exact hw
      · rcases hc with ⟨c1, c2, c3⟩ | ⟨c1, c2⟩
        · exact .inl ⟨by simp at c1 ⊢; omega, c2, by simpa using c3⟩
        · refine .inr ⟨fun _ => ?_, by simp at c2 ⊢; omega⟩
          obtain ⟨r3, c3, c4⟩ := c1 c2
          exact ⟨r3, by simpa using c3, by simpa using c4⟩
theorem Lexed.bad_le {n : Nat} {l : List UInt8} {x : Res} (h : Lexed n l x) : ∀ a e, x = .bad a e → a ≤ n := by
  induction h with
  | open_ h => intro a e h; cases h; omega
  | end_ h => intro a e h; cases h
  | bad h hr ht => intro a e h; cases h; omega
  | word h hr ht hx ih => intro a e h; exact ih a e (Res.cons_bad h)
theorem tokL_bad {l : List UInt8} {e : Nat} (h : tokL l = .bad e) : e = 30 ∨ e = 9 ∨ e = 21 := by
  cases l with
  | nil => simp [tokL] at h; omega
  | cons c r =>
    simp only [tokL] at h
    repeat' split at h
    all_goals first | (injection h with h; omega) | (cases h)
theorem Lexed.bad_ne {n : Nat} {l : List UInt8} {x : Res} (h : Lexed n l x) : ∀ a e, x = .bad a e → e = 30 ∨ e = 9 ∨ e = 21 := by
  induction h with
  | open_ h => intro a e h; cases h; exact .inl rfl
  | end_ h => intro a e h; cases h
  | bad h hr ht => intro a e h; cases h; exact tokL_bad ht
  | word h hr ht hx ih => intro a e h; exact ih a e (Res.cons_bad h)
theorem Lexed.count {n : Nat} {l : List UInt8} {x : Res} (h : Lexed n l x) : ∀ ts, x = .ok ts → ts.length ≤ l.length + 1 := by
  induction h with
  | open_ h => intro ts h; cases h
  | end_ h => intro ts h; cases h; simp
  | bad h hr ht => intro ts h; cases h
  | word h hr ht hx ih =>
    intro ts e
    obtain ⟨us, rfl, rfl⟩ := Res.cons_ok e
    have h1 := skipL_len _ _ _ _ h
    have h2 := tokL_len _ _ _ _ _ ht
    have := ih us rfl
    simp only [List.length_cons]
    omega
theorem tokL_kind {l : List UInt8} {kd : Nat} {t : List UInt8} {v : Nat} {r : List UInt8} (h : tokL l = .word kd t v r) : kd ≠ 0 ∧ (kd ≠ 3 → t ≠ [] ∧ l = t ++ r) := by
  obtain ⟨c, l2, rfl, h | h | h | h⟩ := tokL_inv h
  · obtain ⟨hc, rfl, rfl, _, _, rfl⟩ := h
    refine ⟨by decide, fun _ => ⟨?_, tw_dw _⟩⟩
    rw [List.takeWhile_cons_of_pos (al_of (.inl hc))]
    simp
  · obtain ⟨_, hc, rfl, rfl, _, rfl⟩ := h
    refine ⟨by decide, fun _ => ⟨?_, tw_dw _⟩⟩
    rw [List.takeWhile_cons_of_pos (al_of (.inr hc))]
    simp
  · obtain ⟨_, _, _, rfl, _⟩ := h
    exact ⟨by decide, fun h => absurd rfl h⟩
  · obtain ⟨_, _, _, _, rfl, rfl, _, rfl⟩ := h
    exact ⟨by decide, fun _ => ⟨by simp, rfl⟩⟩
end Go.Proofs.YtihidbjffclfkaaDoor.Lx
