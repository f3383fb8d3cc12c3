/- Part of the proof: what it uses of HREq. -/
import Derived.Test.YtihidbjffclfkaaGreatDoorBHEq3
import Derived.Test.YtihidbjffclfkaaGreatDoorBHR1
import Derived.Test.YtihidbjffclfkaaGreatDoorBPLexWords
namespace Go.Proofs.YtihidbjffclfkaaGreatDoor.PLex
open Go.RowKit Go.Maps Go.Proofs.YtihidbjffclfkaaGreatDoorW.PrintWords Go.Proofs.YtihidbjffclfkaaGreatDoorW.PrintLast Go.Proofs.YtihidbjffclfkaaGreatDoorW.PrintMore Go.Proofs.YtihidbjffclfkaaGreatDoor.Lx
set_option linter.unusedVariables false
set_option linter.unusedSimpArgs false
theorem tokL_bad_ne {l : List UInt8} {e : Nat} (h : tokL l = .bad e) : e ≠ 0 := by
  cases l with
  | nil => simp only [tokL] at h; cases h; decide
  | cons c r =>
    simp only [tokL] at h
    by_cases h1 : isLetter c = true
    · rw [if_pos h1] at h
      split at h
      · cases h; decide
      · cases h
    rw [if_neg h1] at h
    by_cases h2 : isDigit c = true
    · rw [if_pos h2] at h
      split at h
      · cases h
      · cases h; decide
      · cases h; decide
    rw [if_neg h2] at h
    by_cases h3 : c.toNat = 34 ∨ c.toNat = 39
    · rw [if_pos h3] at h
      split at h
      · cases h; decide
      · split at h
        · cases h; decide
        · cases h
    rw [if_neg h3] at h
    split at h
    · cases h
    · cases h; decide
theorem rskip_f (s : ByteArray) (hs : s.size ≤ 65536) (K a : Nat) (ha : a ≤ s.size) (hK : 4 * s.size + 4 ≤ K) (r : List UInt8) (b : Bool) (h : skipL (s.data.toList.drop a).length (s.data.toList.drop a) = (r, b)) : signetryref03_skip.f K s (a : Int) = some (((s.size - r.length : Nat) : Int), b) := by
  have hL : s.data.toList.length = s.size := (Lib.size_eq s).symm
  refine rskip_eq s hs (s.size - a) K a (Nat.le_refl _) ha (by omega) r b ?_
  rw [← h]
  exact skipL_fuel _ _ _ (by rw [List.length_drop, hL]; omega) (Nat.le_refl _)
theorem rwordsL_eq (s : ByteArray) (hs : s.size ≤ 65536) : ∀ (k K a : Nat) (acc : List S33) (x : Res), a ≤ s.size → s.size - a < k → 62 * s.size + 200 + k ≤ K → acc.length + (s.size - a) ≤ 70000 → Lexed s.size (s.data.toList.drop a) x →
    signetryref03_Words.l0 K s acc (a : Int) = some (match x with | .ok ts => (acc ++ ts.map tk, 0, 0) | .bad p e => ([], (p : Int), (e : Int))) := by
  have hL : s.data.toList.length = s.size := (Lib.size_eq s).symm
  intro k
  induction k with
  | zero => intro K a acc x _ h; omega
  | succ k ih =>
    intro K a acc x ha hk hK hacc hx
    obtain ⟨K, rfl⟩ : ∃ m, K = m + 1 := ⟨K - 1, by omega⟩
    have hpl : ∀ r b, skipL (s.data.toList.drop a).length (s.data.toList.drop a) = (r, b) → s.data.toList.drop (s.size - r.length) = r ∧ r.length ≤ s.size - a := by
      intro r b h
      have h1 := skipL_suf _ _ _ _ h
      have h2 := h1.length_le
      rw [List.length_drop, hL] at h2
      have h3 := h1.trans (List.drop_suffix _ _)
      refine ⟨?_, h2⟩
      have := List.suffix_iff_eq_drop.1 h3
      rw [hL] at this
      exact this.symm
    have hwf : ∀ p : Nat, p < s.size → signetryref03_word.f K s (p : Int) = some (rtok s (p : Int) (tokL (s.data.toList.drop p))) := by
      intro p hp
      unfold signetryref03_word.f
      rw [if_pos ⟨hs, by omega, by omega, by omega⟩]
      rfl
    simp only [signetryref03_Words.l0]
    cases hx with
    | open_ h =>
      rw [rskip_f s hs K a ha (by omega) _ _ h]
      simp only [Option.bind_some]
      rw [if_neg (by simp)]
      rfl
    | end_ h =>
      rw [rskip_f s hs K a ha (by omega) _ _ h]
      simp only [Option.bind_some]
      rw [if_pos trivial, if_pos (by simp), if_pos (by omega)]
      rfl
    | @bad _ r e h hr ht =>
      have hp := hpl _ _ h
      rw [rskip_f s hs K a ha (by omega) _ _ h]
      have hrl : 0 < r.length := List.length_pos_iff.2 hr
      simp only [Option.bind_some]
      rw [if_pos trivial, if_neg (by omega), hwf _ (by omega), hp.1, ht]
      simp only [Option.bind_some, rtok]
      rw [if_neg (by have := tokL_bad_ne ht; omega)]
    | @word _ r kd t v r2 x h hr ht hx =>
      have hp := hpl _ _ h
      rw [rskip_f s hs K a ha (by omega) _ _ h]
      have hrl : 0 < r.length := List.length_pos_iff.2 hr
      have ht1 := tokL_suf ht
      have ht2 := tokL_len _ _ _ _ _ ht
      simp only [Option.bind_some]
      rw [if_pos trivial, if_neg (by omega), hwf _ (by omega), hp.1, ht]
      simp only [Option.bind_some, rtok]
      rw [if_pos trivial, if_pos (by omega)]
      have hdr : s.data.toList.drop (s.size - r2.length) = r2 := by
        have h3 := ht1.trans (hp.1 ▸ List.drop_suffix _ _ : r <:+ s.data.toList)
        have := List.suffix_iff_eq_drop.1 h3
        rw [hL] at this
        exact this.symm
      have hp2 := hp.2
      have ih2 := ih K (s.size - r2.length) (acc ++ [⟨(kd : Int), ((s.size - r.length : Nat) : Int), ⟨t.toArray⟩, (v : Int)⟩]) x (by omega) (by omega) (by omega) (by rw [List.length_append, List.length_singleton]; omega) (by rw [hdr]; exact hx)
      rw [ih2]
      cases x with
      | bad p e => rfl
      | ok ts =>
        simp only [Res.cons, List.map_cons, List.append_assoc, List.cons_append, List.nil_append]
        rfl
theorem rwords_eq (s : ByteArray) (hs : s.size ≤ 65536) (K : Nat) (hK : 63 * s.size + 210 ≤ K) : signetryref03_Words.f K s = some (ofRes (lexS s.data.toList)) := by
  have hL : s.data.toList.length = s.size := (Lib.size_eq s).symm
  unfold signetryref03_Words.f
  rw [if_neg (by omega)]
  have h := lexS_lexed s.data.toList
  rw [hL] at h
  have := rwordsL_eq s hs (s.size + 1) K 0 [] (lexS s.data.toList) (by omega) (by omega) (by omega) (by simp; omega) (by simpa using h)
  refine Eq.trans this ?_
  cases lexS s.data.toList with
  | ok ts => simp [ofRes]
  | bad p e => rfl
theorem rsame_eq (l : List S33) (hl : l.length ≤ 1000000) : ∀ (n K i : Nat), l.length - i < n → n ≤ K → signetryref03_Same.l0 K l l (i : Int) = some true
  | 0, _, _, h, _ => by omega
  | n + 1, K, i, h, hK => by
    obtain ⟨K, rfl⟩ : ∃ m, K = m + 1 := ⟨K - 1, by omega⟩
    simp only [signetryref03_Same.l0]
    by_cases hi : i < l.length
    · rw [if_pos (by omega), if_pos (by omega), if_pos (by omega), if_neg (by simp), w1_ i (by omega)]
      exact rsame_eq l hl n K (i + 1) (by omega) (by omega)
    · rw [if_neg (by omega)]
theorem rsame (l : List S33) (hl : l.length ≤ 1000000) (K : Nat) (hK : l.length + 1 ≤ K) : signetryref03_Same.f K l l = some true := by
  unfold signetryref03_Same.f
  rw [if_pos rfl]
  exact rsame_eq l hl (l.length + 1) K 0 (by omega) hK
end Go.Proofs.YtihidbjffclfkaaGreatDoor.PLex
