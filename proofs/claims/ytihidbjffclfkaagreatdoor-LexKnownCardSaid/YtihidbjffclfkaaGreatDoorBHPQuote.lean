/- Part of the proof: what it uses of HPQuote. -/
import Derived.Test.YtihidbjffclfkaaGreatDoorBHRJoin
namespace Go.Proofs.YtihidbjffclfkaaGreatDoor.PLex
open Go.RowKit Go.Maps Go.Proofs.YtihidbjffclfkaaGreatDoorW.PrintWords Go.Proofs.YtihidbjffclfkaaGreatDoorW.PrintLast Go.Proofs.YtihidbjffclfkaaGreatDoorW.PrintMore Go.Proofs.YtihidbjffclfkaaGreatDoor.Lx
set_option linter.unusedVariables false
set_option linter.unusedSimpArgs false
theorem u8_of {x : UInt8} {n : Nat} (h : x.toNat = n) (hn : n < 256) : x = UInt8.ofNat n := by
  apply UInt8.toNat_inj.1
  rw [h, UInt8.toNat_ofNat']
  omega
theorem sh1_none {x : UInt8} (h1 : x.toNat ≠ 10) (h2 : x.toNat ≠ 13) (h3 : x.toNat ≠ 9) (h4 : x.toNat ≠ 34) (h5 : x.toNat ≠ 92) : sh1 x = none := by
  unfold sh1 qsh
  simp only [List.find?_cons, List.find?_nil, beq_eq_false_iff_ne.mpr (Ne.symm h1), beq_eq_false_iff_ne.mpr (Ne.symm h2), beq_eq_false_iff_ne.mpr (Ne.symm h3), beq_eq_false_iff_ne.mpr (Ne.symm h4), beq_eq_false_iff_ne.mpr (Ne.symm h5), Option.map_none]
theorem four_eq (x : UInt8) : ([92, (48 + ((Int.tdiv (x.toNat : Int) 64) % 256)) % 256, 48 + (((Int.tdiv (x.toNat : Int) 8) % 256) % 8), (48 + (Int.tmod (x.toNat : Int) 8)) % 256] : List Int) = [92, 48 + (x.toNat : Int) / 64, 48 + (x.toNat : Int) / 8 % 8, 48 + (x.toNat : Int) % 8] := by
  have hlt := x.toNat_lt
  rw [Int.tdiv_eq_ediv_of_nonneg (by omega), Int.tdiv_eq_ediv_of_nonneg (by omega), Int.tmod_eq_emod_of_nonneg (by omega)]
  congr 1
  congr 1
  · omega
  · congr 1
    · omega
    · congr 1
      omega
theorem refQuote_loop (l : List UInt8) (hl : l.length ≤ 1099511627776) : ∀ (n i : Nat) (acc : List UInt8) (k : Nat), i + n = l.length → 2 * n + 1 ≤ k → acc.length ≤ 1 + 4 * i →
    signetryref02_Quote.l0 k (bl l) (bl acc) (i : Int) = some ⟨(acc ++ (l.drop i).flatMap qOne ++ [34]).toArray⟩
  | 0, i, acc, k, hi, hk, ha => by
    obtain ⟨k, rfl⟩ : ∃ k', k = k' + 1 := ⟨k - 1, by omega⟩
    have hb := bl_len l
    have hc := bl_len acc
    simp only [signetryref02_Quote.l0]
    rw [if_neg (by rw [hb]; omega), if_pos (by rw [hc]; omega), str_bl, List.drop_eq_nil_of_le (by omega)]
    simp
  | n + 1, i, acc, k, hi, hk, ha => by
    obtain ⟨k, rfl⟩ : ∃ k', k = k' + 1 := ⟨k - 1, by omega⟩
    have hlt : i < l.length := by omega
    have hb := bl_len l
    have hc := bl_len acc
    have hg := bl_get l i hlt
    have hw : wrap64 ((i : Int) + 1) = ((i + 1 : Nat) : Int) := by rw [IntWalk.wrap64_in _ (by omega)]; rfl
    have hd := List.drop_eq_getElem_cons hlt
    obtain ⟨x, hx⟩ : ∃ x, x = l[i]'hlt := ⟨_, rfl⟩
    rw [← hx] at hg hd
    have go : ∀ k', 2 * n + 1 ≤ k' → ∀ Y, Y = bl (qOne x) → signetryref02_Quote.l0 k' (bl l) (bl acc ++ Y) (wrap64 ((i : Int) + 1)) = some ⟨(acc ++ (l.drop i).flatMap qOne ++ [34]).toArray⟩ := by
      intro k' hk' Y hY
      have h4 := quote_one_len x
      rw [hw, hY, ← bl_app, refQuote_loop l hl n (i + 1) (acc ++ qOne x) k' (by omega) hk' (by rw [List.length_append]; omega), hd]
      simp
    have j1 : ∀ k', 2 * n + 2 ≤ k' → ∀ b, (b = true ↔ x.toNat = 34 ∨ x.toNat = 92) → x.toNat ≠ 10 → x.toNat ≠ 13 → x.toNat ≠ 9 → signetryref02_Quote.j1 k' (bl l) (bl acc) (i : Int) (x.toNat : Int) b = some ⟨(acc ++ (l.drop i).flatMap qOne ++ [34]).toArray⟩ := by
      intro k' hk' b hb h10 h13 h9
      obtain ⟨k', rfl⟩ : ∃ q, k' = q + 1 := ⟨k' - 1, by omega⟩
      simp only [signetryref02_Quote.j1, Option.bind_some]
      by_cases hbt : b = true
      · rw [if_pos hbt, if_pos (by rw [hc]; simp only [List.length_cons, List.length_nil]; omega)]
        refine go k' (by omega) _ ?_
        rcases hb.1 hbt with h | h
        · rw [u8_of h (by omega)]; rfl
        · rw [u8_of h (by omega)]; rfl
      · rw [if_neg hbt]
        have hnot : ¬ (x.toNat = 34 ∨ x.toNat = 92) := fun h => hbt (hb.2 h)
        have hs : sh1 x = none := sh1_none h10 h13 h9 (fun h => hnot (Or.inl h)) (fun h => hnot (Or.inr h))
        by_cases h32 : x.toNat < 32
        · rw [if_pos (by omega), if_pos (by rw [hc]; simp only [List.length_cons, List.length_nil]; omega)]
          exact go k' (by omega) _ (by rw [four_eq]; exact qfour x hs (Or.inl h32))
        · rw [if_neg (by omega)]
          by_cases h126 : 126 < x.toNat
          · rw [if_pos (by omega), if_pos (by rw [hc]; simp only [List.length_cons, List.length_nil]; omega)]
            exact go k' (by omega) _ (by rw [four_eq]; exact qfour x hs (Or.inr h126))
          · rw [if_neg (by omega), if_pos (by rw [hc]; omega)]
            exact go k' (by omega) _ (by rw [qone_plain x hs (by omega)]; rfl)
    simp only [signetryref02_Quote.l0, Option.bind_some]
    rw [if_pos (by rw [hb]; omega), if_pos (by omega), hg]
    by_cases h10 : x.toNat = 10
    · rw [if_pos (by omega), if_pos (by rw [hc]; simp only [List.length_cons, List.length_nil]; omega)]
      exact go k (by omega) _ (by rw [u8_of h10 (by omega)]; rfl)
    · rw [if_neg (by omega)]
      by_cases h13 : x.toNat = 13
      · rw [if_pos (by omega), if_pos (by rw [hc]; simp only [List.length_cons, List.length_nil]; omega)]
        exact go k (by omega) _ (by rw [u8_of h13 (by omega)]; rfl)
      · rw [if_neg (by omega)]
        by_cases h9 : x.toNat = 9
        · rw [if_pos (by omega), if_pos (by rw [hc]; simp only [List.length_cons, List.length_nil]; omega)]
          exact go k (by omega) _ (by rw [u8_of h9 (by omega)]; rfl)
        · rw [if_neg (by omega)]
          by_cases h34 : x.toNat = 34
          · rw [if_pos (by omega)]
            exact j1 k (by omega) true (by simp [h34]) h10 h13 h9
          · rw [if_neg (by omega)]
            refine j1 k (by omega) _ ?_ h10 h13 h9
            rw [beq_iff_eq]
            omega
theorem refQuote (l : List UInt8) (hl : l.length ≤ 1099511627776) (k : Nat) (hk : 2 * l.length + 1 ≤ k) : signetryref02_Quote.f k (bl l) = some ⟨(quoteL l).toArray⟩ := by
  have h := refQuote_loop l hl l.length 0 [34] k (by omega) hk (by simp)
  unfold signetryref02_Quote.f
  have hb : (bl [34] : List Int) = [34] := rfl
  rw [hb] at h
  rw [show ((0 : Nat) : Int) = 0 from rfl] at h
  rw [h]
  simp [quoteL]
theorem rquote_eq (t : ByteArray) (h : t.size ≤ 1099511627776) : rquote t = some ⟨(quoteL t.data.toList).toArray⟩ := by
  have hs : t.data.toList.length = t.size := (Lib.size_eq t).symm
  exact refQuote _ (by omega) _ (by omega)
end Go.Proofs.YtihidbjffclfkaaGreatDoor.PLex
