/- Part of the proof: what it uses of HEq1. -/
import Derived.Test.YtihidbjffclfkaaGreatDoorBHPlc2
import Derived.Test.YtihidbjffclfkaaGreatDoorBHWords
import Derived.Test.YtihidbjffclfkaaGreatDoorBPLexC
import Derived.Test.YtihidbjffclfkaaGreatDoorBPLexL
namespace Go.Proofs.YtihidbjffclfkaaGreatDoor.PLex
open Go.RowKit Go.Maps Go.Proofs.YtihidbjffclfkaaGreatDoorW.PrintWords Go.Proofs.YtihidbjffclfkaaGreatDoorW.PrintLast Go.Proofs.YtihidbjffclfkaaGreatDoorW.PrintMore Go.Proofs.YtihidbjffclfkaaGreatDoor.Lx
set_option linter.unusedVariables false
set_option linter.unusedSimpArgs false
theorem bt_head {t : ByteArray} {c : UInt8} {r : List UInt8} (h : t.data.toList = c :: r) : bt t 0 = (c.toNat : Int) := by
  have hs : 0 < t.size := by rw [Lib.size_eq, h]; simp
  have := bt_at t 0 hs
  rw [← this]
  have : t[0]'hs = t.data.toList[0]'(by rw [h]; simp) := rfl
  simp only [Int.toNat_zero]
  rw [this]
  simp [h]
theorem bt_idx {t : ByteArray} (j : Nat) {c : UInt8} {r : List UInt8} (h : t.data.toList.drop j = c :: r) : bt t (j : Int) = (c.toNat : Int) ∧ j < t.size := by
  have hj : j < t.data.toList.length := by
    have := congrArg List.length h
    simp at this
    simp
    omega
  have hs : j < t.size := by rw [Lib.size_eq]; exact hj
  refine ⟨?_, hs⟩
  have h2 := bt_at t (j : Int) hs
  rw [← h2]
  have h3 : t[(j : Int).toNat]'hs = t.data.toList[j]'hj := rfl
  rw [h3]
  have h4 := List.drop_eq_getElem_cons hj
  rw [h] at h4
  injection h4 with h4 _
  rw [← h4]
theorem data_nil {t : ByteArray} {j : Nat} (h : t.data.toList.drop j = []) : t.size ≤ j := by
  rw [Lib.size_eq]
  exact List.drop_eq_nil_iff.1 h
theorem left_eq (s : ByteArray) (a : Nat) (h : a ≤ s.size) : lex_cursor_left.f s (a : Int) = some (s.extract a s.size, s, (a : Int)) := by
  unfold lex_cursor_left.f
  rw [if_pos (by omega), if_pos (by omega)]
  rfl
theorem prefix2 (t : ByteArray) (x y c : UInt8) (r : List UInt8) (h : t.data.toList = c :: r) (k : Nat) (hy : y.toNat = k) : strings_HasPrefix.f t ⟨#[x, y]⟩ = some (decide (c = x ∧ r.head?.map (·.toNat) = some k)) := by
  have e1 : (⟨#[x, y]⟩ : ByteArray).size = 2 := rfl
  have e2 : t.size = r.length + 1 := by rw [Lib.size_eq, h]; rfl
  unfold strings_HasPrefix.f stringslite_HasPrefix.f
  rw [e1]
  cases r with
  | nil =>
    rw [if_neg (by rw [e2]; simp)]
    simp
  | cons d r =>
    rw [if_pos (by rw [e2]; simp; omega), if_pos (by decide), if_pos (by rw [e2]; simp; omega)]
    rw [Lib.toList_data, Lib.toList_data]
    have : (t.extract 0 ((2 : Nat) : Int).toNat).data.toList = [c, d] := by
      rw [show ((2 : Nat) : Int).toNat = 2 from rfl, extract_to, h]
      rfl
    rw [this]
    simp only [Option.bind_some, Option.some.injEq, List.head?_cons, Option.map_some]
    rw [Bool.eq_iff_iff]
    simp only [beq_iff_eq, decide_eq_true_eq]
    constructor
    · intro h
      cases h
      exact ⟨rfl, hy⟩
    · rintro ⟨rfl, h⟩
      have : d = y := UInt8.toNat_inj.1 (by omega)
      subst this
      rfl
theorem blank_idx (c : UInt8) : decide (0 ≤ Lib.indexByte [32, 9, 13, 10] c) = isBlank c := by
  have key : ∀ n : Fin 256, decide (0 ≤ Lib.indexByte [32, 9, 13, 10] (UInt8.ofNat n.1)) = isBlank (UInt8.ofNat n.1) := by decide +kernel
  have h2 := key ⟨c.toNat, c.toNat_lt⟩
  simpa using h2
theorem cast_u8 (c : UInt8) : (c.toNat : Int).toNat.toUInt8 = c := by simp
theorem line_idx : ∀ l : List UInt8, (Lib.indexByte l 10 < 0 ∧ lineL l = []) ∨ (∃ n : Nat, Lib.indexByte l 10 = (n : Int) ∧ n < l.length ∧ lineL l = l.drop n)
  | [] => .inl ⟨by decide, rfl⟩
  | c :: r => by
    unfold Lib.indexByte lineL
    by_cases hc : c.toNat = 10
    · have : c = 10 := UInt8.toNat_inj.1 hc
      rw [if_pos hc, if_pos (by simp [this])]
      exact .inr ⟨0, rfl, by simp, rfl⟩
    · have h0 : ¬ (c == 10) = true := fun h => hc (by rw [beq_iff_eq] at h; rw [h]; rfl)
      rw [if_neg hc, if_neg h0]
      rcases line_idx r with ⟨h1, h2⟩ | ⟨n, h1, h2, h3⟩
      · have := Lib.indexByte_ge r 10
        rw [if_pos (by simp; omega)]
        exact .inl ⟨by decide, h2⟩
      · rw [h1, if_neg (by simp <;> omega)]
        exact .inr ⟨n + 1, by omega, by simp; omega, by simpa using h3⟩
theorem rem_idx : ∀ l : List UInt8, (Lib.index l [42, 47] < 0 ∧ remL l = none) ∨ (∃ n : Nat, Lib.index l [42, 47] = (n : Int) ∧ n + 2 ≤ l.length ∧ remL l = some (l.drop (n + 2)))
  | [] => .inl ⟨by decide, rfl⟩
  | c :: r => by
    have key : ([42, 47] : List UInt8).isPrefixOf (c :: r) = true ↔ (c.toNat = 42 ∧ r.head?.map (·.toNat) = some 47) := by
      cases r with
      | nil => simp [List.isPrefixOf]
      | cons d r =>
        simp only [List.isPrefixOf, Bool.and_true, Bool.and_eq_true, beq_iff_eq, List.head?_cons, Option.map_some, Option.some.injEq]
        constructor
        · rintro ⟨rfl, rfl⟩
          exact ⟨rfl, rfl⟩
        · rintro ⟨h1, h2⟩
          exact ⟨(UInt8.toNat_inj.1 h1).symm, (UInt8.toNat_inj.1 h2).symm⟩
    unfold Lib.index remL
    by_cases hc : c.toNat = 42 ∧ r.head?.map (·.toNat) = some 47
    · rw [if_pos hc, if_pos (key.2 hc)]
      refine .inr ⟨0, rfl, ?_, by simp⟩
      cases r with
      | nil => simp at hc
      | cons d r => simp
    · rw [if_neg hc, if_neg (fun h => hc (key.1 h))]
      rcases rem_idx r with ⟨h1, h2⟩ | ⟨n, h1, h2, h3⟩
      · have := Lib.index_ge r [42, 47]
        rw [if_pos (by simp; omega)]
        exact .inl ⟨by decide, h2⟩
      · rw [h1, if_neg (by simp <;> omega)]
        exact .inr ⟨n + 1, by omega, by simp; omega, by simpa using h3⟩
theorem w64 (n : Nat) (h : n ≤ 1099511627776) : wrap64 (n : Int) = (n : Int) := IntWalk.wrap64_in _ (by omega)
theorem w64' (n m : Nat) (h : n + m ≤ 1099511627776) : wrap64 ((n : Int) + (m : Int)) = ((n + m : Nat) : Int) := by rw [← Int.natCast_add]; exact w64 _ h
theorem blanks_eq (s : ByteArray) (hs : s.size ≤ 65536) : ∀ (k a : Nat), a ≤ s.size → s.size - a < k → ∀ r b, skipL k (s.data.toList.drop a) = (r, b) →
    lex_cursor_blanks.l0 k s (a : Int) = some (b, s, ((s.size - r.length : Nat) : Int)) := by
  intro k
  induction k with
  | zero => intro a _ h; omega
  | succ k ih =>
    intro a ha hk r b h
    have hL : s.data.toList.length = s.size := (Lib.size_eq s).symm
    have hS : (s.extract a s.size).size = s.size - a := by rw [ByteArray.size_extract]; omega
    simp only [lex_cursor_blanks.l0]
    rcases hd : s.data.toList.drop a with _ | ⟨c, l⟩
    · have := data_nil hd
      rw [hd] at h
      simp only [skipL] at h
      cases h
      rw [if_neg (by omega)]
      obtain rfl : a = s.size := by omega
      rfl
    · have hlen : (c :: l).length = s.size - a := by rw [← hd, List.length_drop, hL]
      simp only [List.length_cons] at hlen
      have ht : (s.extract a s.size).data.toList = c :: l := by rw [extract_drop, hd]
      have hdd : ∀ j, s.data.toList.drop (a + 1 + j) = l.drop j := by intro j; rw [← List.drop_drop, ← List.drop_drop, hd]; rfl
      rw [if_pos (by omega), left_eq s a ha]
      simp only [Option.bind_some]
      rw [if_pos (by omega), bt_head ht]
      unfold strings_IndexByte.f
      simp only [Option.bind_some, cast_u8]
      have hbi := blank_idx c
      rw [hd] at h
      unfold skipL at h
      by_cases hb : isBlank c = true
      · rw [if_pos hb] at h
        rw [hb] at hbi
        rw [if_pos (of_decide_eq_true hbi), show (1 : Int) = ((1 : Nat) : Int) from rfl, w64' a 1 (by omega)]
        exact ih (a + 1) (by omega) (by omega) r b (by rw [show a + 1 = a + 1 + 0 from rfl, hdd]; exact h)
      · rw [if_neg hb] at h
        replace hb : isBlank c = false := by simpa using hb
        rw [hb] at hbi
        have h47 : c.toNat = 47 ↔ c = 47 := ⟨fun h => UInt8.toNat_inj.1 h, fun h => by rw [h]; rfl⟩
        rw [if_neg (of_decide_eq_false hbi), prefix2 _ 47 47 c l ht 47 rfl]
        simp only [Option.bind_some, decide_eq_true_eq]
        simp only [h47] at h
        by_cases hc : c = 47 ∧ l.head?.map (·.toNat) = some 47
        · rw [if_pos hc] at h ⊢
          rcases line_idx (c :: l) with ⟨h1, h2⟩ | ⟨n, h1, h2, h3⟩
          · have h2' : lineL l = [] := by
              simp only [lineL] at h2
              rw [if_neg (by rw [hc.1]; decide)] at h2
              exact h2
            rw [h2'] at h
            rw [show (10 : Int).toNat.toUInt8 = 10 from rfl, ht]
            rw [if_pos h1, hS, w64' a (s.size - a) (by omega)]
            exact ih _ (by omega) (by omega) r b (by rw [List.drop_eq_nil_of_le (by omega)]; exact h)
          · have hn : n ≠ 0 := by
              intro h0
              subst h0
              have : Lib.indexByte (c :: l) 10 = 0 := by rw [h1]; rfl
              unfold Lib.indexByte at this
              rw [if_neg (by rw [hc.1]; decide)] at this
              split at this
              · cases this
              · rename_i hx
                have := Lib.indexByte_ge l 10
                simp only [beq_iff_eq] at hx
                omega
            obtain ⟨m, rfl⟩ : ∃ m, n = m + 1 := ⟨n - 1, by omega⟩
            have h3' : lineL l = l.drop m := by
              simp only [lineL] at h3
              rw [if_neg (by rw [hc.1]; decide)] at h3
              exact h3
            rw [h3'] at h
            rw [show (10 : Int).toNat.toUInt8 = 10 from rfl, ht]
            rw [h1, if_neg (by omega), w64' a (m + 1) (by simp at h2; omega)]
            simp only [List.length_cons] at h2
            exact ih _ (by omega) (by omega) r b (by rw [show a + (m + 1) = a + 1 + m by omega, hdd]; exact h)
        · rw [if_neg hc] at h ⊢
          rw [prefix2 _ 47 42 c l ht 42 rfl]
          simp only [Option.bind_some, decide_eq_true_eq]
          by_cases hc2 : c = 47 ∧ l.head?.map (·.toNat) = some 42
          · rw [if_pos hc2] at h ⊢
            have hl1 : 1 ≤ l.length := by
              cases l with
              | nil => simp at hc2
              | cons x y => simp
            rw [if_pos (by rw [hS]; omega)]
            have ht2 : ((s.extract a s.size).extract 2 (s.extract a s.size).size).data.toList = l.drop 1 := by rw [extract_drop, ht]; rfl
            unfold strings_Index.f
            rw [if_pos (by rw [ByteArray.size_extract, hS]; omega)]
            simp only [Option.bind_some]
            rw [ht2]
            rcases rem_idx (l.drop 1) with ⟨h1, h2⟩ | ⟨n, h1, h2, h3⟩
            · rw [if_pos h1]
              rw [h2] at h
              cases h
              rw [show s.size - (c :: l).length = a from by simp only [List.length_cons]; omega]
            · rw [h1, if_neg (by omega)]
              rw [h3] at h
              simp only [List.length_drop] at h2
              rw [show (4 : Int) = ((4 : Nat) : Int) from rfl, w64' n 4 (by omega), w64' a (n + 4) (by omega)]
              refine ih _ (by omega) (by omega) r b ?_
              rw [show a + (n + 4) = a + 1 + (n + 3) by omega, hdd]
              rw [List.drop_drop] at h
              rw [show n + 3 = 1 + (n + 2) by omega]
              exact h
          · rw [if_neg hc2] at h ⊢
            cases h
            rw [show s.size - (c :: l).length = a from by simp only [List.length_cons]; omega]
end Go.Proofs.YtihidbjffclfkaaGreatDoor.PLex
