/- Part of the proof: what it uses of HEq2. -/
import Derived.Test.YtihidbjffclfkaaGreatDoorBHEq1
import Derived.Test.YtihidbjffclfkaaGreatDoorBHWords
import Derived.Test.YtihidbjffclfkaaGreatDoorBPLexC
import Derived.Test.YtihidbjffclfkaaGreatDoorBPLexL
namespace Go.Proofs.YtihidbjffclfkaaGreatDoor.PLex
open Go.RowKit Go.Maps Go.Proofs.YtihidbjffclfkaaGreatDoorW.PrintWords Go.Proofs.YtihidbjffclfkaaGreatDoorW.PrintLast Go.Proofs.YtihidbjffclfkaaGreatDoorW.PrintMore Go.Proofs.YtihidbjffclfkaaGreatDoor.Lx
set_option linter.unusedVariables false
set_option linter.unusedSimpArgs false
theorem run_eq (s : ByteArray) (a : Nat) (ha : a ≤ s.size) (hs : s.size ≤ 65536) : lex_cursor_run.f s (a : Int) = some (runB (s.extract a s.size), s, (a : Int)) := by
  unfold lex_cursor_run.f
  rw [if_pos (by omega), if_pos (by omega), if_pos (by omega)]
  rfl
theorem run_data (s : ByteArray) (a : Nat) {l : List UInt8} (hd : s.data.toList.drop a = l) : (runB (s.extract a s.size)) = ⟨(l.takeWhile isAl).toArray⟩ ∧ (runB (s.extract a s.size)).size = (l.takeWhile isAl).length := by
  have h : (runB (s.extract a s.size)).data.toList = l.takeWhile isAl := by rw [runB_list, extract_drop, hd]
  refine ⟨?_, by rw [Lib.size_eq, h]⟩
  apply ByteArray.ext
  apply Array.ext'
  exact h
theorem nums_bl (l : List UInt8) : strOfNums (bl l) = ⟨l.toArray⟩ := by
  apply ByteArray.ext
  apply Array.ext'
  show ((l.map fun c => (c.toNat : Int)).map fun n => UInt8.ofNat n.toNat) = l
  rw [List.map_map]
  conv => rhs; rw [← List.map_id l]
  apply List.map_congr_left
  intro c _
  simp
theorem litL_cons (q c : UInt8) (r : List UInt8) : litL q (c :: r) = if c = q then some r else if c.toNat = 10 then none else if c.toNat = 92 then (match r with | [] => none | d :: r2 => if d.toNat = 10 then none else litL q r2) else litL q r := by
  cases r <;> simp only [litL]
theorem lit_eq (t s : ByteArray) (at_ : Int) (q : UInt8) (hq : q.toNat = 34 ∨ q.toNat = 39) (ht : t.size ≤ 65536) (h0 : ∃ r, t.data.toList = q :: r) :
    ∀ (n k j : Nat) (l : List UInt8), l.length ≤ n → t.data.toList.drop (j + 1) = l → 2 * n + 2 ≤ k →
      lex_cursor_literal.l0 k t ((j + 1 : Nat) : Int) s at_ 0 0 (⟨#[]⟩ : ByteArray) 0 =
        match litL q l with
        | none => some (0, 0, (⟨#[]⟩ : ByteArray), 0, 0, 21, true, s, at_)
        | some r2 => (text_Unquote.f (t.extract 0 (t.size - r2.length))).bind fun b => some (3, 0, strOfNums b.1, 0, ((t.size - r2.length : Nat) : Int), b.2, true, s, at_) := by
  obtain ⟨r0, h0⟩ := h0
  have hb0 := Aside0.mk (bt_head h0)
  have hq10 : q.toNat ≠ 10 := by omega
  have hT : t.size = t.data.toList.length := Lib.size_eq t
  have h0s : 0 < t.size := by rw [hT, h0]; simp
  have hww : ∀ j : Nat, j < t.size → wrap64 ((j : Int) + 1) = ((j + 1 : Nat) : Int) := fun j hj => w64' j 1 (by omega)
  intro n
  induction n using Nat.strongRecOn with
  | _ n ih =>
    intro k j l hl hd hk
    obtain ⟨k, rfl⟩ : ∃ m, k = m + 2 := ⟨k - 2, by omega⟩
    cases l with
    | nil =>
      have := data_nil hd
      simp only [lex_cursor_literal.l0, lex_cursor_literal.j2, litL]
      rw [if_neg (by omega), if_neg (by simp), if_pos (by omega)]
    | cons c l =>
      obtain ⟨hbt, hj⟩ := bt_idx (j + 1) hd
      replace hbt := Aside0.mk hbt
      have hdj : ∀ i, t.data.toList.drop (j + 1 + 1 + i) = l.drop i := by intro i; rw [← List.drop_drop, ← List.drop_drop, hd]; rfl
      have hlen : t.size - (j + 1) = l.length + 1 := by rw [hT, ← List.length_drop, hd]; rfl
      simp only [List.length_cons] at hl
      have hcq : ((c.toNat : Int) = (q.toNat : Int)) ↔ c = q := ⟨fun h => UInt8.toNat_inj.1 (by omega), fun h => by rw [h]⟩
      simp only [lex_cursor_literal.l0, litL_cons]
      rw [if_pos (by omega), if_pos (by omega), if_pos (by omega), hbt.out, hb0.out]
      simp only [hcq]
      by_cases h1 : c = q
      · rw [if_pos h1, if_pos h1]
        subst h1
        simp only [lex_cursor_literal.j2]
        rw [if_neg (by simp), if_neg (by omega), if_pos (by omega), if_pos (by omega), hbt.out, if_neg (by omega), hww _ hj, if_pos (by omega), if_pos (by omega)]
        rw [show t.size - l.length = j + 1 + 1 by omega]
        rfl
      · rw [if_neg h1, if_neg h1]
        by_cases h2 : c.toNat = 10
        · rw [if_pos h2]
          simp only [lex_cursor_literal.j2]
          rw [if_neg (by simp [h2]), if_neg (by omega), if_pos (by omega), if_pos (by omega), hbt.out, if_pos (by omega)]
        · rw [if_neg h2]
          simp only [lex_cursor_literal.j2]
          rw [if_pos (by simp; omega), if_pos (by omega), if_pos (by omega), hbt.out]
          by_cases h3 : c.toNat = 92
          · rw [if_pos h3, if_pos (by omega), hww _ hj]
            cases l with
            | nil =>
              rw [if_neg (by simp at hlen; omega)]
              have := ih 0 (by omega) k (j + 1) [] (by simp) (by rw [show j + 1 + 1 = j + 1 + 1 + 0 from rfl, hdj]; rfl) (by omega)
              rw [this]
              simp [litL]
            | cons d l =>
              have hd2 : t.data.toList.drop (j + 1 + 1) = d :: l := by rw [show j + 1 + 1 = j + 1 + 1 + 0 from rfl, hdj]; rfl
              obtain ⟨hbt2, hj2⟩ := bt_idx (j + 1 + 1) hd2
              replace hbt2 := Aside0.mk hbt2
              simp only [List.length_cons] at hl hlen
              rw [if_pos (by omega), if_pos (by omega), hbt2.out]
              simp only
              by_cases h4 : d.toNat = 10
              · rw [if_pos (by omega), if_pos h4]
                have := ih (l.length + 1) (by omega) k (j + 1) (d :: l) (by simp) hd2 (by omega)
                rw [this]
                rw [litL_cons]
                rw [if_neg (by intro hx; subst hx; omega), if_pos h4]
              · rw [if_neg (by omega), if_neg h4, hww _ hj2]
                exact ih l.length (by omega) k (j + 1 + 1) l (by simp) (by rw [show j + 1 + 1 + 1 = j + 1 + 1 + 1 from rfl, hdj]; rfl) (by omega)
          · rw [if_neg h3, if_neg (by omega), hww _ hj]
            exact ih l.length (by omega) k (j + 1) l (by simp) (by rw [show j + 1 + 1 = j + 1 + 1 + 0 from rfl, hdj]; rfl) (by omega)
theorem sign_idx (c : UInt8) : Lib.contains [123, 125, 91, 93, 40, 41, 60, 62, 61, 59, 44, 46, 45] [c] = isSign c := by
  have key : ∀ n : Fin 256, Lib.contains [123, 125, 91, 93, 40, 41, 60, 62, 61, 59, 44, 46, 45] [UInt8.ofNat n.1] = isSign (UInt8.ofNat n.1) := by decide +kernel
  have h2 := key ⟨c.toNat, c.toNat_lt⟩
  simpa using h2
end Go.Proofs.YtihidbjffclfkaaGreatDoor.PLex
