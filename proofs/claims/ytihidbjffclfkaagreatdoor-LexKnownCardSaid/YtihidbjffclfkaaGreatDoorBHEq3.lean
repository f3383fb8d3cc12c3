/- Part of the proof: what it uses of HEq3. -/
import Derived.Test.YtihidbjffclfkaaGreatDoorBHEq2
import Derived.Test.YtihidbjffclfkaaGreatDoorBHWords
import Derived.Test.YtihidbjffclfkaaGreatDoorBPLexC
import Derived.Test.YtihidbjffclfkaaGreatDoorBPLexL
namespace Go.Proofs.YtihidbjffclfkaaGreatDoor.PLex
open Go.RowKit Go.Maps Go.Proofs.YtihidbjffclfkaaGreatDoorW.PrintWords Go.Proofs.YtihidbjffclfkaaGreatDoorW.PrintLast Go.Proofs.YtihidbjffclfkaaGreatDoorW.PrintMore Go.Proofs.YtihidbjffclfkaaGreatDoor.Lx
set_option linter.unusedVariables false
set_option linter.unusedSimpArgs false
def Read (K : Nat) (s : ByteArray) (a : Nat) (l : List UInt8) : Prop :=
  match tokL l with
  | .bad e => ∃ x, readW K s a = some x ∧ ((x.is = true ∧ x.e = (e : Int) ∧ e ≠ 0) ∨ (x.is = false ∧ e = 30)) ∧ x.at_ = a
  | .word kd t v r => ∃ x, readW K s a = some x ∧ x.is = true ∧ x.e = 0 ∧ x.1 = (kd : Int) ∧ x.2.2.1 = ⟨t.toArray⟩ ∧ x.2.2.2.1 = (v : Int) ∧ x.s = s ∧ x.at_ = a ∧ x.long = ((l.length - r.length : Nat) : Int)
theorem read_eq (K : Nat) (s : ByteArray) (hs : s.size ≤ 65536) (a : Nat) (c : UInt8) (l : List UInt8) (hd : s.data.toList.drop a = c :: l) (hK : 2 * s.size + 5 ≤ K) : Read K s a (c :: l) := by
  obtain ⟨hbt_, ha⟩ := bt_idx a hd
  have hbt := Aside0.mk hbt_
  clear hbt_
  have hL : s.data.toList.length = s.size := (Lib.size_eq s).symm
  have hlen : l.length + 1 = s.size - a := by rw [← List.length_cons (a := c), ← hd, List.length_drop, hL]
  obtain ⟨hr1, hr2⟩ := run_data s a hd
  have hrl := run_eq s a (by omega) hs
  have htl : (s.extract a s.size).data.toList = c :: l := by rw [extract_drop, hd]
  have hts : (s.extract a s.size).size = s.size - a := by rw [ByteArray.size_extract]; omega
  have htw := congrArg List.length (tw_dw (c :: l))
  rw [List.length_append] at htw
  have hle := left_eq s a (by omega)
  unfold Read readW
  have hid : lex_cursor_ident.f s (a : Int) = if isLetter c = true then (if 32 < ((c :: l).takeWhile isAl).length then some (0, 0, (⟨#[]⟩ : ByteArray), 0, 0, 30, true, s, (a : Int)) else some (1, 0, ⟨((c :: l).takeWhile isAl).toArray⟩, 0, (((c :: l).takeWhile isAl).length : Int), 0, true, s, (a : Int))) else some (0, 0, (⟨#[]⟩ : ByteArray), 0, 0, 0, false, s, (a : Int)) := by
    unfold lex_cursor_ident.f
    rw [if_pos (by omega), if_pos (by omega), hbt.out, letter_f]
    simp only [Option.bind_some]
    by_cases h : isLetter c = true
    · rw [if_pos h, if_pos h, hrl]
      simp only [Option.bind_some]
      rw [hr2]
      by_cases h2 : 32 < ((c :: l).takeWhile isAl).length
      · rw [if_pos (by omega), if_pos h2]
      · rw [if_neg (by omega), if_neg h2, hr1]
    · rw [if_neg h, if_neg h]
  by_cases h1 : isLetter c = true
  · rw [if_pos h1] at hid
    simp only [tokL]
    rw [if_pos h1]
    by_cases h2 : 32 < ((c :: l).takeWhile isAl).length
    · rw [if_pos h2] at hid ⊢
      rw [hid]
      exact ⟨_, rfl, .inl ⟨rfl, rfl, by decide⟩, rfl⟩
    · rw [if_neg h2] at hid ⊢
      rw [hid]
      exact ⟨_, rfl, rfl, rfl, rfl, rfl, rfl, rfl, rfl, by show (((c :: l).takeWhile isAl).length : Int) = _; omega⟩
  rw [if_neg h1] at hid
  simp only [tokL]
  rw [if_neg h1, hid]
  have hnu : lex_cursor_number.f s (a : Int) = (if isDigit c = true then (match numIs ((c :: l).takeWhile isAl) with | .ok n => some (2, 0, ⟨((c :: l).takeWhile isAl).toArray⟩, (n : Int), (((c :: l).takeWhile isAl).length : Int), 0, true, s, (a : Int)) | .word => some (0, 0, (⟨#[]⟩ : ByteArray), 0, 0, 30, true, s, (a : Int)) | .range => some (0, 0, (⟨#[]⟩ : ByteArray), 0, 0, 9, true, s, (a : Int))) else some (0, 0, (⟨#[]⟩ : ByteArray), 0, 0, 0, false, s, (a : Int)) : Option R9) := by
    unfold lex_cursor_number.f
    rw [if_pos ⟨by omega, by omega, by omega⟩, hbt.out, digit_f, Int.toNat_natCast, hr2, hr1]
    cases hdg : isDigit c with
    | true =>
      rw [if_pos rfl]
      rfl
    | false =>
      rw [if_neg (by simp)]
  have hli : lex_cursor_literal.f K s (a : Int) = (if c.toNat = 34 ∨ c.toNat = 39 then (match litL c l with
        | none => some (0, 0, (⟨#[]⟩ : ByteArray), 0, 0, 21, true, s, (a : Int))
        | some r2 => match unquote ((c :: l).take (l.length + 1 - r2.length)) with
          | none => some (3, 0, (⟨#[]⟩ : ByteArray), 0, ((l.length + 1 - r2.length : Nat) : Int), 21, true, s, (a : Int))
          | some b => some (3, 0, ⟨b.toArray⟩, 0, ((l.length + 1 - r2.length : Nat) : Int), 0, true, s, (a : Int))) else some (0, 0, (⟨#[]⟩ : ByteArray), 0, 0, 0, false, s, (a : Int)) : Option R9) := by
    obtain ⟨K, rfl⟩ : ∃ m, K = m + 1 := ⟨K - 1, by omega⟩
    unfold lex_cursor_literal.f
    rw [hle]
    simp only [Option.bind_some]
    rw [if_pos (by omega), bt_head htl]
    by_cases hq : c.toNat = 34 ∨ c.toNat = 39
    · rw [if_pos hq]
      have hj0 : (if (c.toNat : Int) = 34 then lex_cursor_literal.j0 (K + 1) (s.extract a s.size) false s (a : Int) 0 0 (⟨#[]⟩ : ByteArray) 0 else lex_cursor_literal.j0 (K + 1) (s.extract a s.size) ((c.toNat : Int) != 39) s (a : Int) 0 0 (⟨#[]⟩ : ByteArray) 0) = lex_cursor_literal.l0 K (s.extract a s.size) ((0 + 1 : Nat) : Int) s (a : Int) 0 0 (⟨#[]⟩ : ByteArray) 0 := by
        by_cases h34 : c.toNat = 34
        · rw [if_pos (by omega)]
          simp only [lex_cursor_literal.j0]
          rfl
        · have h39 : c.toNat = 39 := by omega
          rw [if_neg (by omega), h39]
          simp only [lex_cursor_literal.j0]
          rfl
      rw [hj0, lit_eq (s.extract a s.size) s (a : Int) c hq (by omega) ⟨_, htl⟩ l.length K 0 l (Nat.le_refl _) (by rw [htl]; rfl) (by omega)]
      cases hl : litL c l with
      | none => rfl
      | some r2 =>
        have hll := litL_len _ _ _ hl
        have hux : ((s.extract a s.size).extract 0 ((s.extract a s.size).size - r2.length)).data.toList = (c :: l).take (l.length + 1 - r2.length) := by rw [extract_to, htl, hts, hlen]
        simp only
        unfold text_Unquote.f
        rw [if_pos (by rw [ByteArray.size_extract]; omega), hux, show (s.extract a s.size).size - r2.length = l.length + 1 - r2.length by omega]
        cases hu : unquote ((c :: l).take (l.length + 1 - r2.length)) with
        | none => rfl
        | some b =>
          simp only [Option.bind_some]
          rw [nums_bl]
    · rw [if_neg hq, if_neg (by omega)]
      simp only [lex_cursor_literal.j0]
      rw [if_pos (by simp; omega)]
  have hsg : lex_cursor_sign.f s (a : Int) = some (4, 0, ⟨#[c]⟩, 0, 1, 0, isSign c, s, (a : Int)) := by
    have h1s : ((s.extract a s.size).extract 0 1) = ⟨#[c]⟩ := by
      apply ByteArray.ext
      apply Array.ext'
      rw [extract_to, htl]
      rfl
    unfold lex_cursor_sign.f
    rw [hle]
    simp only [Option.bind_some]
    rw [if_pos (by decide), if_pos (by omega), h1s]
    unfold strings_Contains.f
    rw [if_pos (by decide)]
    simp only [Option.bind_some]
    rw [sign_idx]
  have next : ∀ (f : ByteArray → Int → Option R9), orRead (some (0, 0, (⟨#[]⟩ : ByteArray), 0, 0, 0, false, s, (a : Int))) f = f s (a : Int) := fun _ => rfl
  have this_ : ∀ (x : R9) (f : ByteArray → Int → Option R9), x.is = true → orRead (some x) f = some x := fun x f h => by simp only [orRead, Option.bind_some]; rw [if_pos h]
  rw [next]
  by_cases h2 : isDigit c = true
  · rw [if_pos h2] at hnu ⊢
    cases hn : numIs ((c :: l).takeWhile isAl) with
    | ok n =>
      rw [hn] at hnu
      rw [hnu]
      exact ⟨_, this_ _ _ rfl, rfl, rfl, rfl, rfl, rfl, rfl, rfl, by show (((c :: l).takeWhile isAl).length : Int) = _; omega⟩
    | word =>
      rw [hn] at hnu
      rw [hnu]
      exact ⟨_, this_ _ _ rfl, .inl ⟨rfl, rfl, by decide⟩, rfl⟩
    | range =>
      rw [hn] at hnu
      rw [hnu]
      exact ⟨_, this_ _ _ rfl, .inl ⟨rfl, rfl, by decide⟩, rfl⟩
  rw [if_neg h2] at hnu ⊢
  rw [hnu, next]
  by_cases h3 : c.toNat = 34 ∨ c.toNat = 39
  · rw [if_pos h3] at hli ⊢
    cases hl : litL c l with
    | none =>
      rw [hl] at hli
      rw [hli]
      exact ⟨_, this_ _ _ rfl, .inl ⟨rfl, rfl, by decide⟩, rfl⟩
    | some r2 =>
      rw [hl] at hli
      simp only at hli ⊢
      cases hu : unquote ((c :: l).take (l.length + 1 - r2.length)) with
      | none =>
        rw [hu] at hli
        rw [hli]
        exact ⟨_, this_ _ _ rfl, .inl ⟨rfl, rfl, by decide⟩, rfl⟩
      | some b =>
        rw [hu] at hli
        rw [hli]
        exact ⟨_, this_ _ _ rfl, rfl, rfl, rfl, rfl, rfl, rfl, rfl, rfl⟩
  rw [if_neg h3] at hli ⊢
  rw [hli, next, hsg]
  by_cases h4 : isSign c = true
  · rw [if_pos h4]
    exact ⟨_, rfl, h4, rfl, rfl, rfl, rfl, rfl, rfl, by show (1 : Int) = _; simp⟩
  · rw [if_neg h4]
    exact ⟨_, rfl, .inr ⟨by simpa [R9.is] using h4, rfl⟩, rfl⟩
def tk (x : Tk) : S33 := ⟨(x.k : Int), (x.at_ : Int), ⟨x.t.toArray⟩, (x.n : Int)⟩
def ofRes : Res → List S33 × Int × Int
  | .ok ts => (ts.map tk, 0, 0)
  | .bad a e => ([], (a : Int), (e : Int))
theorem wordsL_eq (K : Nat) (s : ByteArray) (hs : s.size ≤ 65536) (hK : 2 * s.size + 5 ≤ K) : ∀ (k a : Nat) (acc : List S33) (x : Res), a ≤ s.size → s.size - a < k → Lexed s.size (s.data.toList.drop a) x →
    wordsL K s k s (a : Int) acc = some (match x with | .ok ts => (acc ++ ts.map tk, 0, 0) | .bad p e => ([], (p : Int), (e : Int))) := by
  have hL : s.data.toList.length = s.size := (Lib.size_eq s).symm
  intro k
  induction k with
  | zero => intro a acc x _ h; omega
  | succ k ih =>
    intro a acc x ha hk hx
    have hbl : ∀ r b, skipL (s.data.toList.drop a).length (s.data.toList.drop a) = (r, b) → lex_cursor_blanks.f K s (a : Int) = some (b, s, ((s.size - r.length : Nat) : Int)) := by
      intro r b h
      refine blanks_eq s hs K a ha (by omega) r b ?_
      rw [← h]
      exact skipL_fuel _ _ _ (by rw [List.length_drop, hL]; omega) (Nat.le_refl _)
    have hpl : ∀ r b, skipL (s.data.toList.drop a).length (s.data.toList.drop a) = (r, b) → s.data.toList.drop (s.size - r.length) = r ∧ r.length ≤ s.size - a := by
      intro r b h
      have h1 := skipL_suf _ _ _ _ h
      have h2 := h1.length_le
      rw [List.length_drop, hL] at h2
      have h3 := h1.trans (List.drop_suffix _ _)
      refine ⟨?_, h2⟩
      have := List.suffix_iff_eq_drop.1 h3
      rw [hL] at this
      exact this.symm
    unfold wordsL
    cases hx with
    | open_ h =>
      rw [hbl _ _ h]
      simp only [Option.bind_some]
      rw [if_neg (by simp)]
      rfl
    | end_ h =>
      rw [hbl _ _ h]
      simp only [Option.bind_some]
      rw [if_pos trivial, if_pos (by simp)]
      rfl
    | @bad _ r e h hr ht =>
      have hp := hpl _ _ h
      cases r with
      | nil => exact absurd rfl hr
      | cons c l =>
        have hrd := read_eq K s hs _ c l hp.1 hK
        unfold Read at hrd
        rw [ht] at hrd
        obtain ⟨x, hx, h1, h2⟩ := hrd
        rw [hbl _ _ h]
        simp only [Option.bind_some]
        have hp2 := hp.2
        simp only [List.length_cons] at hp2
        rw [if_pos trivial, if_neg (by simp only [List.length_cons]; omega), hx]
        simp only [Option.bind_some]
        rcases h1 with ⟨h1, h3, h4⟩ | ⟨h1, h3⟩
        · rw [if_pos h1, if_neg (by omega), h2, h3]
        · rw [if_neg (by simp [h1]), h2, h3]
          rfl
    | @word _ r kd t v r2 x h hr ht hx =>
      have hp := hpl _ _ h
      cases r with
      | nil => exact absurd rfl hr
      | cons c l =>
        have hrd := read_eq K s hs _ c l hp.1 hK
        unfold Read at hrd
        rw [ht] at hrd
        obtain ⟨y, hy, h1, h2, h3, h4, h5, h6, h7, h8⟩ := hrd
        have ht1 := tokL_suf ht
        have ht2 := tokL_len _ _ _ _ _ ht
        rw [hbl _ _ h]
        simp only [Option.bind_some]
        have hp2 := hp.2
        simp only [List.length_cons] at hp2 ht2 h8
        rw [if_pos trivial, if_neg (by simp only [List.length_cons]; omega), hy]
        simp only [Option.bind_some]
        have hdr : s.data.toList.drop (s.size - r2.length) = r2 := by
          have h3 := ht1.trans (hp.1 ▸ List.drop_suffix _ _ : (c :: l) <:+ s.data.toList)
          have := List.suffix_iff_eq_drop.1 h3
          rw [hL] at this
          exact this.symm
        have hw : Aside0 (wrap64 (y.at_ + y.long) = ((s.size - r2.length : Nat) : Int)) := ⟨by
          rw [h7, h8, List.length_cons, w64' _ _ (by omega)]
          rw [show s.size - (l.length + 1) + (l.length + 1 - r2.length) = s.size - r2.length by omega]⟩
        rw [if_pos h1, if_pos h2, h6, hw.out]
        have ih2 := ih (s.size - r2.length) (acc ++ [⟨y.1, y.at_, y.2.2.1, y.2.2.2.1⟩]) x (by omega) (by omega) (by rw [hdr]; exact hx)
        rw [ih2, h3, h4, h5, h7]
        cases x with
        | bad p e => rfl
        | ok ts =>
          simp only [Res.cons, List.map_cons, List.append_assoc, List.cons_append, List.nil_append]
          rfl
theorem words_eq (s : ByteArray) (hs : s.size ≤ 65536) : lex_Words.f s = some (ofRes (lexS s.data.toList)) := by
  have hL : s.data.toList.length = s.size := (Lib.size_eq s).symm
  unfold lex_Words.f
  rw [if_pos hs]
  have h := lexS_lexed s.data.toList
  rw [hL] at h
  rw [show (0 : Int) = ((0 : Nat) : Int) from rfl, wordsL_eq _ s hs (by omega) _ 0 [] (lexS s.data.toList) (by omega) (by omega) (by simpa using h)]
  cases lexS s.data.toList with
  | ok ts => simp [ofRes]
  | bad p e => rfl
end Go.Proofs.YtihidbjffclfkaaGreatDoor.PLex
