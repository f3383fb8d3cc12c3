/- Part of the proof: what it uses of HOdd. -/
import Derived.Test.YtihidbjffclfkaaDoorVHJoined
import Derived.Test.YtihidbjffclfkaaDoorVHLexOdd
namespace Go.Proofs.YtihidbjffclfkaaDoor.PLex
open Go.RowKit Go.Maps Go.Proofs.YtihidbjffclfkaaDoorW.PrintWords Go.Proofs.YtihidbjffclfkaaDoorW.PrintLast Go.Proofs.YtihidbjffclfkaaDoorW.PrintMore Go.Proofs.YtihidbjffclfkaaDoor.Lx
set_option linter.unusedVariables false
set_option linter.unusedSimpArgs false
theorem bad_num (a : List UInt8) (c : UInt8) (r : List UInt8) (e : Nat) (ha : a = c :: r) (h1 : isLetter c = false) (h2 : isDigit c = true) (h3 : ∀ x ∈ a, isAl x = true) (hn : (numIs a = .word ∧ e = 30) ∨ (numIs a = .range ∧ e = 9)) (z : List UInt8) : tokL (a ++ 10 :: z) = .bad e := by
  have ht := tw_stop a (10 :: z) h3 (stop_blank 10 (by decide) z)
  subst ha
  rw [List.cons_append] at ht ⊢
  simp only [tokL]
  rw [if_neg (by simp [h1]), if_pos h2, ht.1]
  rcases hn with ⟨hn, rfl⟩ | ⟨hn, rfl⟩ <;> rw [hn]
theorem bad_one (c : UInt8) (h1 : isLetter c = false) (h2 : isDigit c = false) (h3 : ¬ (c.toNat = 34 ∨ c.toNat = 39)) (h4 : isSign c = false) (z : List UInt8) : tokL ([c] ++ 10 :: z) = .bad 30 := by
  simp only [List.cons_append, List.nil_append, tokL]
  rw [if_neg (by simp [h1]), if_neg (by simp [h2]), if_neg h3, if_neg (by simp [h4])]
theorem skip_odd (c : UInt8) (r z : List UInt8) (h : isBlank c = false) (h2 : ¬ (c.toNat = 47 ∧ (r ++ 10 :: z).head?.map (·.toNat) = some 47)) (h3 : ¬ (c.toNat = 47 ∧ (r ++ 10 :: z).head?.map (·.toNat) = some 42)) (k : Nat) : skipL (k + 2) (10 :: (c :: r ++ 10 :: z)) = (c :: r ++ 10 :: z, true) := by
  unfold skipL
  rw [if_pos (by decide)]
  simp only [List.cons_append]
  unfold skipL
  rw [if_neg (by simp [h]), if_neg h2, if_neg h3]
def oddB (n : Nat) : List UInt8 := (rdOf ByteArray.empty oddL (n : Int)).data.toList
def errOf (n : Nat) : Nat := if n = 23 ∨ n = 24 then 9 else if n = 25 ∨ n = 26 then 21 else 30
theorem odd_one : ∀ n : Fin 18, ∃ c, oddB n.1 = [c] ∧ isLetter c = false ∧ isDigit c = false ∧ ¬ (c.toNat = 34 ∨ c.toNat = 39) ∧ isSign c = false ∧ errOf n.1 = 30 := by
  have h : ∀ n : Fin 18, oddB n.1 = [(oddB n.1).headD 0] ∧ isLetter ((oddB n.1).headD 0) = false ∧ isDigit ((oddB n.1).headD 0) = false ∧ ¬ (((oddB n.1).headD 0).toNat = 34 ∨ ((oddB n.1).headD 0).toNat = 39) ∧ isSign ((oddB n.1).headD 0) = false ∧ errOf n.1 = 30 := by decide +kernel
  exact fun n => ⟨_, h n⟩
theorem odd_tok (n : Nat) (hn : n < 27) (z : List UInt8) : tokL (oddB n ++ 10 :: z) = .bad (errOf n) := by
  by_cases h18 : n < 18
  · obtain ⟨c, h1, h2, h3, h4, h5, h6⟩ := odd_one ⟨n, h18⟩
    simp only at h1 h6
    rw [h1, h6]
    exact bad_one c h2 h3 h4 h5 z
  · have : n = 18 ∨ n = 19 ∨ n = 20 ∨ n = 21 ∨ n = 22 ∨ n = 23 ∨ n = 24 ∨ n = 25 ∨ n = 26 := by omega
    rcases this with rfl | rfl | rfl | rfl | rfl | rfl | rfl | rfl | rfl
    · exact bad_num (oddB 18) 48 [57] 30 rfl (by decide) (by decide) (by decide) (.inl ⟨by rfl, rfl⟩) z
    · exact bad_num (oddB 19) 48 [120] 30 rfl (by decide) (by decide) (by decide) (.inl ⟨by rfl, rfl⟩) z
    · exact bad_num (oddB 20) 48 [120, 103] 30 rfl (by decide) (by decide) (by decide) (.inl ⟨by rfl, rfl⟩) z
    · exact bad_num (oddB 21) 55 [97] 30 rfl (by decide) (by decide) (by decide) (.inl ⟨by rfl, rfl⟩) z
    · have ht := tw_stop (oddB 22) (10 :: z) (by decide +kernel) (stop_blank 10 (by decide) z)
      have e : oddB 22 = 97 :: (oddB 22).tail := by decide +kernel
      have hl : (oddB 22).length = 33 := by decide +kernel
      have e2 : oddB 22 ++ 10 :: z = 97 :: ((oddB 22).tail ++ 10 :: z) := (congrArg (· ++ 10 :: z) e).trans rfl
      rw [e2] at ht ⊢
      simp only [tokL]
      rw [if_pos (by decide), ht.1, if_pos (by omega)]
      rfl
    · exact bad_num (oddB 23) 50 [49, 52, 55, 52, 56, 51, 54, 52, 57] 9 rfl (by decide) (by decide) (by decide) (.inr ⟨by rfl, rfl⟩) z
    · exact bad_num (oddB 24) 48 [50, 48, 48, 48, 48, 48, 48, 48, 48, 48, 49] 9 rfl (by decide) (by decide) (by decide) (.inr ⟨by rfl, rfl⟩) z
    · have e : oddB 25 ++ 10 :: z = 39 :: 97 :: 10 :: z := rfl
      rw [e]
      simp only [tokL]
      rw [if_neg (by decide), if_neg (by decide), if_pos (.inr (by decide)), litL_cons, if_neg (by decide), if_neg (by decide), if_neg (by decide), litL_cons, if_neg (by decide), if_pos (by decide)]
      rfl
    · have e : oddB 26 ++ 10 :: z = 34 :: 92 :: 113 :: 34 :: 10 :: z := rfl
      have hl : litL 34 (92 :: 113 :: 34 :: 10 :: z) = some (10 :: z) := by
        rw [litL_cons, if_neg (by decide), if_neg (by decide), if_pos (by decide)]
        simp only
        rw [if_neg (by decide), litL_cons, if_pos rfl]
      have ht : (34 :: 92 :: 113 :: 34 :: 10 :: z).take ((92 :: 113 :: 34 :: 10 :: z).length + 1 - (10 :: z).length) = [34, 92, 113, 34] := by
        have : (92 :: 113 :: 34 :: 10 :: z).length + 1 - (10 :: z).length = 4 := by simp only [List.length_cons]; omega
        rw [this]
        rfl
      rw [e]
      simp only [tokL]
      rw [if_neg (by decide), if_neg (by decide), if_pos (.inl (by decide)), hl]
      simp only
      rw [ht]
      rfl
theorem odd_head : ∀ n : Fin 28, ∃ c r, oddB n.1 = c :: r ∧ isBlank c = false ∧ (n.1 ≠ 27 → ¬ (c.toNat = 47 ∧ r ≠ [])) := by
  have h : ∀ n : Fin 28, oddB n.1 = (oddB n.1).headD 0 :: (oddB n.1).tail ∧ isBlank ((oddB n.1).headD 0) = false ∧ (n.1 ≠ 27 → ¬ (((oddB n.1).headD 0).toNat = 47 ∧ (oddB n.1).tail ≠ [])) := by decide +kernel
  exact fun n => ⟨_, _, h n⟩
theorem odd_lexed (n : Nat) (hn : n < 27) (N : Nat) (z : List UInt8) : Lexed N (10 :: (oddB n ++ 10 :: z)) (.bad (N - (oddB n ++ 10 :: z).length) (errOf n)) := by
  obtain ⟨c, r, h1, h2, h3⟩ := odd_head ⟨n, by omega⟩
  simp only at h1 h3
  have h4 := h3 (by omega)
  have hs : skipL (10 :: (oddB n ++ 10 :: z)).length (10 :: (oddB n ++ 10 :: z)) = (oddB n ++ 10 :: z, true) := by
    rw [h1]
    have hk : ∃ k, (10 :: (c :: r ++ 10 :: z)).length = k + 2 := ⟨(r ++ 10 :: z).length, by simp⟩
    obtain ⟨k, hk⟩ := hk
    rw [hk]
    refine skip_odd c r z h2 ?_ ?_ k
    all_goals
      rintro ⟨g1, g2⟩
      cases r with
      | nil => simp at g2
      | cons a b => exact h4 ⟨g1, by simp⟩
  refine .bad hs ?_ (odd_tok n hn z)
  rw [h1]
  simp
theorem rem_contains (l : List UInt8) (h : remL l ≠ none) : ∀ p : List UInt8, Lib.contains (p ++ l) [42, 47] = true
  | [] => by
    unfold Lib.contains
    rcases rem_idx l with ⟨_, h2⟩ | ⟨m, h1, _, _⟩
    · exact absurd h2 h
    · rw [List.nil_append, h1]
      exact decide_eq_true (by omega)
  | c :: p => by
    have ih := rem_contains l h p
    unfold Lib.contains at ih ⊢
    have ih2 := of_decide_eq_true ih
    refine decide_eq_true ?_
    rw [List.cons_append]
    unfold Lib.index
    split
    · omega
    · split
      · rename_i hx
        simp only [beq_iff_eq] at hx
        omega
      · omega
theorem LexOdd_walk (l : List S56) (hb : ∀ x ∈ l, ∃ b, x.f2 = bl b) (A0 : Option Addr) (c0 : Nat) (at_ wh : Int) (w : World) (hr0 : Kd.C k56 w A0 l.length l) (hc0 : l.length ≤ c0) (hg : GV w) :
    Calls Tryd.prog 7 #[.slice A0 l.length c0, .int .i64 at_, .int .i64 wh] w fun e w' => e = .returned (.bool true) ∧ Below w.heap.size w w' := by
  obtain ⟨m, hm⟩ : ∃ m : Nat, m = min l.length 40 := ⟨_, rfl⟩
  have hm2 : (if (40 : Int) < (l.length : Int) then (40 : Int) else (l.length : Int)) = (m : Int) := by rw [hm]; split <;> omega
  have hml : m ≤ l.length := by omega
  have hlm : (l.take m).length = m := by rw [List.length_take]; omega
  have hC : Kd.C k56 w A0 m (l.take m) := by
    have := Kd.C_take hr0 hml
    rw [hlm] at this
    exact this
  obtain ⟨ws, r1, r2, r3⟩ := row_good (l.take m) (fun x hx => hb x (List.mem_of_mem_take hx))
  obtain ⟨k, k1, k2⟩ := bring_nat at_ (ws.length + 1) (by omega) (by omega)
  obtain ⟨n, n1, n2⟩ := bring_nat wh 28 (by decide) (by decide)
  have k1' : signetryref00_Bring.f at_ ((ws.length : Int) + 1) = some (k : Int) := k1
  have n1' : signetryref00_Bring.f wh 28 = some (n : Int) := n1
  have g1 : Goods (ws.take k) := fun x hx => r3 x (List.mem_of_mem_take hx)
  have g2 : Goods (ws.drop k) := fun x hx => r3 x (List.mem_of_mem_drop hx)
  have l1 : (ws.take k).length ≤ 60 := by rw [List.length_take]; omega
  have l2 : (ws.drop k).length ≤ 60 := by rw [List.length_drop]; omega
  have j1 := join_text (ws.take k) g1 l1
  have j2 := join_text (ws.drop k) g2 l2
  have t1 := text_len (ws.take k) g1
  have t2 := text_len (ws.drop k) g2
  obtain ⟨sx, hsx⟩ : ∃ sx : ByteArray, sx = ⟨(text (ws.take k)).toArray⟩ := ⟨_, rfl⟩
  obtain ⟨tx, htx⟩ : ∃ tx : ByteArray, tx = ⟨(text (ws.drop k)).toArray⟩ := ⟨_, rfl⟩
  have hsl : sx.size = (text (ws.take k)).length := by rw [hsx]; simp [ByteArray.size]
  have htl : tx.size = (text (ws.drop k)).length := by rw [htx]; simp [ByteArray.size]
  have hsd : sx.data.toList = text (ws.take k) := by rw [hsx]
  have htd : tx.data.toList = text (ws.drop k) := by rw [htx]
  rw [← hsx] at j1
  rw [← htx] at j2
  obtain ⟨od, hod⟩ : ∃ od, rdOf ByteArray.empty oddL (n : Int) = od := ⟨_, rfl⟩
  have hob : oddB n = od.data.toList := by unfold oddB; rw [hod]
  have hos : od.size ≤ 100 := by
    have h : ∀ n : Fin 28, (rdOf ByteArray.empty oddL ((n.1 : Nat) : Int)).size ≤ 100 := by decide +kernel
    have := h ⟨n, n2⟩
    rw [← hod]
    exact this
  obtain ⟨T, hT⟩ : ∃ T : ByteArray, (((sx ++ ⟨#[10]⟩) ++ od) ++ ⟨#[10]⟩) ++ tx = T := ⟨_, rfl⟩
  have hTd : T.data.toList = text (ws.take k) ++ 10 :: (oddB n ++ 10 :: text (ws.drop k)) := by
    rw [← hT, hob, ← hsd, ← htd]
    simp [ByteArray.data_append]
  have hTs : T.size = sx.size + 1 + od.size + 1 + tx.size := by
    rw [← hT]
    simp only [ByteArray.size_append]
    rfl
  have hwd := words_eq T (by omega)
  have hod' := hod
  have hz : Stop (10 :: (oddB n ++ 10 :: text (ws.drop k))) := stop_blank 10 (by decide) _
  have hrow : Row (ws.take k) T.data.toList (10 :: (oddB n ++ 10 :: text (ws.drop k))) := by
    rw [hTd]
    by_cases hne : ws.take k = []
    · rw [hne]
      exact Row.nil
    · have := row_text _ hz (ws.take k) g1 pad_nil hne
      rw [List.nil_append] at this
      exact this
  have hlenT : T.data.toList.length = T.size := (Lib.size_eq T).symm
  by_cases h27 : n = 27
  · subst h27
    have e27 : oddB 27 = 47 :: 42 :: [32, 97] := rfl
    cases hr : remL ([32, 97] ++ 10 :: text (ws.drop k)) with
    | none =>
      have hs : skipL (10 :: (oddB 27 ++ 10 :: text (ws.drop k))).length (10 :: (oddB 27 ++ 10 :: text (ws.drop k))) = (oddB 27 ++ 10 :: text (ws.drop k), false) := by
        rw [e27]
        simp only [List.cons_append, List.length_cons]
        unfold skipL
        rw [if_pos (by decide)]
        unfold skipL
        rw [if_neg (by decide), if_neg (by intro h; have := h.2; simp at this), if_pos ⟨by decide, rfl⟩]
        simp only [List.drop_succ_cons, List.drop_zero]
        simp only [List.cons_append] at hr
        rw [hr]
      obtain ⟨us, _, _, h3⟩ := hrow.lexed T.data.toList.length _ (.open_ hs)
      rw [h3.lexS] at hwd
      have hpl : T.data.toList.length - (oddB 27 ++ 10 :: text (ws.drop k)).length = sx.size + 1 := by
        rw [hTd, hsl]
        simp only [List.length_append, List.length_cons]
        omega
      have hw2 : lex_Words.f T = some ([], (sx.size : Int) + 1, 30) := by
        rw [hwd]
        simp only [Res.app, ofRes]
        rw [hpl]
        rfl
      exact LexOdd_E27a l A0 c0 at_ wh w m hm2 hml hlm hC (by omega) hg 200 ws r2 r1 k (by omega) k1' n1' sx tx od T j1 j2 hod hT (by omega) (by omega) hos [] hw2
    | some q =>
      have hcon : strings_Contains.f (T.extract (sx.size + 1) T.size) ⟨#[42, 47]⟩ = some true := by
        unfold strings_Contains.f
        rw [if_pos (by rw [ByteArray.size_extract]; omega)]
        refine congrArg some ?_
        have : (T.extract (sx.size + 1) T.size).data.toList = [47, 42] ++ ([32, 97] ++ 10 :: text (ws.drop k)) := by
          rw [extract_drop, hTd, hsl, ← List.drop_drop, List.drop_left, e27]
          rfl
        rw [this]
        exact rem_contains _ (by rw [hr]; simp) _
      obtain ⟨⟨out, pl, er⟩, hres⟩ : ∃ r, r = ofRes (lexS T.data.toList) := ⟨_, rfl⟩
      rw [← hres] at hwd
      by_cases he : er = 30
      · subst he
        by_cases hp : pl = (sx.size : Int) + 1
        · subst hp
          exact LexOdd_E27a l A0 c0 at_ wh w m hm2 hml hlm hC (by omega) hg 200 ws r2 r1 k (by omega) k1' n1' sx tx od T j1 j2 hod hT (by omega) (by omega) hos out hwd
        · exact LexOdd_E27b l A0 c0 at_ wh w m hm2 hml hlm hC (by omega) hg 200 ws r2 r1 k (by omega) k1' n1' sx tx od T j1 j2 hod hT (by omega) (by omega) hos out pl hp hcon hwd
      · exact LexOdd_E27c l A0 c0 at_ wh w m hm2 hml hlm hC (by omega) hg 200 ws r2 r1 k (by omega) k1' n1' sx tx od T j1 j2 hod hT (by omega) (by omega) hos out pl er he hcon hwd
  · obtain ⟨us, _, _, h3⟩ := hrow.lexed T.data.toList.length _ (odd_lexed n (by omega) T.data.toList.length (text (ws.drop k)))
    rw [h3.lexS] at hwd
    have hpl : T.data.toList.length - (oddB n ++ 10 :: text (ws.drop k)).length = sx.size + 1 := by
      rw [hTd, hsl]
      simp only [List.length_append, List.length_cons]
      omega
    have hw2 : ∀ e : Nat, errOf n = e → lex_Words.f T = some ([], (sx.size : Int) + 1, (e : Int)) := by
      intro e he
      rw [hwd]
      simp only [Res.app, ofRes]
      rw [hpl, he]
      rfl
    clear hwd h3 hrow hz hTd hpl hlenT hTs
    by_cases h23 : n = 23
    · have hw3 := hw2 9 (by rw [h23]; rfl)
      clear hw2
      subst h23
      exact LexOdd_E23 l A0 c0 at_ wh w m hm2 hml hlm hC (by omega) hg 200 ws r2 r1 k (by omega) k1' n1' sx tx od T j1 j2 hod hT (by omega) (by omega) hos hw3
    by_cases h24 : n = 24
    · have hw3 := hw2 9 (by rw [h24]; rfl)
      clear hw2
      subst h24
      exact LexOdd_E24 l A0 c0 at_ wh w m hm2 hml hlm hC (by omega) hg 200 ws r2 r1 k (by omega) k1' n1' sx tx od T j1 j2 hod hT (by omega) (by omega) hos hw3
    by_cases h25 : n = 25
    · have hw3 := hw2 21 (by rw [h25]; rfl)
      clear hw2
      subst h25
      exact LexOdd_E25 l A0 c0 at_ wh w m hm2 hml hlm hC (by omega) hg 200 ws r2 r1 k (by omega) k1' n1' sx tx od T j1 j2 hod hT (by omega) (by omega) hos hw3
    by_cases h26 : n = 26
    · have hw3 := hw2 21 (by rw [h26]; rfl)
      clear hw2
      subst h26
      exact LexOdd_E26 l A0 c0 at_ wh w m hm2 hml hlm hC (by omega) hg 200 ws r2 r1 k (by omega) k1' n1' sx tx od T j1 j2 hod hT (by omega) (by omega) hos hw3
    have her : errOf n = 30 := by unfold errOf; rw [if_neg (by omega), if_neg (by omega)]
    have hw3 := hw2 30 her
    exact LexOdd_E0 l A0 c0 at_ wh w m hm2 hml hlm hC (by omega) hg 200 ws r2 r1 k n (by omega) n2 h23 h24 h25 h26 h27 k1' n1' sx tx od T j1 j2 hod hT (by omega) (by omega) hos hw3
end Go.Proofs.YtihidbjffclfkaaDoor.PLex
