/- Part of the proof: what it uses of HR5. -/
import Derived.Test.YtihidbjffclfkaaGreatDoorBHR4
import Derived.Test.YtihidbjffclfkaaGreatDoorBPLexL1
namespace Go.Proofs.YtihidbjffclfkaaGreatDoor.PLex
open Go.RowKit Go.Maps Go.Proofs.YtihidbjffclfkaaGreatDoorW.PrintWords Go.Proofs.YtihidbjffclfkaaGreatDoorW.PrintLast Go.Proofs.YtihidbjffclfkaaGreatDoorW.PrintMore Go.Proofs.YtihidbjffclfkaaGreatDoor.Lx
set_option linter.unusedVariables false
set_option linter.unusedSimpArgs false
theorem resc_loop (s : ByteArray) (hs : s.size ≤ 65536) (p : Nat) (c : UInt8) (r : List UInt8) (hd : s.data.toList.drop p = c :: r) : ∀ (d j K : Nat), j + d = 11 → (∀ i : Nat, i < j → ¬ (c.toNat : Int) = bt tab1 (i : Int)) → 41 + d ≤ K →
    signetryref02_escape.l0 K s (p : Int) (c.toNat : Int) (j : Int) = rEsc (spell (c :: r))
  | 0, j, K, h, hno, hK => by
    obtain ⟨K, rfl⟩ : ∃ m, K = m + 1 := ⟨K - 1, by omega⟩
    simp only [signetryref02_escape.l0]
    rw [if_neg (by omega)]
    exact resc_rest s hs p c r hd (resc_no c (fun i hi => hno i (by omega))) K (by omega)
  | d + 1, j, K, h, hno, hK => by
    obtain ⟨K, rfl⟩ : ∃ m, K = m + 1 := ⟨K - 1, by omega⟩
    have hj : j < 11 := by omega
    simp only [signetryref02_escape.l0]
    rw [if_pos (by omega), if_pos (by omega)]
    change (if (c.toNat : Int) = bt tab1 (j : Int) then _ else _) = _
    by_cases hc : (c.toNat : Int) = bt tab1 (j : Int)
    · obtain ⟨h1, b, h2, h3⟩ := resc_at c j hj hc
      rw [if_pos hc, Option.bind_some, if_pos (by show (j : Int) < ((11 : Nat) : Int); omega), h2]
      rw [h2, Int.toNat_natCast] at h1
      simp only [spell, h1, rEsc]
      unfold bl
      simp only [List.map_cons, List.map_nil]
      rw [UInt8.toNat_ofNat']
      rw [Nat.mod_eq_of_lt h3]
      rfl
    · rw [if_neg hc, w1_ j (by omega)]
      exact resc_loop s hs p c r hd d (j + 1) K (by omega) (fun i hi => by
        by_cases hij : i = j
        · rw [hij]; exact hc
        · exact hno i (by omega)) (by omega)
theorem rescape (s : ByteArray) (hs : s.size ≤ 65536) (p : Nat) (hp : p < s.size) (K : Nat) (hK : 60 ≤ K) : signetryref02_escape.f K s (p : Int) = rEsc (spell (s.data.toList.drop p)) := by
  obtain ⟨c, l, h1, h2, _, _⟩ := drop_parts s p hp
  unfold signetryref02_escape.f
  rw [if_pos (by omega), if_pos (by omega), h2, h1]
  exact resc_loop s hs p c l h1 11 0 K (by omega) (fun i hi => by omega) (by omega)
def rUnq : Option (List UInt8) → Option (List Int × Int)
  | some b => some (bl b, 0)
  | none => some ([], 21)
theorem runq (s : ByteArray) (hs : s.size ≤ 65536) (q : UInt8) (r0 : List UInt8) (h0 : s.data.toList = q :: r0) : ∀ (n K p k : Nat) (acc : List UInt8), s.size - p ≤ n → 1 ≤ p → p ≤ s.size → 62 * n + 70 ≤ K → s.size - p < k → acc.length + 4 * n ≤ 1000000 →
    signetryref02_Unquote.l0 K s (bl acc) (p : Int) = rUnq ((unq q k (s.data.toList.drop p)).map (acc ++ ·)) := by
  have hL : s.data.toList.length = s.size := (Lib.size_eq s).symm
  have hb0 := Aside0.mk (bt_head h0)
  intro n
  induction n using Nat.strongRecOn with
  | _ n ih =>
    intro K p k acc hn hp1 hp hK hk hacc
    obtain ⟨K, rfl⟩ : ∃ m, K = m + 2 := ⟨K - 2, by omega⟩
    obtain ⟨k, rfl⟩ : ∃ m, k = m + 1 := ⟨k - 1, by omega⟩
    have hs1 : wrap64 ((s.size : Int) - 1) = (s.size : Int) - 1 := IntWalk.wrap64_in _ (by omega)
    have HS1 := Aside0.mk hs1
    clear hs1
    by_cases h : p < s.size
    · obtain ⟨c, l, h1, h2, h3, h4⟩ := drop_parts s p h
      have H2 := Aside0.mk h2
      clear h2
      have hj : signetryref02_Unquote.l0 (K + 2) s (bl acc) (p : Int) = signetryref02_Unquote.j2 (K + 1) s (bl acc) (p : Int) (decide (c ≠ q)) := by
        simp only [signetryref02_Unquote.l0]
        rw [if_pos (by omega), if_pos (by omega), if_pos (by omega), H2.out, hb0.out]
        congr 1
        by_cases hc : c = q
        · rw [hc, decide_eq_false (by simp)]
          simp
        · rw [decide_eq_true hc]
          exact bne_iff_ne.2 (fun h => hc (UInt8.toNat_inj.1 (by omega)))
      rw [hj, h1]
      simp only [unq, signetryref02_Unquote.j2]
      by_cases hc : c = q
      · rw [if_neg (by simp [hc]), if_pos hc, HS1.out]
        by_cases hl : l = []
        · subst hl
          simp only [List.length_nil] at h4
          rw [if_pos (by omega), if_pos rfl]
          simp [rUnq]
        · have : 0 < l.length := List.length_pos_iff.2 hl
          rw [if_neg (by omega), if_neg hl]
          rfl
      · rw [if_pos (by simp [hc]), if_neg hc, if_pos (by omega), if_pos (by omega), H2.out]
        by_cases h32 : c.toNat < 32
        · rw [if_pos (by omega), if_pos h32]
          rfl
        · rw [if_neg (by omega), if_neg h32]
          by_cases h92 : c.toNat = 92
          · rw [if_pos (by omega), if_pos h92, w1_ p (by omega)]
            by_cases hend : p + 1 = s.size
            · rw [if_pos (by omega)]
              have : l = [] := List.length_eq_zero_iff.1 (by omega)
              subst this
              rfl
            · rw [if_neg (by omega), rescape s hs (p + 1) (by omega) _ (by omega), h3]
              cases hsp : spell l with
              | none =>
                simp only [rEsc]
                rw [Option.bind_some, if_pos rfl]
                rfl
              | some x =>
                obtain ⟨bs, m⟩ := x
                have hb := spell_bounds hsp
                simp only [rEsc]
                rw [Option.bind_some, if_neg (by simp only; omega)]
                have e1 : Aside0 (wrap64 (((p + 1 : Nat) : Int) + (m : Int)) = ((p + 1 + m : Nat) : Int)) := ⟨w64' _ _ (by omega)⟩
                have e2 : bl acc ++ bl bs = bl (acc ++ bs) := by simp [bl]
                simp only
                rw [if_pos (by simp only [bl, List.length_map]; omega), e1.out, e2]
                have hdm : s.data.toList.drop (p + 1 + m) = l.drop m := by rw [← h3, List.drop_drop]
                rw [ih (n - 1 - m) (by omega) K (p + 1 + m) k (acc ++ bs) (by omega) (by omega) (by omega) (by omega) (by omega) (by rw [List.length_append]; omega), hdm]
                cases unq q k (l.drop m) with
                | none => rfl
                | some y => simp [Option.map]
          · rw [if_neg (by omega), if_neg h92, if_pos (by simp only [bl, List.length_map]; omega), w1_ p (by omega)]
            have e2 : bl acc ++ [(c.toNat : Int)] = bl (acc ++ [c]) := by simp [bl]
            rw [e2, ih (n - 1) (by omega) K (p + 1) k (acc ++ [c]) (by omega) (by omega) (by omega) (by omega) (by omega) (by rw [List.length_append]; simp only [List.length_singleton]; omega), h3]
            cases unq q k l with
            | none => rfl
            | some y => simp [Option.map]
    · rw [List.drop_eq_nil_of_le (by omega)]
      simp only [signetryref02_Unquote.l0, signetryref02_Unquote.j2, unq]
      rw [if_neg (by omega), if_neg (by simp), HS1.out, if_neg (by omega)]
      rfl
theorem runquote (s : ByteArray) (hs : s.size ≤ 65536) (K : Nat) (hK : 62 * s.size + 80 ≤ K) : signetryref02_Unquote.f K s = rUnq (unquote s.data.toList) := by
  have hsz := Lib.size_eq s
  obtain ⟨K, rfl⟩ : ∃ m, K = m + 1 := ⟨K - 1, by omega⟩
  unfold signetryref02_Unquote.f
  by_cases h2 : s.size < 2
  · rw [if_pos (by omega)]
    simp only [signetryref02_Unquote.j0]
    rw [if_pos trivial]
    match hl : s.data.toList with
    | [] => rfl
    | [a] =>
      simp only [unquote]
      split
      · simp [unq, rUnq]
      · rfl
    | a :: b :: r => rw [hl] at hsz; simp only [List.length_cons] at hsz; omega
  · rw [if_neg (by omega), if_pos (by omega)]
    cases hl : s.data.toList with
    | nil => rw [hl, List.length_nil] at hsz; omega
    | cons q r =>
      rw [hl] at hsz
      simp only [List.length_cons] at hsz
      have hb := Aside0.mk (bt_head hl)
      rw [hb.out]
      have hj : (if (q.toNat : Int) = 34 then signetryref02_Unquote.j0 (K + 1) s false else signetryref02_Unquote.j0 (K + 1) s ((q.toNat : Int) != 39)) = signetryref02_Unquote.j0 (K + 1) s (decide (¬ (q.toNat = 34 ∨ q.toNat = 39))) := by
        by_cases h34 : q.toNat = 34
        · rw [if_pos (by omega), decide_eq_false (by omega)]
        · rw [if_neg (by omega)]
          by_cases h39 : q.toNat = 39
          · rw [h39]; rfl
          · rw [decide_eq_true (by omega), bne_iff_ne.2 (by omega)]
      rw [hj]
      simp only [signetryref02_Unquote.j0, unquote]
      by_cases hq : q.toNat = 34 ∨ q.toNat = 39
      · rw [if_neg (by simp; omega), if_pos hq]
        have := runq s hs q r hl s.size K 1 (r.length + 1) [] (by omega) (by omega) (by omega) (by omega) (by omega) (by simp only [List.length_nil]; omega)
        have e1 : s.data.toList.drop 1 = r := by rw [hl]; rfl
        rw [e1] at this
        refine Eq.trans this ?_
        cases unq q (r.length + 1) r with
        | none => rfl
        | some y => rfl
      · rw [if_pos (by simp; omega), if_neg hq]
        rfl
end Go.Proofs.YtihidbjffclfkaaGreatDoor.PLex
