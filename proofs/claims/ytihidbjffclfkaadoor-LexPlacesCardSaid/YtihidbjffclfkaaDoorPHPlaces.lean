/- Part of the proof: what it uses of HPlaces. -/
import Derived.Test.YtihidbjffclfkaaDoorPHLexPlaces
namespace Go.Proofs.YtihidbjffclfkaaDoor.PLex
open Go.RowKit Go.Maps Go.Proofs.YtihidbjffclfkaaDoorW.PrintWords Go.Proofs.YtihidbjffclfkaaDoorW.PrintLast Go.Proofs.YtihidbjffclfkaaDoorW.PrintMore Go.Proofs.YtihidbjffclfkaaDoor.Lx
set_option linter.unusedVariables false
set_option linter.unusedSimpArgs false
theorem bring_some (a n : Int) (hn : 0 < n) (hm : n ≤ 9223372036854775807) : ∃ b, signetryref00_Bring.f a n = some b ∧ 0 ≤ b ∧ b < n := by
  unfold signetryref00_Bring.f
  rw [if_neg (by omega)]
  have h1 := Int.tmod_lt_of_pos a hn
  have h2 : -n < Int.tmod a n := by
    have := Int.tmod_lt_of_pos (-a) hn
    rw [Int.neg_tmod] at this
    omega
  by_cases h : Int.tmod a n < 0
  · rw [if_pos h, IntWalk.wrap64_in _ (by omega)]
    exact ⟨_, rfl, by omega, by omega⟩
  · rw [if_neg h]
    exact ⟨_, rfl, by omega, by omega⟩
theorem rd_tk (ts : List Tk) (i : Nat) (h : i < ts.length) : rd_T28 (ts.map tk) (i : Int) = tk ts[i] := by
  rw [rdT_get _ i (by simpa using h), List.getElem_map]
theorem LexPlaces_walk (a0 : ByteArray) (a1 : Int) (w : World) (hg : GV w) :
    Calls Tryd.prog 3 #[.string a0, .int .i64 a1] w fun e w' => e = .returned (.bool true) ∧ Below w.heap.size w w' := by
  obtain ⟨m, hm⟩ : ∃ m : Nat, m = min a0.size 2000 := ⟨_, rfl⟩
  have hm2 : (if (2000 : Int) < (a0.size : Int) then (2000 : Int) else (a0.size : Int)) = (m : Int) := by rw [hm]; split <;> omega
  have hm1 : (m : Int) ≤ (a0.size : Int) := by omega
  obtain ⟨L, hL⟩ : ∃ L, L = (a0.extract 0 m).data.toList := ⟨_, rfl⟩
  have hLm : L.length = m := by
    rw [hL, ← Lib.size_eq, ByteArray.size_extract]
    omega
  have hex : ∀ j k, ((a0.extract 0 m).extract j k).data.toList = (L.drop j).take (k - j) := by
    intro j k
    rw [hL, ByteArray.data_extract, Array.toList_extract, List.extract_eq_take_drop]
  have hsz : (a0.extract 0 m).size = m := by rw [Lib.size_eq, ← hL, hLm]
  have hw := words_eq (a0.extract 0 m) (by omega)
  rw [← hL] at hw
  have hx := lexS_lexed L
  cases hres : lexS L with
  | bad p e =>
    rw [hres] at hw hx
    have h1 := hx.bad_ne p e rfl
    have h2 := hx.bad_le p e rfl
    exact LexPlaces_bad a0 a1 w hg m hm2 hm1 p e (by omega) (by omega) hw
  | ok ts =>
    rw [hres] at hw hx
    rw [hLm] at hx
    obtain ⟨⟨y, ys, hy, _⟩, hp⟩ := hx.places ts rfl (by omega)
    have hc := hx.count ts rfl
    have hne : ts.length ≠ 0 := by rw [hy]; simp
    obtain ⟨b, hb, hb0, hb1⟩ := bring_some a1 ((ts.map tk).length : Int) (by rw [List.length_map]; omega) (by rw [List.length_map]; omega)
    obtain ⟨bn, rfl⟩ : ∃ bn : Nat, b = (bn : Int) := ⟨b.toNat, by omega⟩
    have hbn : bn < ts.length := by rw [List.length_map] at hb1; omega
    obtain ⟨a, z, e1, e2, e3, _⟩ := hp bn hbn
    have ha : a.length = m - z.length := by rw [← hLm, e1, List.length_append]; omega
    refine LexPlaces_ok a0 a1 w hg m hm2 hm1 (by omega) (ts.map tk) (by simpa using hne) (by rw [List.length_map]; omega) ?_ hw (bn : Int) hb0 hb1 hb ?_ ((ts.take bn ++ [(⟨0, m - z.length, [], 0⟩ : Tk)]).map tk) ?_ (m - z.length) ?_ (by omega) ?_ ?_
    · obtain ⟨_, z2, _, _, _, h⟩ := hp (ts.length - 1) (by omega)
      rw [List.length_map, show (ts.length : Int) - 1 = ((ts.length - 1 : Nat) : Int) by omega, rd_tk _ _ (by omega)]
      rcases h with ⟨_, _, h⟩ | ⟨_, h⟩
      · rw [h]
        rfl
      · omega
    · intro i hi
      rw [List.length_map] at hi
      obtain ⟨a2, z2, f1, f2, _, h⟩ := hp i (by omega)
      rcases h with ⟨h, _⟩ | ⟨h, _⟩
      · omega
      obtain ⟨r2, h1, h2⟩ := h hi
      obtain ⟨_, z3, g1, g2, _, _⟩ := hp (i + 1) hi
      have hk := tokL_kind h1
      have hzl := tokL_len _ _ _ _ _ h1
      have ha2 : a2.length = m - z2.length := by rw [← hLm, f1, List.length_append]; omega
      have hz2 : z2.length ≤ m := by rw [← hLm, f1, List.length_append]; omega
      have hdr : L.drop (ts[i]'(by omega)).at_ = z2 := by rw [f2, ← ha2, f1]; simp
      rw [rd_tk _ i (by omega), show (i : Int) + 1 = ((i + 1 : Nat) : Int) by omega, rd_tk _ (i + 1) hi]
      by_cases h3 : (ts[i]'(by omega)).k = 3
      · have hs1 : ((a0.extract 0 m).extract (ts[i]'(by omega)).at_ ((ts[i]'(by omega)).at_ + 1)).size = 1 := by
          rw [ByteArray.size_extract, hsz]
          omega
        refine ⟨(ts[i]'(by omega)).at_, (ts[i + 1]).at_, (a0.extract 0 m).extract (ts[i]'(by omega)).at_ ((ts[i]'(by omega)).at_ + 1), rfl, rfl, h2, by omega, ?_, ?_, ?_, ?_, ?_, ?_⟩
        · show ((ts[i]'(by omega)).k : Int) ≠ 0
          omega
        · omega
        · omega
        · rw [hs1]
        · intro _
          exact hs1
        · intro h
          exact absurd (by show ((ts[i]'(by omega)).k : Int) = 3; omega) h
      · obtain ⟨k1, k2⟩ := hk.2 h3
        have htl := congrArg List.length k2
        rw [List.length_append] at htl
        have htp : 0 < (ts[i]'(by omega)).t.length := List.length_pos_iff.2 k1
        have hts : (⟨(ts[i]'(by omega)).t.toArray⟩ : ByteArray).size = (ts[i]'(by omega)).t.length := by simp [ByteArray.size]
        refine ⟨(ts[i]'(by omega)).at_, (ts[i + 1]).at_, ⟨(ts[i]'(by omega)).t.toArray⟩, rfl, rfl, h2, by omega, ?_, by omega, by omega, ?_, ?_, fun _ => rfl⟩
        · show ((ts[i]'(by omega)).k : Int) ≠ 0
          have := hk.1
          omega
        · apply ByteArray.ext
          apply Array.ext'
          rw [hex, hdr, hts, Nat.add_sub_cancel_left, k2, List.take_left]
        · intro h
          exact absurd (by have h : ((ts[i]'(by omega)).k : Int) = 3 := h; omega) h3
    · rw [List.length_map, List.length_append, List.length_take]
      simp
      omega
    · rw [rd_tk _ bn hbn]
      show ((ts[bn]).at_ : Int) = _
      rw [e2]
    · have hq := words_eq ((a0.extract 0 m).extract 0 (m - z.length)) (by rw [ByteArray.size_extract]; omega)
      have hd : ((a0.extract 0 m).extract 0 (m - z.length)).data.toList = a := by
        rw [hex, ← ha, e1]
        simp
      rw [hd] at hq
      have h3 := e3
      rw [← ha] at h3
      rw [hq, h3.lexS, ha]
      rfl
    · intro i h0 h1
      obtain ⟨i, rfl⟩ : ∃ k : Nat, i = (k : Int) := ⟨i.toNat, by omega⟩
      have hib : i < bn := by omega
      rw [rd_tk _ i (by rw [List.length_append, List.length_take]; omega), rd_tk _ i (by omega), List.getElem_append_left (by rw [List.length_take]; omega), List.getElem_take]
end Go.Proofs.YtihidbjffclfkaaDoor.PLex
