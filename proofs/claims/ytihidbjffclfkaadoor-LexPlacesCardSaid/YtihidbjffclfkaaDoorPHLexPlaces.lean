/- Part of the proof: what it uses of HLexPlaces. -/
import Derived.Test.YtihidbjffclfkaaDoorPHEq3
import Derived.Test.YtihidbjffclfkaaDoorPHJoin
import Derived.Test.YtihidbjffclfkaaDoorPHWorks
namespace Go.Proofs.YtihidbjffclfkaaDoor.PLex
open Go.RowKit Go.Maps Go.Proofs.YtihidbjffclfkaaDoorW.PrintWords Go.Proofs.YtihidbjffclfkaaDoorW.PrintLast Go.Proofs.YtihidbjffclfkaaDoorW.PrintMore Go.Proofs.YtihidbjffclfkaaDoor.Lx
attribute [local go_sem] max2_int min2_int max_two min_two max_three min_three max_four min_four
set_option linter.unusedVariables false
set_option linter.unusedSimpArgs false
set_option maxRecDepth 100000 in
set_option maxHeartbeats 1600000 in
theorem LexPlaces_bad (a0 : ByteArray) (a1 : Int) (w : World) (hg : GV w) (m : Nat) (hm2 : (if (2000 : Int) < (a0.size : Int) then (2000 : Int) else (a0.size : Int)) = (m : Int)) (hm1 : (m : Int) ≤ (a0.size : Int)) (p e : Nat) (he : (e : Int) ≠ 0) (hp : p ≤ m) (h : lex_Words.f (a0.extract 0 m) = some ([], (p : Int), (e : Int))) :
    Calls Tryd.prog 3 #[.string a0, .int .i64 a1] w fun e w' => e = .returned (.bool true) ∧ Below w.heap.size w w' := by
  have HG := Aside0.mk hg
  have HB := Aside0.mk (Below.refl w.heap.size w)
  have hm0 : (0 : Int) ≤ (m : Int) := by omega
  have A6 := Aside0.mk h
  have e0 : ((e : Int) == 0) = false := by simp; omega
  have e1 : ((e : Int) != 0) = true := by simp; omega
  have e2 : decide ((p : Int) ≥ 0) = true := decide_eq_true (by omega)
  have e3 : decide ((p : Int) ≤ (m : Int)) = true := decide_eq_true (by omega)
  have hmm : min m a0.size = m := by omega
  have e4 : (0 : Int) ≤ (p : Int) := by omega
  have e5 : (p : Int) ≤ (m : Int) := by omega
  clear h hg he hp
  go_enter Tryd.func3, Tryd.ntmps3
  go_wp2_with (first | (go_at_call 8; (with_reducible refine (lex_Words.calls (a0.extract 0 m) [] (p : Int) (e : Int) _ A6.out ?sideg).mono ?_); (case sideg => exact GV.below HG.out (by repeat (first | exact HB.out | apply below_alloc | apply pw_below_drewN | apply below_drew1))); rintro e w9 ⟨v174, rfl, ho, hb⟩; obtain ⟨Ao, co, eo⟩ := Kd.R_slice ho; subst eo; have n1_ := Aside0.mk (below_step (by repeat (first | exact HB.out | apply below_alloc | apply pw_below_drewN | apply below_drew1)) hb); clear HB ho hb; have HB := n1_; clear n1_) | (go_at_call 9; (with_reducible refine (works_true _ (GV.below HG.out (by repeat (first | exact HB.out | apply below_alloc | apply pw_below_drewN | apply below_drew1)))).mono ?_); rintro e w19 ⟨rfl, hb⟩; have n1_ := Aside0.mk (below_step (by repeat (first | exact HB.out | apply below_alloc | apply pw_below_drewN | apply below_drew1)) hb); clear HB hb; have HB := n1_; clear n1_))
  go_ret
  exact ⟨rfl, HB.out⟩
attribute [local go_sem high] eqA28
set_option maxRecDepth 100000 in
set_option maxHeartbeats 3200000 in
theorem LexPlaces_ok (a0 : ByteArray) (a1 : Int) (w : World) (hg : GV w) (m : Nat) (hm2 : (if (2000 : Int) < (a0.size : Int) then (2000 : Int) else (a0.size : Int)) = (m : Int)) (hm1 : (m : Int) ≤ (a0.size : Int)) (hm3 : m ≤ 2000)
    (l : List S28) (hne : l.length ≠ 0) (hlen : l.length ≤ 2001) (hlast : rd_T28 l ((l.length : Int) - 1) = ⟨0, (m : Int), ⟨#[]⟩, 0⟩) (h6 : lex_Words.f (a0.extract 0 m) = some (l, 0, 0)) (b : Int) (hb0 : 0 ≤ b) (hb1 : b < (l.length : Int)) (hbr : signetryref00_Bring.f a1 (l.length : Int) = some b)
    (hpl : ∀ i : Nat, i + 1 < l.length → ∃ (p q : Nat) (t : ByteArray), (rd_T28 l (i : Int)).f1 = (p : Int) ∧ (rd_T28 l ((i : Int) + 1)).f1 = (q : Int) ∧ p < q ∧ q ≤ m ∧ (rd_T28 l (i : Int)).f0 ≠ 0 ∧ 0 < t.size ∧ p + t.size ≤ m ∧ (a0.extract 0 m).extract p (p + t.size) = t ∧ ((rd_T28 l (i : Int)).f0 = 3 → t.size = 1) ∧ ((rd_T28 l (i : Int)).f0 ≠ 3 → (rd_T28 l (i : Int)).f2 = t))
    (few : List S28) (hfl : (few.length : Int) = b + 1) (q : Nat) (hq : (rd_T28 l b).f1 = (q : Int)) (hqm : q ≤ m) (h7 : lex_Words.f ((a0.extract 0 m).extract 0 q) = some (few, 0, 0)) (hfe : ∀ i : Int, 0 ≤ i → i < b → rd_T28 few i = rd_T28 l i) :
    Calls Tryd.prog 3 #[.string a0, .int .i64 a1] w fun e w' => e = .returned (.bool true) ∧ Below w.heap.size w w' := by
  have HG := Aside0.mk hg
  have hu28 := Tryd.underlying28
  have HB := Aside0.mk (Below.refl w.heap.size w)
  have hm0 : (0 : Int) ≤ (m : Int) := by omega
  have A6 := Aside0.mk h6
  have A7 := Aside0.mk h7
  have ABR := Aside0.mk hbr
  have HPL := Aside0.mk hpl
  have HFE := Aside0.mk hfe
  have HLA := Aside0.mk hlast
  have HQ := Aside0.mk hq
  have HFL := Aside0.mk hfl
  have e0 : ((l.length : Int) == 0) = false := by simp; intro h; subst h; simp at hne
  have e1 : (0 : Int) ≤ (l.length : Int) - 1 := by omega
  have e2 : (l.length : Int) - 1 < (l.length : Int) := by omega
  have e3 : wrap64 ((l.length : Int) - 1) = (l.length : Int) - 1 := IntWalk.wrap64_in _ (by omega)
  clear h6 h7 hbr hpl hfe hlast hg hq hfl
  have hmm : min m a0.size = m := by omega
  go_enter Tryd.func3, Tryd.ntmps3
  go_upto_region 5 with (first | (go_at_call 8; (with_reducible refine (lex_Words.calls (a0.extract 0 m) l 0 0 _ A6.out ?sideg).mono ?_); (case sideg => exact GV.below HG.out (by repeat (first | exact HB.out | apply below_alloc | apply pw_below_drewN | apply below_drew1))); rintro e w9 ⟨v174, rfl, ho, hb⟩; obtain ⟨Ao, co, eo⟩ := Kd.R_slice ho; subst eo; have n0_ := Aside0.mk (Kd.R_lower ho (below_size (by repeat (first | exact HB.out | apply below_alloc | apply pw_below_drewN | apply below_drew1)))); have n1_ := Aside0.mk (below_step (by repeat (first | exact HB.out | apply below_alloc | apply pw_below_drewN | apply below_drew1)) hb); clear HB ho hb; have HB := n1_; have HO := n0_; clear n1_ n0_))
  obtain ⟨ad, ead, hx0, hx1, hx2, hx3⟩ := at_T28 (Kd.R_reads' HO.out).2.2 ((l.length : Int) - 1) e1 e2
  cases ead
  rw [HLA.out, show ((l.length : Int) - 1).toNat = l.length - 1 from by omega] at hx0 hx1 hx2 hx3
  have p0 := eq_true e1
  have q0 := eq_true e2
  go_wp2
  clear hx0 hx1 hx2 hx3 p0 q0
  go_loopg [8, 9] (l.length - 1) (fun kq v8 v9 w' => ∃ i : Nat, v8 = .int .i64 (i : Int) ∧ Aside0 (kq + i = l.length - 1) ∧ Aside0 (Below w.heap.size w w') ∧ Aside0 (Kd.R k28 28 w' w.heap.size (fun _ => True) (.slice (some ad) l.length co) l))
  case atStart => exact ⟨0, rfl, ⟨by omega⟩, HB, HO⟩
  case round =>
    clear HB HO
    obtain ⟨i, rfl, HK, HB, HO⟩ := hrel
    by_cases hi : i + 1 < l.length
    · have hw1 : wrap64 ((i : Int) + 1) = (i : Int) + 1 := IntWalk.wrap64_in _ (by omega)
      have c1 : decide ((i : Int) + 1 < (l.length : Int)) = true := decide_eq_true (by omega)
      have c2 : (i : Int) + 1 < (l.length : Int) := by omega
      obtain ⟨p, q1, t, g1, g2, g3, g4, g5, g6, g7, g8, g9, g10⟩ := HPL.out i hi
      obtain ⟨ad1, e_, hx0, hx1, hx2, hx3⟩ := at_T28 (Kd.R_reads' HO.out).2.2 (i : Int) (by omega) (by omega)
      cases e_
      obtain ⟨ad2, e_, hy0, hy1, hy2, hy3⟩ := at_T28 (Kd.R_reads' HO.out).2.2 ((i : Int) + 1) (by omega) (by omega)
      cases e_
      rw [g1] at hx1
      rw [g2] at hy1
      rw [show ((i : Int) + 1).toNat = i + 1 from by omega] at hy0 hy1 hy2 hy3
      simp only [Int.toNat_natCast] at hx0 hx1 hx2 hx3
      obtain ⟨x, hx⟩ : ∃ x, x = rd_T28 l (i : Int) := ⟨_, rfl⟩
      rw [← hx] at hx0 hx2 hx3 g5 g9 g10
      obtain ⟨xk, xa, xt, xn⟩ := x
      simp only at hx0 hx2 hx3 g5 g9 g10
      clear hx g1 g2 hy0 hy2 hy3
      have d1 : decide (q1 ≤ p) = false := decide_eq_false (by omega)
      have s5 : ((p : Int) + (t.size : Int)).toNat = p + t.size := by omega
      have d2 : decide ((p : Int) < 0) = false := decide_eq_false (by omega)
      have d3 : decide ((t.size : Int) > (m : Int) - (p : Int)) = false := decide_eq_false (by omega)
      have d4 : (xk == 0) = false := by simpa using g5
      have d5 : (t.toList.isEmpty) = false := not_empty' t g6
      have d6 : (p : Int) ≤ (p : Int) + (t.size : Int) := by omega
      have d7 : (p : Int) + (t.size : Int) ≤ (m : Int) := by omega
      have d8 : (p : Int) < (q1 : Int) := by omega
      have d9 : (0 : Int) ≤ (p : Int) := by omega
      have d10 : (0 : Int) ≤ (i : Int) + 1 := by omega
      have s1 : IntKind.i64.wrap ((p : Int) + 1) = (p : Int) + 1 := IntWalk.i64_in _ (by omega)
      have s2 : IntKind.i64.wrap ((p : Int) + (t.size : Int)) = (p : Int) + (t.size : Int) := IntWalk.i64_in _ (by omega)
      have s3 : IntKind.i64.wrap ((m : Int) - (p : Int)) = (m : Int) - (p : Int) := IntWalk.i64_in _ (by omega)
      have s4 : IntKind.i64.wrap ((i : Int) + 1) = (i : Int) + 1 := IntWalk.i64_in _ (by omega)
      have p0 : (0 ≤ (i : Int)) = True := eq_true (by omega)
      have q0 : ((i : Int) < (l.length : Int)) = True := eq_true (by omega)
      by_cases h3 : xk = 3
      · have k3 : (xk == 3) = true := by simpa using h3
        have g8b := g8
        rw [g9 h3] at g8b
        clear g9 g10
        go_wp2
        go_quiet (fail)
        go_wp2
        go_quiet (fail)
        go_wp2
        go_roundg (l.length - 1 - (i + 1))
        case measure => have := HK.out; omega
        case rel => exact ⟨i + 1, (by first | rfl | (simp; done)), ⟨by omega⟩, ⟨by repeat (first | exact HB.out | apply below_alloc | apply pw_below_drewN | apply below_drew1)⟩, ⟨by (with_reducible repeat (first | apply Kd.R_alloc | apply Kd.R_drewN | apply Kd.R_drew)); exact HO.out⟩⟩
      · obtain rfl := g10 h3
        have k3 : (xk == 3) = false := by simpa using h3
        clear g9 g10
        go_wp2
        go_quiet (fail)
        go_wp2
        go_roundg (l.length - 1 - (i + 1))
        case measure => have := HK.out; omega
        case rel => exact ⟨i + 1, (by first | rfl | (simp; done)), ⟨by omega⟩, ⟨by repeat (first | exact HB.out | apply below_alloc | apply pw_below_drewN | apply below_drew1)⟩, ⟨by (with_reducible repeat (first | apply Kd.R_alloc | apply Kd.R_drewN | apply Kd.R_drew)); exact HO.out⟩⟩
    · have hw1 : wrap64 ((i : Int) + 1) = (i : Int) + 1 := IntWalk.wrap64_in _ (by have := HK.out; omega)
      have c1 : decide ((i : Int) + 1 < (l.length : Int)) = false := decide_eq_false (by omega)
      have c2 : ¬ (i : Int) + 1 < (l.length : Int) := by omega
      obtain ⟨ad1, e_, hx0, hx1, hx2, hx3⟩ := at_T28 (Kd.R_reads' HO.out).2.2 b hb0 hb1
      cases e_
      rw [HQ.out] at hx1
      have p0 := eq_true hb0
      have q0 := eq_true hb1
      have hq0 : (0 : Int) ≤ (q : Int) := by omega
      have hq1 : (q : Int) ≤ (m : Int) := by omega
      have ef : ((few.length : Int) == b + 1) = true := by rw [HFL.out]; simp
      have ef2 : ((few.length : Int) != b + 1) = false := by rw [HFL.out]; simp
      have ef3 : wrap64 (b + 1) = b + 1 := IntWalk.wrap64_in _ (by omega)
      go_wp2_with (first | (go_at_call 10; (with_reducible refine (signetryref00_Bring.calls a1 (l.length : Int) b _ ABR.out).mono ?_); rintro e w19 ⟨rfl, ⟨nd, rfl⟩⟩) | (go_at_call 8; (with_reducible refine (lex_Words.calls ((a0.extract 0 m).extract 0 q) few 0 0 _ A7.out ?sideg).mono ?_); (case sideg => exact GV.below HG.out (by repeat (first | exact HB.out | apply below_alloc | apply pw_below_drewN | apply below_drew1))); rintro e w29 ⟨v274, rfl, ho, hb⟩; obtain ⟨Ao2, co2, eo⟩ := Kd.R_slice ho; subst eo; have n0_ := Aside0.mk (Kd.R_mono (ok' := fun _ => True) (Kd.R_elder' (by (with_reducible repeat (first | apply Kd.R_alloc | apply Kd.R_drewN | apply Kd.R_drew)); exact HO.out) (Kd.R_base ho) hb) (fun _ _ => trivial)); have n2_ := Aside0.mk (Kd.R_lower ho (below_size (by repeat (first | exact HB.out | apply below_alloc | apply pw_below_drewN | apply below_drew1)))); have n1_ := Aside0.mk (below_step (by repeat (first | exact HB.out | apply below_alloc | apply pw_below_drewN | apply below_drew1)) hb); clear HB HO ho hb; have HB := n1_; have HO := n0_; have HO2 := n2_; clear n1_ n0_ n2_))
      clear hx0 hx1 hx2 hx3 p0 q0 c1 c2 hw1 ef ef2 ef3
      clear HK
      obtain ⟨bn, hbn⟩ : ∃ bn : Nat, b = (bn : Int) := ⟨b.toNat, by omega⟩
      subst hbn
      go_loopg [14] bn (fun kq v14 w' => ∃ j : Nat, v14 = .int .i64 (j : Int) ∧ Aside0 (kq + j = bn) ∧ Aside0 (Below w.heap.size w w') ∧ Aside0 (Kd.R k28 28 w' w.heap.size (fun _ => True) (.slice (some ad) l.length co) l) ∧ Aside0 (Kd.R k28 28 w' w.heap.size (fun _ => True) (.slice Ao2 few.length co2) few))
      case atStart => exact ⟨0, rfl, ⟨by omega⟩, HB, HO, HO2⟩
      case round =>
        clear HB HO HO2
        obtain ⟨j, rfl, HK, HB, HO, HO2⟩ := hrel
        by_cases hj : j < bn
        · have c1 : decide ((j : Int) < (bn : Int)) = true := decide_eq_true (by omega)
          have c2 : (j : Int) < (bn : Int) := by omega
          obtain ⟨ad2, e_, hx0, hx1, hx2, hx3⟩ := at_T28 (Kd.R_reads' HO.out).2.2 (j : Int) (by omega) (by omega)
          cases e_
          obtain ⟨ad3, e_, hy0, hy1, hy2, hy3⟩ := at_T28 (Kd.R_reads' HO2.out).2.2 (j : Int) (by omega) (by have := HFL.out; omega)
          subst e_
          rw [HFE.out (j : Int) (by omega) (by omega)] at hy0 hy1 hy2 hy3
          simp only [Int.toNat_natCast] at hx0 hx1 hx2 hx3 hy0 hy1 hy2 hy3
          have p0 : (0 ≤ (j : Int)) = True := eq_true (by omega)
          have q0 : ((j : Int) < (l.length : Int)) = True := eq_true (by omega)
          have q1 : ((j : Int) < (few.length : Int)) = True := eq_true (by have := HFL.out; omega)
          have q2 : j < l.length := by omega
          have q3 : j < few.length := by have := HFL.out; omega
          go_wp2
          go_quiet (fail)
          go_wp2
          go_roundg (bn - (j + 1))
          case measure => have := HK.out; omega
          case rel => exact ⟨j + 1, (by first | rfl | (show Value.int .i64 (wrap64 ((j : Int) + 1)) = _; rw [IntWalk.wrap64_in _ (by omega)]; rfl)), ⟨by omega⟩, ⟨by repeat (first | exact HB.out | apply below_alloc | apply pw_below_drewN | apply below_drew1)⟩, ⟨by (with_reducible repeat (first | apply Kd.R_alloc | apply Kd.R_drewN | apply Kd.R_drew)); exact HO.out⟩, ⟨by (with_reducible repeat (first | apply Kd.R_alloc | apply Kd.R_drewN | apply Kd.R_drew)); exact HO2.out⟩⟩
        · have c1 : decide ((j : Int) < (bn : Int)) = false := decide_eq_false (by omega)
          have c2 : ¬ (j : Int) < (bn : Int) := by omega
          go_wp2_with (go_at_call 9; (with_reducible refine (works_true _ (GV.below HG.out (by repeat (first | exact HB.out | apply below_alloc | apply pw_below_drewN | apply below_drew1)))).mono ?_); rintro e w19 ⟨rfl, hb⟩; have n1_ := Aside0.mk (below_step (by repeat (first | exact HB.out | apply below_alloc | apply pw_below_drewN | apply below_drew1)) hb); clear HB hb; have HB := n1_; clear n1_)
          go_ret
          exact ⟨rfl, HB.out⟩
end Go.Proofs.YtihidbjffclfkaaDoor.PLex
