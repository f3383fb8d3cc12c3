/- Part of the proof: what it uses of HLexBack. -/
import Derived.Test.YtihidbjffclfkaaDoorUHEq3
import Derived.Test.YtihidbjffclfkaaDoorUHJoin
import Derived.Test.YtihidbjffclfkaaDoorUHMade
import Derived.Test.YtihidbjffclfkaaDoorUHWorks
namespace Go.Proofs.YtihidbjffclfkaaDoor.PLex
open Go.RowKit Go.Maps Go.Proofs.YtihidbjffclfkaaDoorW.PrintWords Go.Proofs.YtihidbjffclfkaaDoorW.PrintLast Go.Proofs.YtihidbjffclfkaaDoorW.PrintMore Go.Proofs.YtihidbjffclfkaaDoor.Lx
attribute [local go_sem] max2_int min2_int max_two min_two max_three min_three max_four min_four
attribute [local go_sem high] eqA28
set_option linter.unusedVariables false
set_option linter.unusedSimpArgs false
set_option maxRecDepth 100000 in
set_option maxHeartbeats 3200000 in
theorem LexBack_ok (l : List S56) (A0 : Option Addr) (c0 : Nat) (w : World) (hr0 : Kd.C k56 w A0 l.length l) (hc0 : l.length ≤ c0) (hg : GV w) (K : Nat)
    (ws : List S28) (hws : ws.length ≤ 60) (hrow : signetrylaw03_row.f K l = some ws) (s : ByteArray) (hj : lex_Join.f ws = some s) (out : List S28) (hw : lex_Words.f s = some (out, 0, 0)) (hol : out.length = ws.length + 1)
    (hlast : rd_T28 out (ws.length : Int) = ⟨0, (s.size : Int), ⟨#[]⟩, 0⟩)
    (hall : ∀ i : Nat, i < ws.length → (rd_T28 out (i : Int)).f0 = (rd_T28 ws (i : Int)).f0 ∧ (rd_T28 out (i : Int)).f2 = (rd_T28 ws (i : Int)).f2 ∧ (rd_T28 out (i : Int)).f3 = (rd_T28 ws (i : Int)).f3) :
    Calls Tryd.prog 5 #[.slice A0 l.length c0] w fun e w' => e = .returned (.bool true) ∧ Below w.heap.size w w' := by
  have HR0 := Aside0.mk hr0
  have HC0 := Aside0.mk hc0
  have HG := Aside0.mk hg
  have hu28 := Tryd.underlying28
  have HB := Aside0.mk (Below.refl w.heap.size w)
  have HROW := Aside0.mk hrow
  have HJ := Aside0.mk hj
  have HW := Aside0.mk hw
  have HLA := Aside0.mk hlast
  have HALL := Aside0.mk hall
  have HOL := Aside0.mk hol
  have HWS := Aside0.mk hws
  have e1 : ((out.length : Int) == (ws.length : Int) + 1) = true := by simp; omega
  have e2 : ((out.length : Int) != (ws.length : Int) + 1) = false := by simp; omega
  have e3 : wrap64 ((ws.length : Int) + 1) = (ws.length : Int) + 1 := IntWalk.wrap64_in _ (by omega)
  have e4 : (ws.length : Int) < (out.length : Int) := by omega
  have e5 : (0 : Int) ≤ (ws.length : Int) := by omega
  clear hr0 hc0 hg hrow hj hw hlast hall hol hws
  go_enter Tryd.func5, Tryd.ntmps5
  go_upto_region 6 with (first | (go_at_call 9; (with_reducible refine (works_true _ (GV.below HG.out (by repeat (first | exact HB.out | apply below_alloc | apply pw_below_drewN | apply below_drew1)))).mono ?_); rintro e w9 ⟨rfl, hb⟩; have n1_ := Aside0.mk (below_step (by repeat (first | exact HB.out | apply below_alloc | apply pw_below_drewN | apply below_drew1)) hb); clear HB hb; have HB := n1_; clear n1_) | (go_at_call 14; (with_reducible refine (signetrylaw03_row.calls K A0 c0 l ws _ ?side1 HC0.out HROW.out).mono ?_); (case side1 => exact Kd.C_below HR0.out (by repeat (first | exact HB.out | apply below_alloc | apply pw_below_drewN | apply below_drew1))); rintro e w19 ⟨v19, rfl, ho, hb⟩; obtain ⟨Ao, co, eo⟩ := Kd.R_slice ho; subst eo; have n0_ := Aside0.mk (Kd.R_lower ho (below_size (by repeat (first | exact HB.out | apply below_alloc | apply pw_below_drewN | apply below_drew1)))); have n1_ := Aside0.mk (below_step (by repeat (first | exact HB.out | apply below_alloc | apply pw_below_drewN | apply below_drew1)) hb); clear HB ho hb; have HB := n1_; have HR := n0_; clear n1_ n0_) | (go_at_call 11; refine (lex_Join.calls _ _ ws s _ ?side1 ?side2 HJ.out).mono ?_; (case side1 => repeat (first | exact (Kd.R_reads' HR.out).2.2 | (with_reducible refine Kd.C_alloc ?_ _) | (with_reducible refine Kd.C_drewN ?_ _) | (with_reducible refine Kd.C_drew ?_))); (case side2 => exact (Kd.R_reads' HR.out).2.1); rintro e w29 ⟨rfl, hb⟩; have n0_ := Aside0.mk (Kd.R_below (by (with_reducible repeat (first | apply Kd.R_alloc | apply Kd.R_drewN | apply Kd.R_drew)); exact HR.out) hb); have n2_ := Aside0.mk (below_step (by repeat (first | exact HB.out | apply below_alloc | apply pw_below_drewN | apply below_drew1)) hb); clear HR HB hb; have HR := n0_; have HB := n2_; clear n0_ n2_) | (go_at_call 8; (with_reducible refine (lex_Words.calls s out 0 0 _ HW.out ?sideg).mono ?_); (case sideg => exact GV.below HG.out (by repeat (first | exact HB.out | apply below_alloc | apply pw_below_drewN | apply below_drew1))); rintro e w39 ⟨v39, rfl, ho, hb⟩; obtain ⟨Ap, cp, eo⟩ := Kd.R_slice ho; subst eo; have n0_ := Aside0.mk (Kd.R_below (by (with_reducible repeat (first | apply Kd.R_alloc | apply Kd.R_drewN | apply Kd.R_drew)); exact HR.out) hb); have n3_ := Aside0.mk (Kd.R_lower ho (below_size (by repeat (first | exact HB.out | apply below_alloc | apply pw_below_drewN | apply below_drew1)))); have n1_ := Aside0.mk (below_step (by repeat (first | exact HB.out | apply below_alloc | apply pw_below_drewN | apply below_drew1)) hb); clear HB HR ho hb; have HB := n1_; have HR := n0_; have HO := n3_; clear n1_ n0_ n3_))
  obtain ⟨ad, ead, hx0, hx1, hx2, hx3⟩ := at_T28 (Kd.R_reads' HO.out).2.2 (ws.length : Int) e5 e4
  subst ead
  rw [HLA.out] at hx0 hx1 hx2 hx3
  simp only [Int.toNat_natCast] at hx0 hx1 hx2 hx3
  have p0 := eq_true e5
  have q0 := eq_true e4
  go_wp2
  clear hx0 hx1 hx2 hx3 p0 q0 e1 e2 e3
  go_loopg [8] ws.length (fun kq v8 w' => ∃ i : Nat, v8 = .int .i64 (i : Int) ∧ Aside0 (kq + i = ws.length) ∧ Aside0 (Below w.heap.size w w') ∧ Aside0 (Kd.R k28 28 w' w.heap.size (fun _ => True) (.slice Ao ws.length co) ws) ∧ Aside0 (Kd.R k28 28 w' w.heap.size (fun _ => True) (.slice (some ad) out.length cp) out))
  case atStart => exact ⟨0, rfl, ⟨by omega⟩, HB, HR, HO⟩
  case round =>
    clear HB HR HO
    obtain ⟨i, rfl, HK, HB, HR, HO⟩ := hrel
    by_cases hi : i < ws.length
    · have c1 : decide ((i : Int) < (ws.length : Int)) = true := decide_eq_true (by omega)
      have c2 : (i : Int) < (ws.length : Int) := by omega
      obtain ⟨ad2, e_, hx0, hx1, hx2, hx3⟩ := at_T28 (Kd.R_reads' HR.out).2.2 (i : Int) (by omega) (by omega)
      subst e_
      obtain ⟨ad3, e_, hy0, hy1, hy2, hy3⟩ := at_T28 (Kd.R_reads' HO.out).2.2 (i : Int) (by omega) (by have := HOL.out; omega)
      cases e_
      obtain ⟨a1, a2, a3⟩ := HALL.out i hi
      rw [a1] at hy0
      rw [a2] at hy2
      rw [a3] at hy3
      simp only [Int.toNat_natCast] at hx0 hx1 hx2 hx3 hy0 hy1 hy2 hy3
      obtain ⟨x, hx⟩ : ∃ x, x = rd_T28 ws (i : Int) := ⟨_, rfl⟩
      rw [← hx] at hx0 hx2 hx3 hy0 hy2 hy3
      obtain ⟨xk, xa, xt, xn⟩ := x
      simp only at hx0 hx2 hx3 hy0 hy2 hy3
      clear hx hx1 hy1 a1 a2 a3
      have p0 : (0 ≤ (i : Int)) = True := eq_true (by omega)
      have q0 : ((i : Int) < (ws.length : Int)) = True := eq_true (by omega)
      have q1 : ((i : Int) < (out.length : Int)) = True := eq_true (by have := HOL.out; omega)
      have q3 : i < out.length := by have := HOL.out; omega
      go_wp2
      go_quiet (fail)
      go_wp2
      go_roundg (ws.length - (i + 1))
      case measure => have := HK.out; omega
      case rel => exact ⟨i + 1, (by first | rfl | (show Value.int .i64 (wrap64 ((i : Int) + 1)) = _; rw [IntWalk.wrap64_in _ (by have := HWS.out; omega)]; rfl)), ⟨by omega⟩, ⟨by repeat (first | exact HB.out | apply below_alloc | apply pw_below_drewN | apply below_drew1)⟩, ⟨by (with_reducible repeat (first | apply Kd.R_alloc | apply Kd.R_drewN | apply Kd.R_drew)); exact HR.out⟩, ⟨by (with_reducible repeat (first | apply Kd.R_alloc | apply Kd.R_drewN | apply Kd.R_drew)); exact HO.out⟩⟩
    · have c1 : decide ((i : Int) < (ws.length : Int)) = false := decide_eq_false (by omega)
      have c2 : ¬ (i : Int) < (ws.length : Int) := by omega
      go_wp2
      go_ret
      exact ⟨rfl, HB.out⟩
end Go.Proofs.YtihidbjffclfkaaDoor.PLex
