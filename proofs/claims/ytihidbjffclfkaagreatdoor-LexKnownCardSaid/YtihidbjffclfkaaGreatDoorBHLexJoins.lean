/- Part of the proof: what it uses of HLexJoins. -/
import Derived.Test.YtihidbjffclfkaaGreatDoorBHLawJoins
import Derived.Test.YtihidbjffclfkaaGreatDoorBHWorks
namespace Go.Proofs.YtihidbjffclfkaaGreatDoor.PLex
open Go.RowKit Go.Maps Go.Proofs.YtihidbjffclfkaaGreatDoorW.PrintWords Go.Proofs.YtihidbjffclfkaaGreatDoorW.PrintLast Go.Proofs.YtihidbjffclfkaaGreatDoorW.PrintMore Go.Proofs.YtihidbjffclfkaaGreatDoor.Lx
attribute [local go_sem] max2_int min2_int max_two min_two max_three min_three max_four min_four
set_option linter.unusedVariables false
set_option linter.unusedSimpArgs false
def cutW (x : S33) : S33 := ⟨x.f0, x.f1, x.f2.extract 0 (min x.f2.size 40), x.f3⟩
set_option maxRecDepth 100000 in
set_option maxHeartbeats 1600000 in
theorem LexJoins_walk (l : List S33) (A0 : Option Addr) (c0 : Nat) (w : World) (hr0 : Kd.C k33 w A0 l.length l) (hc0 : l.length ≤ c0) (hl : l.length ≤ 9223372036854775807) (hg : GV w) :
    Calls Tryz.prog 9 #[.slice A0 l.length c0] w fun e w' => e = .returned (.bool true) ∧ Below w.heap.size w w' := by
  have HR0 := Aside0.mk hr0
  have HC0 := Aside0.mk hc0
  have HL := Aside0.mk hl
  have HG := Aside0.mk hg
  clear hr0 hc0 hl hg
  have HB := Aside0.mk (Below.refl w.heap.size w)
  go_enter Tryz.func9, Tryz.ntmps9
  go_wp2
  go_loopg [3, 4] (min l.length 100) (fun kq v3 v4 w' => ∃ i : Nat, v4 = .int .i64 (i : Int) ∧ Aside0 (kq + i = min l.length 100) ∧ Aside0 (Kd.R k33 33 w' w.heap.size (fun _ => True) v3 ((l.take i).map cutW)) ∧ Aside0 (Below w.heap.size w w'))
  case atStart => exact ⟨0, rfl, ⟨by omega⟩, ⟨Kd.R_nil _ _ _ _ _⟩, HB⟩
  case round =>
    clear HB
    obtain ⟨i, rfl, HK, HR, HB⟩ := hrel
    by_cases hi : i < min l.length 100
    · have hil : i < l.length := by omega
      have hii : (i : Int) < (l.length : Int) := by omega
      have hij : decide ((i : Int) < (l.length : Int)) = true := decide_eq_true hii
      have hik : decide ((i : Int) < 100) = true := decide_eq_true (by omega)
      have hin : (i : Int) < 100 := by omega
      obtain ⟨ad, e0, hx0, hx1, hx2, hx3⟩ := at_T33 HR0.out (i : Int) (by omega) hii
      cases e0
      rw [rdT_get l i hil] at hx0 hx1 hx2 hx3
      have HNX : Aside0 ((l.take (i + 1)).map cutW = (l.take i).map cutW ++ [cutW (l[i]'hil)]) := ⟨by rw [List.take_add_one, List.getElem?_eq_getElem hil, List.map_append]; rfl⟩
      obtain ⟨x, hx⟩ : ∃ x, x = l[i]'hil := ⟨_, rfl⟩
      rw [← hx] at hx0 hx1 hx2 hx3 HNX
      clear hx
      obtain ⟨xk, xa, xt, xn⟩ := x
      simp only [Int.toNat_natCast] at hx0 hx1 hx2 hx3
      replace hx0 := (HB.out.cell (World.block_lt_of_cell? w _ hx0)).trans hx0
      replace hx1 := (HB.out.cell (World.block_lt_of_cell? w _ hx1)).trans hx1
      replace hx2 := (HB.out.cell (World.block_lt_of_cell? w _ hx2)).trans hx2
      replace hx3 := (HB.out.cell (World.block_lt_of_cell? w _ hx3)).trans hx3
      have p0 : (0 ≤ (i : Int)) = True := eq_true (by omega)
      have q0 : ((i : Int) < (l.length : Int)) = True := eq_true hii
      obtain ⟨acc, hacc⟩ : ∃ acc, acc = (l.take i).map cutW := ⟨_, rfl⟩
      have HLA : Aside0 (acc.length ≤ 100) := ⟨by rw [hacc, List.length_map, List.length_take]; omega⟩
      rw [← hacc] at HR HNX
      clear hacc
      have HX : Aside0 (cutW ⟨xk, xa, xt, xn⟩ = ⟨xk, xa, xt.extract 0 (min xt.size 40), xn⟩) := ⟨rfl⟩
      have hmn : mn (xt.size : Int) 40 = ((min xt.size 40 : Nat) : Int) := by unfold mn; split <;> omega
      obtain ⟨m, hm⟩ : ∃ m, m = min xt.size 40 := ⟨_, rfl⟩
      rw [← hm] at hmn HX
      have hm0 : (0 : Int) ≤ (m : Int) := by omega
      have hm1 : (m : Int) ≤ (xt.size : Int) := by omega
      have hm2 : (if (40 : Int) < (xt.size : Int) then (40 : Int) else (xt.size : Int)) = (m : Int) := by split <;> omega
      clear hm
      go_wp2_with ((with_reducible refine gate_builtin (b := .append) (xs := #[.tmp 29, .tmp 31]) rfl ?_); at_builtin; refine Kd.R_append k33 (w0 := w) w.heap.size rfl (.tmp 29) (.tmp 31) 22 33 (.agg #[(.int .i64 0), (.int .i64 0), (.string ⟨#[]⟩), (.int .i64 0)]) 40 rfl Tryz.underlying22 info33 rfl (by decide) (by omega) u3 acc (⟨xk, xa, xt.extract 0 m, xn⟩ : S33) [.int .i64 xk, .int .i64 xa, .string (xt.extract 0 m), .int .i64 xn] (fun _ => True) (fun _ => False) rfl ?hx ?aP (fun _ hk => hk.elim) ?aF ?aO ?aB ?aS ?aL ?_; (case hx => first | rfl | (simp [Act.eval, Act.put]; done)); (case aP => exact k33_mkM _ _ _ (⟨xk, xa, xt.extract 0 m, xn⟩ : S33)); (case aF => exact (fun _ _ => trivial)); (case aO => exact (by (with_reducible repeat (first | apply Kd.R_alloc | apply Kd.R_drewN | apply Kd.R_drew)); exact HR.out)); (case aB => exact (by repeat (first | exact HB.out | apply below_alloc | apply pw_below_drewN | apply below_drew1))); (case aS => exact below_size (by repeat (first | exact HB.out | apply below_alloc | apply pw_below_drewN | apply below_drew1))); (case aL => have h1_ := HLA.out; omega); intro v1 w1 ho hb hg hat; have n0_ := Aside0.mk hb; have n1_ := Aside0.mk ho; clear HB HR ho hb hg hat; have HB := n0_; have HR := n1_; clear n0_ n1_)
      go_roundg (min l.length 100 - (i + 1))
      case measure => have := HK.out; omega
      case rel => exact ⟨i + 1, (by first | rfl | (show Value.int .i64 (wrap64 ((i : Int) + 1)) = _; rw [IntWalk.wrap64_in _ (by have := HL.out; omega)]; rfl)), ⟨by omega⟩, ⟨by rw [HNX.out, HX.out]; exact HR.out⟩, ⟨by repeat (first | exact HB.out | apply below_alloc | apply pw_below_drewN | apply below_drew1)⟩⟩
    · have hil : (i : Int) < (l.length : Int) → ¬ (i : Int) < 100 := by omega
      obtain ⟨acc, hacc⟩ : ∃ acc, acc = (l.take i).map cutW := ⟨_, rfl⟩
      have HLA : Aside0 (acc.length ≤ 100) := ⟨by have := HK.out; rw [hacc, List.length_map, List.length_take]; omega⟩
      have hsm : ∀ y ∈ acc, y.f2.size ≤ 40 := by
        rw [hacc]
        intro y hy
        obtain ⟨x, _, rfl⟩ := List.mem_map.1 hy
        show (x.f2.extract 0 (min x.f2.size 40)).size ≤ 40
        rw [ByteArray.size_extract]
        omega
      obtain ⟨T, hT⟩ : ∃ T : ByteArray, T = ⟨(Lib.join ((joinL acc).map (·.data.toList)) [32]).toArray⟩ := ⟨_, rfl⟩
      have HJ : Aside0 (lex_Join.f acc = some T) := ⟨by rw [hT]; exact join_f acc hsm (by have := HLA.out; omega)⟩
      have HRJ : Aside0 (signetryref03_Join.f acc = some T) := ⟨by rw [hT]; exact rjoin_f acc hsm (by have := HLA.out; omega)⟩
      have HSM : Aside0 (signetryref03_Same.f 200 acc acc = some true) := ⟨same_f acc (by have := HLA.out; omega) 200 (by have := HLA.out; omega)⟩
      rw [← hacc] at HR
      clear hacc hsm hT
      by_cases hll : (i : Int) < (l.length : Int)
      · have e1 : decide ((i : Int) < (l.length : Int)) = true := decide_eq_true hll
        have e2 : decide ((i : Int) < 100) = false := decide_eq_false (hil hll)
        have e3 := hil hll
        clear hil
        go_wp2_with (first | ((with_reducible refine gate_dst (N := 33) rfl ?_); refine Kd.R_lit k33 _ 33 ?hg (N := 33) ?hd (xs := ([] : List (S33))) (inner := []) (ok := fun _ => True) (okp := fun _ => True) ?hr ?hp (fun _ hk => hk) trivial (Below.refl _ _) (Nat.le_refl _) (by simp) ?_; (case hd => rfl); (case hg => rfl); (case hr => first | (go_simp; done) | (go_simp; rfl)); (case hp => exact (Reps.none _ _)); intro v9 w9 ho hb hg_ hnew_; clear hg_ hnew_; have n0_ := Aside0.mk (Kd.R_elder' (by (with_reducible repeat (first | apply Kd.R_alloc | apply Kd.R_drewN | apply Kd.R_drew)); exact HR.out) (Kd.R_base ho) hb); have n1_ := Aside0.mk (Kd.R_lower (Kd.R_new' ho (Kd.R_lt (by (with_reducible repeat (first | apply Kd.R_alloc | apply Kd.R_drewN | apply Kd.R_drew)); exact HR.out))) (below_size (by repeat (first | exact HB.out | apply below_alloc | apply pw_below_drewN | apply below_drew1)))); have n2_ := Aside0.mk (below_step (by repeat (first | exact HB.out | apply below_alloc | apply pw_below_drewN | apply below_drew1)) hb); clear HR HB ho hb; have HR := n0_; have HO := n1_; have HB := n2_; clear n0_ n1_ n2_; obtain ⟨Ao, co, eo⟩ := Kd.R_slice HR.out; subst eo) | ((with_reducible refine gate_builtin (b := .append) (xs := #[.tmp 33, .tmp 34]) rfl ?_); at_builtin; refine Kd.R_append_rows k33 (w0 := w) w.heap.size rfl (.tmp 33) (.tmp 34) 22 33 (.agg #[(.int .i64 0), (.int .i64 0), (.string ⟨#[]⟩), (.int .i64 0)]) 40 rfl Tryz.underlying22 info33 rfl (by decide) (by omega) v9 [] acc _ _ _ (fun k_ => some k_ ≠ (.slice Ao acc.length co : Value).ownBlock) (fun _ => False) rfl rfl ?aO ?aR (fun _ _ h => h) (fun _ h => h.elim) ?aF ?aB ?aS ?aL ?_; (case aR => repeat (first | exact (Kd.R_reads' HR.out).2.2 | (with_reducible refine Kd.C_alloc ?_ _) | (with_reducible refine Kd.C_drewN ?_ _) | (with_reducible refine Kd.C_drew ?_))); (case aB => exact (by repeat (first | exact HB.out | apply below_alloc | apply pw_below_drewN | apply below_drew1))); (case aF => exact (fun k_ hk => Kd.fresh' (Kd.R_lt (by (with_reducible repeat (first | apply Kd.R_alloc | apply Kd.R_drewN | apply Kd.R_drew)); exact HR.out)) k_ hk)); (case aO => exact (by (with_reducible repeat (first | apply Kd.R_alloc | apply Kd.R_drewN | apply Kd.R_drew)); exact Kd.R_mono HO.out (fun _ hk => hk.2))); (case aS => exact below_size (by repeat (first | exact HB.out | apply below_alloc | apply pw_below_drewN | apply below_drew1))); (case aL => have h1_ := HLA.out; simp only [List.length_nil]; omega); intro v8 w8 ho hb hg hat; have n0_ := Aside0.mk (Kd.R_after (ok := (fun _ => True)) (by (with_reducible repeat (first | apply Kd.R_alloc | apply Kd.R_drewN | apply Kd.R_drew)); exact HR.out) hg hat); have n1_ := Aside0.mk hb; have n2_ := Aside0.mk ho; clear HR HB HO ho hb hg hat; have HR := n0_; have HB := n1_; have HO := n2_; clear n0_ n1_ n2_; rw [List.nil_append] at HO; obtain ⟨Ap, cp, ep⟩ := Kd.R_slice HO.out; subst ep) | (go_at_call 19; refine (lex_Join.calls _ _ acc T _ ?side1 ?side2 HJ.out).mono ?_; (case side1 => repeat (first | exact (Kd.R_reads' HR.out).2.2 | (with_reducible refine Kd.C_alloc ?_ _) | (with_reducible refine Kd.C_drewN ?_ _) | (with_reducible refine Kd.C_drew ?_))); (case side2 => exact (Kd.R_reads' HR.out).2.1); rintro e w5 ⟨rfl, hb⟩; have n0_ := Aside0.mk (Kd.R_below (by (with_reducible repeat (first | apply Kd.R_alloc | apply Kd.R_drewN | apply Kd.R_drew)); exact HR.out) hb); have n1_ := Aside0.mk (Kd.R_below (by (with_reducible repeat (first | apply Kd.R_alloc | apply Kd.R_drewN | apply Kd.R_drew)); exact HO.out) hb); have n2_ := Aside0.mk (below_step (by repeat (first | exact HB.out | apply below_alloc | apply pw_below_drewN | apply below_drew1)) hb); clear HR HO HB hb; have HR := n0_; have HO := n1_; have HB := n2_; clear n0_ n1_ n2_) | (go_at_call 20; refine (signetryref03_Join.calls _ _ acc T _ ?side1 ?side2 HRJ.out).mono ?_; (case side1 => repeat (first | exact (Kd.R_reads' HO.out).2.2 | (with_reducible refine Kd.C_alloc ?_ _) | (with_reducible refine Kd.C_drewN ?_ _) | (with_reducible refine Kd.C_drew ?_))); (case side2 => exact (Kd.R_reads' HO.out).2.1); rintro e w6 ⟨rfl, hb⟩; have n0_ := Aside0.mk (Kd.R_below (by (with_reducible repeat (first | apply Kd.R_alloc | apply Kd.R_drewN | apply Kd.R_drew)); exact HR.out) hb); have n1_ := Aside0.mk (Kd.R_below (by (with_reducible repeat (first | apply Kd.R_alloc | apply Kd.R_drewN | apply Kd.R_drew)); exact HO.out) hb); have n2_ := Aside0.mk (below_step (by repeat (first | exact HB.out | apply below_alloc | apply pw_below_drewN | apply below_drew1)) hb); clear HR HO HB hb; have HR := n0_; have HO := n1_; have HB := n2_; clear n0_ n1_ n2_) | (go_at_call 7; refine (signetryref03_Same.calls 200 _ _ acc _ _ acc true _ ?s1 ?s2 ?s3 ?s4 HSM.out).mono ?_; (case s1 => repeat (first | exact (Kd.R_reads' HR.out).2.2 | (with_reducible refine Kd.C_alloc ?_ _) | (with_reducible refine Kd.C_drewN ?_ _) | (with_reducible refine Kd.C_drew ?_))); (case s2 => exact (Kd.R_reads' HR.out).2.1); (case s3 => repeat (first | exact (Kd.R_reads' HO.out).2.2 | (with_reducible refine Kd.C_alloc ?_ _) | (with_reducible refine Kd.C_drewN ?_ _) | (with_reducible refine Kd.C_drew ?_))); (case s4 => exact (Kd.R_reads' HO.out).2.1); rintro e w' ⟨rfl, ⟨nd, rfl⟩⟩) | (go_at_call 8; refine (works_true _ (GV.below HG.out (by repeat (first | exact HB.out | apply below_alloc | apply pw_below_drewN | apply below_drew1)))).mono ?_; rintro e w7 ⟨rfl, hb⟩; have n2_ := Aside0.mk (below_step (by repeat (first | exact HB.out | apply below_alloc | apply pw_below_drewN | apply below_drew1)) hb); clear HB hb; have HB := n2_; clear n2_))
        go_ret
        exact ⟨rfl, HB.out⟩
      · have e1 : decide ((i : Int) < (l.length : Int)) = false := decide_eq_false hll
        have e3 : (l.length : Int) ≤ (i : Int) := by omega
        clear hil
        go_wp2_with (first | ((with_reducible refine gate_dst (N := 33) rfl ?_); refine Kd.R_lit k33 _ 33 ?hg (N := 33) ?hd (xs := ([] : List (S33))) (inner := []) (ok := fun _ => True) (okp := fun _ => True) ?hr ?hp (fun _ hk => hk) trivial (Below.refl _ _) (Nat.le_refl _) (by simp) ?_; (case hd => rfl); (case hg => rfl); (case hr => first | (go_simp; done) | (go_simp; rfl)); (case hp => exact (Reps.none _ _)); intro v9 w9 ho hb hg_ hnew_; clear hg_ hnew_; have n0_ := Aside0.mk (Kd.R_elder' (by (with_reducible repeat (first | apply Kd.R_alloc | apply Kd.R_drewN | apply Kd.R_drew)); exact HR.out) (Kd.R_base ho) hb); have n1_ := Aside0.mk (Kd.R_lower (Kd.R_new' ho (Kd.R_lt (by (with_reducible repeat (first | apply Kd.R_alloc | apply Kd.R_drewN | apply Kd.R_drew)); exact HR.out))) (below_size (by repeat (first | exact HB.out | apply below_alloc | apply pw_below_drewN | apply below_drew1)))); have n2_ := Aside0.mk (below_step (by repeat (first | exact HB.out | apply below_alloc | apply pw_below_drewN | apply below_drew1)) hb); clear HR HB ho hb; have HR := n0_; have HO := n1_; have HB := n2_; clear n0_ n1_ n2_; obtain ⟨Ao, co, eo⟩ := Kd.R_slice HR.out; subst eo) | ((with_reducible refine gate_builtin (b := .append) (xs := #[.tmp 33, .tmp 34]) rfl ?_); at_builtin; refine Kd.R_append_rows k33 (w0 := w) w.heap.size rfl (.tmp 33) (.tmp 34) 22 33 (.agg #[(.int .i64 0), (.int .i64 0), (.string ⟨#[]⟩), (.int .i64 0)]) 40 rfl Tryz.underlying22 info33 rfl (by decide) (by omega) v9 [] acc _ _ _ (fun k_ => some k_ ≠ (.slice Ao acc.length co : Value).ownBlock) (fun _ => False) rfl rfl ?aO ?aR (fun _ _ h => h) (fun _ h => h.elim) ?aF ?aB ?aS ?aL ?_; (case aR => repeat (first | exact (Kd.R_reads' HR.out).2.2 | (with_reducible refine Kd.C_alloc ?_ _) | (with_reducible refine Kd.C_drewN ?_ _) | (with_reducible refine Kd.C_drew ?_))); (case aB => exact (by repeat (first | exact HB.out | apply below_alloc | apply pw_below_drewN | apply below_drew1))); (case aF => exact (fun k_ hk => Kd.fresh' (Kd.R_lt (by (with_reducible repeat (first | apply Kd.R_alloc | apply Kd.R_drewN | apply Kd.R_drew)); exact HR.out)) k_ hk)); (case aO => exact (by (with_reducible repeat (first | apply Kd.R_alloc | apply Kd.R_drewN | apply Kd.R_drew)); exact Kd.R_mono HO.out (fun _ hk => hk.2))); (case aS => exact below_size (by repeat (first | exact HB.out | apply below_alloc | apply pw_below_drewN | apply below_drew1))); (case aL => have h1_ := HLA.out; simp only [List.length_nil]; omega); intro v8 w8 ho hb hg hat; have n0_ := Aside0.mk (Kd.R_after (ok := (fun _ => True)) (by (with_reducible repeat (first | apply Kd.R_alloc | apply Kd.R_drewN | apply Kd.R_drew)); exact HR.out) hg hat); have n1_ := Aside0.mk hb; have n2_ := Aside0.mk ho; clear HR HB HO ho hb hg hat; have HR := n0_; have HB := n1_; have HO := n2_; clear n0_ n1_ n2_; rw [List.nil_append] at HO; obtain ⟨Ap, cp, ep⟩ := Kd.R_slice HO.out; subst ep) | (go_at_call 19; refine (lex_Join.calls _ _ acc T _ ?side1 ?side2 HJ.out).mono ?_; (case side1 => repeat (first | exact (Kd.R_reads' HR.out).2.2 | (with_reducible refine Kd.C_alloc ?_ _) | (with_reducible refine Kd.C_drewN ?_ _) | (with_reducible refine Kd.C_drew ?_))); (case side2 => exact (Kd.R_reads' HR.out).2.1); rintro e w5 ⟨rfl, hb⟩; have n0_ := Aside0.mk (Kd.R_below (by (with_reducible repeat (first | apply Kd.R_alloc | apply Kd.R_drewN | apply Kd.R_drew)); exact HR.out) hb); have n1_ := Aside0.mk (Kd.R_below (by (with_reducible repeat (first | apply Kd.R_alloc | apply Kd.R_drewN | apply Kd.R_drew)); exact HO.out) hb); have n2_ := Aside0.mk (below_step (by repeat (first | exact HB.out | apply below_alloc | apply pw_below_drewN | apply below_drew1)) hb); clear HR HO HB hb; have HR := n0_; have HO := n1_; have HB := n2_; clear n0_ n1_ n2_) | (go_at_call 20; refine (signetryref03_Join.calls _ _ acc T _ ?side1 ?side2 HRJ.out).mono ?_; (case side1 => repeat (first | exact (Kd.R_reads' HO.out).2.2 | (with_reducible refine Kd.C_alloc ?_ _) | (with_reducible refine Kd.C_drewN ?_ _) | (with_reducible refine Kd.C_drew ?_))); (case side2 => exact (Kd.R_reads' HO.out).2.1); rintro e w6 ⟨rfl, hb⟩; have n0_ := Aside0.mk (Kd.R_below (by (with_reducible repeat (first | apply Kd.R_alloc | apply Kd.R_drewN | apply Kd.R_drew)); exact HR.out) hb); have n1_ := Aside0.mk (Kd.R_below (by (with_reducible repeat (first | apply Kd.R_alloc | apply Kd.R_drewN | apply Kd.R_drew)); exact HO.out) hb); have n2_ := Aside0.mk (below_step (by repeat (first | exact HB.out | apply below_alloc | apply pw_below_drewN | apply below_drew1)) hb); clear HR HO HB hb; have HR := n0_; have HO := n1_; have HB := n2_; clear n0_ n1_ n2_) | (go_at_call 7; refine (signetryref03_Same.calls 200 _ _ acc _ _ acc true _ ?s1 ?s2 ?s3 ?s4 HSM.out).mono ?_; (case s1 => repeat (first | exact (Kd.R_reads' HR.out).2.2 | (with_reducible refine Kd.C_alloc ?_ _) | (with_reducible refine Kd.C_drewN ?_ _) | (with_reducible refine Kd.C_drew ?_))); (case s2 => exact (Kd.R_reads' HR.out).2.1); (case s3 => repeat (first | exact (Kd.R_reads' HO.out).2.2 | (with_reducible refine Kd.C_alloc ?_ _) | (with_reducible refine Kd.C_drewN ?_ _) | (with_reducible refine Kd.C_drew ?_))); (case s4 => exact (Kd.R_reads' HO.out).2.1); rintro e w' ⟨rfl, ⟨nd, rfl⟩⟩) | (go_at_call 8; refine (works_true _ (GV.below HG.out (by repeat (first | exact HB.out | apply below_alloc | apply pw_below_drewN | apply below_drew1)))).mono ?_; rintro e w7 ⟨rfl, hb⟩; have n2_ := Aside0.mk (below_step (by repeat (first | exact HB.out | apply below_alloc | apply pw_below_drewN | apply below_drew1)) hb); clear HB hb; have HB := n2_; clear n2_))
        go_ret
        exact ⟨rfl, HB.out⟩
end Go.Proofs.YtihidbjffclfkaaGreatDoor.PLex
