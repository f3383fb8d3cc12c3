/- Part of the proof: what it uses of HNum. -/
import Derived.BigQuiet
import Derived.IntWalk
import Derived.Outline
import Derived.Test.YtihidbjffclfkaaGreatDoorBHNum1
import Derived.Test.YtihidbjffclfkaaGreatDoorBPLexL
namespace Go.Proofs.YtihidbjffclfkaaGreatDoor.PLex
open Go.RowKit Go.Proofs.YtihidbjffclfkaaGreatDoorW.PrintWords Go.Proofs.YtihidbjffclfkaaGreatDoorW.PrintLast Go.Proofs.YtihidbjffclfkaaGreatDoorW.PrintMore Go.Proofs.YtihidbjffclfkaaGreatDoor.Lx
set_option linter.unusedVariables false
set_option linter.unusedSimpArgs false
set_option maxHeartbeats 8000000 in
set_option maxRecDepth 100000 in
theorem num_C_any (g : Nat) (s0_0 : ByteArray) (s0_1 : Int) (w0 w : World) (hI : IsS36 w0 w g s0_0 s0_1) (hB : Below w0.heap.size w0 w) (h1 : 0 ≤ s0_1) (h2 : s0_1 < (s0_0.size : Int)) (t : ByteArray) (a5 : lex_digit.f (bt s0_0 s0_1) = some true) (a7 : lex_cursor_run.f s0_0 s0_1 = some (t, s0_0, s0_1)) (hts : t.size ≤ 1099511627776) (htl : Low t) (h0 : 0 < t.size) (hg : GV w0) (h3 : t.size = 1) (he : 0 < t.size) (x : NumIs) (hx : NumCase t 10 x) :
    Calls Tryz.prog 11 #[.pointer (some ⟨g, 0, none⟩)] w (NumPost g s0_0 s0_1 w0 w t x) := by
  have hu28 := Tryz.underlying33
  have HI0 := Aside0.mk hI
  have HK := Aside0.mk (KeepBut.refl w g none)
  have HL := Aside0.mk hB.size
  clear hI
  have HW0 := Aside0.mk hB.size
  have HB := Aside0.mk hB
  clear hB
  have c2b0 : decide (0 ≤ s0_1) = true := decide_eq_true h1
  have c3b0 : decide (s0_1 < (s0_0.size : Int)) = true := decide_eq_true h2
  clear h1 h2
  have A5 := Aside0.mk a5
  have A7 := Aside0.mk a7
  have HG := Aside0.mk hg
  clear a5 a7 hg
  have f1 : decide ((t.size : Int) > 1) = false := by simp; omega
  have f1b : ¬ (1 : Int) < (t.size : Int) := by omega
  have f9 := not_empty' _ he
  have HX := Aside0.mk hx
  obtain ⟨ok, hok⟩ : ∃ ok, t.data.toList.all (fun c => decide (dig c < 10)) = ok := ⟨_, rfl⟩
  have HOK := Aside0.mk hok
  clear he hx hok
  have HS_ : Aside0 (t.size ≤ 140737488355328) := ⟨by omega⟩
  have HS2 : Aside0 (t.size ≤ 1099511627776) := ⟨by omega⟩
  have HLO : Aside0 (Low t) := ⟨htl⟩
  clear hts htl
  go_enter Tryz.func11, Tryz.ntmps11
  go_wp2_with ((with_reducible refine gate_dst (N := 2) rfl ?_); refine box_event ?hg (N := 2) ?hd (cs := #[.int .i64 0, .int .i64 0, .string (⟨#[]⟩ : ByteArray), .int .i64 0]) (t := 33) ?hr ?_; (case hd => rfl); (case hg => rfl); (case hr => first | (go_simp; done) | (go_simp; rfl)); intro gb hg w5 hbox hb; have n0_ := Aside0.mk (IsS36.below (by repeat (first | (with_reducible first | exact HI0.out | apply IsS36.alloc | apply IsS36.drewN | apply IsS36.drew) | exact HI0.out)) hb); have n1_ := Aside0.mk (KeepBut.trans (by repeat (first | (with_reducible first | exact HK.out | apply KeepBut.set_ | apply keep_drewN | apply keep_drew | apply keep_alloc) | exact HK.out)) (KeepBut.of_below hb g none) (.inl rfl)); have n2_ := Aside0.mk (below_step (by repeat (first | (with_reducible first | exact HB.out | apply below_alloc | apply pw_below_drewN | apply below_drew1 | refine below_set ?_ (IsS36.ge HI0.out)) | exact HB.out)) hb); have n3_ := Aside0.mk (hbox); have n4_ := Aside0.mk ((by rw [hg]; exact (keep_size (w := w) (g := g) (row := none) (by repeat (first | (with_reducible first | exact HK.out | apply KeepBut.set_ | apply keep_drewN | apply keep_drew | apply keep_alloc) | exact HK.out))) : w.heap.size ≤ gb)); have n5_ := Aside0.mk ((Nat.le_trans HW0.out (by rw [hg]; exact (keep_size (w := w) (g := g) (row := none) (by repeat (first | (with_reducible first | exact HK.out | apply KeepBut.set_ | apply keep_drewN | apply keep_drew | apply keep_alloc) | exact HK.out))) : w.heap.size ≤ gb) : w0.heap.size ≤ gb)); have n6_ := Aside0.mk ((by rw [hg]; exact Nat.ne_of_lt (IsS36.lt (show IsS36 w0 _ g s0_0 s0_1 from by repeat (first | (with_reducible first | exact HI0.out | apply IsS36.alloc | apply IsS36.drewN | apply IsS36.drew) | exact HI0.out))) : g ≠ gb)); have n7_ := Aside0.mk ((by rw [hg]; exact Nat.ne_of_gt (IsS36.lt (show IsS36 w0 _ g s0_0 s0_1 from by repeat (first | (with_reducible first | exact HI0.out | apply IsS36.alloc | apply IsS36.drewN | apply IsS36.drew) | exact HI0.out))) : gb ≠ g)); clear HI0; clear HK; clear HB; have HI0 := n0_; have HK := n1_; have HB := n2_; have BK := n3_; have GW := n4_; have GE := n5_; have NB0 := n6_; have NB1 := n7_; clear n0_ n1_ n2_ n3_ n4_ n5_ n6_ n7_; clear hb hbox hg; have HST := Aside0.mk (NumSt.mk HI0.out HK.out HB.out BK.out); clear HI0 HK HB BK; obtain ⟨HGz, hgz⟩ := HST.out.hi; have hcg_0 := cellS36_0 HGz; have hcg_1 := cellS36_1 HGz; have hfg_0 := blk_frozen HGz 0; have hfg_1 := blk_frozen HGz 1; clear HGz hgz; have p4 : 0 ≤ (s0_1 : Int) := of_decide_eq_true (by first | (with_reducible assumption) | assumption); have q4 : s0_1 < (s0_0.size : Int) := of_decide_eq_true (by first | (with_reducible assumption) | assumption); have hx4 := bt_at s0_0 s0_1; replace p4 := eq_true p4; replace q4 := eq_true q4)
  go_quiet ((go_at_call 23; (with_reducible refine (lex_digit.calls (bt s0_0 s0_1) true _ A5.out).mono ?_); rintro e w' ⟨rfl, ⟨nd, rfl⟩⟩; (try first | exact ⟨rfl, _, World.drewN_drewN _ _ _⟩ | exact ⟨rfl, _, Eq.trans (World.drewN_drewN _ _ _) (congrArg (World.drewN _) (Nat.add_assoc _ _ _))⟩)))
  go_wp2_with (go_at_call 22; (with_reducible refine (lex_cursor_run.calls g s0_0 s0_1 t s0_0 s0_1 w0 _ ?side1 ?side2 A7.out).mono ?_); (case side1 => exact NumSt.hi (by repeat (first | (with_reducible first | exact HST.out | apply NumSt.drewN | apply NumSt.drew)))); (case side2 => exact NumSt.hb (by repeat (first | (with_reducible first | exact HST.out | apply NumSt.drewN | apply NumSt.drew)))); rintro e w11 ⟨rfl, hi, hb, hk⟩; have n0_ := Aside0.mk (NumSt.run (by repeat (first | (with_reducible first | exact HST.out | apply NumSt.drewN | apply NumSt.drew))) NB1.out hi hb hk); clear HST hi hb hk; have HST := n0_; clear n0_)
  refine start_ (n := 13) (S := fun w' => True) (ds := []) #[false, false, false, false, false, false, false, false, false, false, false, false, false] (by kernel_rfl) rfl rfl trivial (fun hHeld => ?_)
  refine pure_ (i := 0) (N := some 54) (v := ?_) (a' := ?_) #[true, false, false, false, false, false, false, false, false, false, false, false, false] rfl rfl (by kernel_rfl) (fun _ _ _ h => h) (Or.inl ⟨by rfl, ?_⟩) ?_ ?_
  rotate_left
  · intro w'
    go_simp
    with_reducible rfl
  rotate_left
  · simp only [Act.put, List.setIfInBounds_toArray, List.set_cons_zero, List.set_cons_succ, i64_w, i32_w]
    rfl
  refine pure_ (i := 1) (N := some 55) (v := ?_) (a' := ?_) #[true, true, false, false, false, false, false, false, false, false, false, false, false] rfl rfl (by kernel_rfl) (fun _ _ _ h => h) (Or.inl ⟨by rfl, ?_⟩) ?_ ?_
  rotate_left
  · intro w'
    go_simp
    with_reducible rfl
  rotate_left
  · simp only [Act.put, List.setIfInBounds_toArray, List.set_cons_zero, List.set_cons_succ, i64_w, i32_w]
    rfl
  refine pure_ (i := 2) (N := some 56) (v := ?_) (a' := ?_) #[true, true, true, false, false, false, false, false, false, false, false, false, false] rfl rfl (by kernel_rfl) (fun _ _ _ h => h) (Or.inl ⟨by rfl, ?_⟩) ?_ ?_
  rotate_left
  · intro w'
    go_simp
    with_reducible rfl
  rotate_left
  · simp only [Act.put, List.setIfInBounds_toArray, List.set_cons_zero, List.set_cons_succ, i64_w, i32_w]
    rfl
  refine pure_ (i := 3) (N := some 57) (v := ?_) (a' := ?_) #[true, true, true, true, false, false, false, false, false, false, false, false, false] rfl rfl (by kernel_rfl) (fun _ _ _ h => h) (Or.inl ⟨by rfl, ?_⟩) ?_ ?_
  rotate_left
  · intro w'
    go_simp
    with_reducible rfl
  rotate_left
  · simp only [Act.put, List.setIfInBounds_toArray, List.set_cons_zero, List.set_cons_succ, i64_w, i32_w]
    rfl
  refine pure_ (i := 5) (N := some 59) (v := ?_) (a' := ?_) #[true, true, true, true, false, true, false, false, false, false, false, false, false] rfl rfl (by kernel_rfl) (fun _ _ _ h => h) (Or.inl ⟨by rfl, ?_⟩) ?_ ?_
  rotate_left
  · intro w'
    go_simp
    with_reducible rfl
  rotate_left
  · simp only [Act.put, List.setIfInBounds_toArray, List.set_cons_zero, List.set_cons_succ, i64_w, i32_w]
    rfl
  refine pure_ (i := 6) (N := some 60) (v := ?_) (a' := ?_) #[true, true, true, true, false, true, true, false, false, false, false, false, false] rfl rfl (by kernel_rfl) (fun _ _ _ h => h) (Or.inl ⟨by rfl, ?_⟩) ?_ ?_
  rotate_left
  · intro w'
    go_simp
    with_reducible rfl
  rotate_left
  · simp only [Act.put, List.setIfInBounds_toArray, List.set_cons_zero, List.set_cons_succ, i64_w, i32_w]
    rfl
  refine pure_ (i := 8) (N := some 62) (v := ?_) (a' := ?_) #[true, true, true, true, false, true, true, false, true, false, false, false, false] rfl rfl (by kernel_rfl) (fun _ _ _ h => h) (Or.inl ⟨by rfl, ?_⟩) ?_ ?_
  rotate_left
  · intro w'
    go_simp
    with_reducible rfl
  rotate_left
  · simp only [Act.put, List.setIfInBounds_toArray, List.set_cons_zero, List.set_cons_succ, i64_w, i32_w]
    rfl
  refine pure_ (i := 9) (N := some 63) (v := ?_) (a' := ?_) #[true, true, true, true, false, true, true, false, true, true, false, false, false] rfl rfl (by kernel_rfl) (fun _ _ _ h => h) (Or.inl ⟨by rfl, ?_⟩) ?_ ?_
  rotate_left
  · intro w'
    go_simp
    with_reducible rfl
  rotate_left
  · simp only [Act.put, List.setIfInBounds_toArray, List.set_cons_zero, List.set_cons_succ, i64_w, i32_w]
    rfl
  refine one_ (i := 4) (N := some 58) #[true, true, true, true, true, true, true, false, true, true, false, false, false] rfl rfl (by kernel_rfl) (by decide) (fun K hK => ?_)
  refine goes_ Tryz.func26 (by kernel_rfl) rfl #[.string t] (by rfl) rfl rfl (by simp only [List.map_toArray, List.map_cons, List.map_nil]; rfl) ?_
  with_reducible refine (lowT_calls t HS_.out HLO.out _).mono ?_
  rintro e W3 ⟨rfl, hb⟩
  refine ⟨_, rfl, ?_⟩
  have n0_ := Aside0.mk (NumSt.call (by repeat (first | (with_reducible first | exact HST.out | apply NumSt.drewN | apply NumSt.drew))) hb); clear HST hb; have HST := n0_; clear n0_
  refine hK.out _ _ trivial (fun hHeld => ?_)
  clear hK K
  refine norm_ (a' := ?_) ?_ ?_
  rotate_left
  · show Act.put _ (some 58) _ = _
    simp only [Act.put, List.setIfInBounds_toArray, List.set_cons_zero, List.set_cons_succ, i64_w, i32_w]
    rfl
  refine one_ (i := 7) (N := some 61) #[true, true, true, true, true, true, true, true, true, true, false, false, false] rfl rfl (by kernel_rfl) (by decide) (fun K hK => ?_)
  refine goes_ Tryz.func25 (by kernel_rfl) rfl #[.string (lowT t), .string (hexB.extract 0 10)] (by rfl) rfl rfl (by simp only [List.map_toArray, List.map_cons, List.map_nil]; rfl) ?_
  with_reducible refine (chk_any 10 inB_dig10 t HS2.out HLO.out ok HOK.out _).mono ?_
  rintro e W4 ⟨t1, rfl, hcr, hb⟩
  refine ⟨_, rfl, ?_⟩
  have HCR := Aside0.mk hcr
  clear hcr
  have n0_ := Aside0.mk (NumSt.call (by repeat (first | (with_reducible first | exact HST.out | apply NumSt.drewN | apply NumSt.drew))) hb); clear HST hb; have HST := n0_; clear n0_
  refine hK.out _ _ trivial (fun hHeld => ?_)
  clear hK K
  refine norm_ (a' := ?_) ?_ ?_
  rotate_left
  · show Act.put _ (some 61) _ = _
    simp only [Act.put, List.setIfInBounds_toArray, List.set_cons_zero, List.set_cons_succ, i64_w, i32_w]
    rfl
  refine one_ (i := 10) (N := some 64) #[true, true, true, true, true, true, true, true, true, true, true, false, false] rfl rfl (by kernel_rfl) (by decide) (fun K hK => ?_)
  refine goes_ Tryz.func24 (by kernel_rfl) rfl #[.string t1, .string (hexB.extract 0 10)] (by rfl) rfl rfl (by simp only [List.map_toArray, List.map_cons, List.map_nil]; rfl) ?_
  with_reducible refine (HCR.out _).mono ?_
  rintro e W5 ⟨t2, rfl, f8, hb⟩
  refine ⟨_, rfl, ?_⟩
  have n0_ := Aside0.mk (NumSt.call (by repeat (first | (with_reducible first | exact HST.out | apply NumSt.drewN | apply NumSt.drew))) hb); clear HST hb; have HST := n0_; clear n0_
  refine hK.out _ _ trivial (fun hHeld => ?_)
  clear hK K
  refine norm_ (a' := ?_) ?_ ?_
  rotate_left
  · show Act.put _ (some 64) _ = _
    simp only [Act.put, List.setIfInBounds_toArray, List.set_cons_zero, List.set_cons_succ, i64_w, i32_w]
    rfl
  refine pure_ (i := 11) (N := some 65) (v := ?_) (a' := ?_) #[true, true, true, true, true, true, true, true, true, true, true, true, false] rfl rfl (by kernel_rfl) (fun _ _ _ h => h) (Or.inl ⟨by rfl, ?_⟩) ?_ ?_
  rotate_left
  · intro w'
    go_simp
    with_reducible rfl
  rotate_left
  · simp only [Act.put, List.setIfInBounds_toArray, List.set_cons_zero, List.set_cons_succ, i64_w, i32_w]
    rfl
  refine pure_ (i := 12) (N := some 66) (v := ?_) (a' := ?_) #[true, true, true, true, true, true, true, true, true, true, true, true, true] rfl rfl (by kernel_rfl) (fun _ _ _ h => h) (Or.inl ⟨by rfl, ?_⟩) ?_ ?_
  rotate_left
  · intro w'
    go_simp
    with_reducible rfl
  rotate_left
  · simp only [Act.put, List.setIfInBounds_toArray, List.set_cons_zero, List.set_cons_succ, i64_w, i32_w]
    rfl
  refine done_ (by kernel_rfl) ?_
  have hx := HX.out
  have hok := HOK.out
  clear HX HOK
  cases hx with
  | bad hbad =>
    obtain rfl : ok = false := by rw [← hok]; simpa using hbad
    clear hok hbad
    have HI0 := Aside0.mk HST.out.hi; have HK := Aside0.mk HST.out.hk; have HB := Aside0.mk HST.out.hb; have BK := Aside0.mk HST.out.bk; clear HST; have hnb := NB1.out; have hnc := NB0.out; have hcz_0 : W5.cell? ⟨gb, 0, none⟩ = some (.int .i64 0) := (blk_cell BK.out 0).trans rfl; have hcz_1 : W5.cell? ⟨gb, 1, none⟩ = some (.int .i64 0) := (blk_cell BK.out 1).trans rfl; have hcz_2 : W5.cell? ⟨gb, 2, none⟩ = some (.string (⟨#[]⟩ : ByteArray)) := (blk_cell BK.out 2).trans rfl; have hcz_3 : W5.cell? ⟨gb, 3, none⟩ = some (.int .i64 0) := (blk_cell BK.out 3).trans rfl; have hfz_0 := blk_frozen BK.out 0; have hfz_1 := blk_frozen BK.out 1; have hfz_2 := blk_frozen BK.out 2; have hfz_3 := blk_frozen BK.out 3
    go_wp2
    refine bodyPost_ret (results_list (rs := [.cell 2 33, .tmp 3, .tmp 4, .tmp 5]) rfl (by simp) (.cell gb 33 #[.int .i64 0, .int .i64 0, .string (⟨#[]⟩ : ByteArray), .int .i64 0] (0, 0) _ rfl (put4 (by (with_reducible repeat (first | refine blk_drewN ?_ _ | refine blk_drew ?_ | refine blk_alloc ?_ _)); exact BK.out)) Tryz.underlying33 rfl (by kernel_rfl) (.tmp (.tmp (.tmp .nil))))) rfl ?_
    show _ ∧ _ ∧ _ ∧ _
    exact ⟨by first | rfl | (simp; done) | (simp; rfl) | (simp [*]; done) | (simp [*]; rfl), by repeat (first | (with_reducible first | exact HI0.out | apply IsS36.alloc | apply IsS36.drewN | apply IsS36.drew | refine IsS36.far ?_ NB0.out _) | exact HI0.out), by repeat (first | (with_reducible first | exact HB.out | apply below_alloc | apply pw_below_drewN | apply below_drew1 | refine below_set ?_ (IsS36.ge HI0.out) | refine below_set ?_ GE.out) | exact HB.out), by repeat (first | (with_reducible first | exact HK.out | apply KeepBut.set_ | apply keep_drewN | apply keep_drew | apply keep_alloc | refine keep_far ?_ GW.out _) | exact HK.out)⟩
  | S hall v hv hp =>
    obtain rfl : ok = true := by rw [← hok]; exact hall
    have HP := Aside0.mk hp
    clear hok hall hp
    have v1 : decide ((v : Int) > 2147483648) = false := by simp; omega
    have v2 : decide (2147483648 < v) = false := by simp; omega
    have v3 : IntKind.i64.wrap (v : Int) = (v : Int) := IntWalk.i64_in _ (by omega)
    have v4 : ¬ (2147483648 : Int) < (v : Int) := by omega
    clear hv
    go_wp2_with (go_at_call 27; refine (HP.out _ (GV.below HG.out (NumSt.hb (by repeat (first | (with_reducible first | exact HST.out | apply NumSt.drewN | apply NumSt.drew)))))).mono ?_; rintro e W6 ⟨rfl, hb⟩; have n0_ := Aside0.mk (NumSt.call (by repeat (first | (with_reducible first | exact HST.out | apply NumSt.drewN | apply NumSt.drew))) hb); clear HST hb; have HST := n0_; clear n0_; have HI0 := Aside0.mk HST.out.hi; have HK := Aside0.mk HST.out.hk; have HB := Aside0.mk HST.out.hb; have BK := Aside0.mk HST.out.bk; clear HST; have hnb := NB1.out; have hnc := NB0.out; have hcz_0 : W6.cell? ⟨gb, 0, none⟩ = some (.int .i64 0) := (blk_cell BK.out 0).trans rfl; have hcz_1 : W6.cell? ⟨gb, 1, none⟩ = some (.int .i64 0) := (blk_cell BK.out 1).trans rfl; have hcz_2 : W6.cell? ⟨gb, 2, none⟩ = some (.string (⟨#[]⟩ : ByteArray)) := (blk_cell BK.out 2).trans rfl; have hcz_3 : W6.cell? ⟨gb, 3, none⟩ = some (.int .i64 0) := (blk_cell BK.out 3).trans rfl; have hfz_0 := blk_frozen BK.out 0; have hfz_1 := blk_frozen BK.out 1; have hfz_2 := blk_frozen BK.out 2; have hfz_3 := blk_frozen BK.out 3)
    refine bodyPost_ret (results_list (rs := [.cell 2 33, .tmp 3, .tmp 4, .tmp 5]) rfl (by simp) (.cell gb 33 #[.int .i64 2, .int .i64 0, .string t, .int .i64 (v : Int)] (0, 0) _ rfl (put4 (by (with_reducible repeat (first | refine blk_drewN ?_ _ | refine blk_drew ?_ | refine blk_alloc ?_ _)); exact BK.out)) Tryz.underlying33 rfl (by kernel_rfl) (.tmp (.tmp (.tmp .nil))))) rfl ?_
    show _ ∧ _ ∧ _ ∧ _
    exact ⟨by first | rfl | (simp; done) | (simp; rfl) | (simp [*]; done) | (simp [*]; rfl), by repeat (first | (with_reducible first | exact HI0.out | apply IsS36.alloc | apply IsS36.drewN | apply IsS36.drew | refine IsS36.far ?_ NB0.out _) | exact HI0.out), by repeat (first | (with_reducible first | exact HB.out | apply below_alloc | apply pw_below_drewN | apply below_drew1 | refine below_set ?_ (IsS36.ge HI0.out) | refine below_set ?_ GE.out) | exact HB.out), by repeat (first | (with_reducible first | exact HK.out | apply KeepBut.set_ | apply keep_drewN | apply keep_drew | apply keep_alloc | refine keep_far ?_ GW.out _) | exact HK.out)⟩
  | M hall v hv hp =>
    obtain rfl : ok = true := by rw [← hok]; exact hall
    have HP := Aside0.mk hp
    clear hok hall hp
    have v1 : decide ((v : Int) > 2147483648) = true := by simp; omega
    have v2 : decide (2147483648 < v) = true := by simp; omega
    have v4 : (2147483648 : Int) < (v : Int) := by omega
    clear hv
    go_wp2_with (go_at_call 27; refine (HP.out _ (GV.below HG.out (NumSt.hb (by repeat (first | (with_reducible first | exact HST.out | apply NumSt.drewN | apply NumSt.drew)))))).mono ?_; rintro e W6 ⟨rfl, hb⟩; have n0_ := Aside0.mk (NumSt.call (by repeat (first | (with_reducible first | exact HST.out | apply NumSt.drewN | apply NumSt.drew))) hb); clear HST hb; have HST := n0_; clear n0_; have HI0 := Aside0.mk HST.out.hi; have HK := Aside0.mk HST.out.hk; have HB := Aside0.mk HST.out.hb; have BK := Aside0.mk HST.out.bk; clear HST; have hnb := NB1.out; have hnc := NB0.out; have hcz_0 : W6.cell? ⟨gb, 0, none⟩ = some (.int .i64 0) := (blk_cell BK.out 0).trans rfl; have hcz_1 : W6.cell? ⟨gb, 1, none⟩ = some (.int .i64 0) := (blk_cell BK.out 1).trans rfl; have hcz_2 : W6.cell? ⟨gb, 2, none⟩ = some (.string (⟨#[]⟩ : ByteArray)) := (blk_cell BK.out 2).trans rfl; have hcz_3 : W6.cell? ⟨gb, 3, none⟩ = some (.int .i64 0) := (blk_cell BK.out 3).trans rfl; have hfz_0 := blk_frozen BK.out 0; have hfz_1 := blk_frozen BK.out 1; have hfz_2 := blk_frozen BK.out 2; have hfz_3 := blk_frozen BK.out 3)
    refine bodyPost_ret (results_list (rs := [.cell 2 33, .tmp 3, .tmp 4, .tmp 5]) rfl (by simp) (.cell gb 33 #[.int .i64 0, .int .i64 0, .string (⟨#[]⟩ : ByteArray), .int .i64 0] (0, 0) _ rfl (put4 (by (with_reducible repeat (first | refine blk_drewN ?_ _ | refine blk_drew ?_ | refine blk_alloc ?_ _)); exact BK.out)) Tryz.underlying33 rfl (by kernel_rfl) (.tmp (.tmp (.tmp .nil))))) rfl ?_
    show _ ∧ _ ∧ _ ∧ _
    exact ⟨by first | rfl | (simp; done) | (simp; rfl) | (simp [*]; done) | (simp [*]; rfl), by repeat (first | (with_reducible first | exact HI0.out | apply IsS36.alloc | apply IsS36.drewN | apply IsS36.drew | refine IsS36.far ?_ NB0.out _) | exact HI0.out), by repeat (first | (with_reducible first | exact HB.out | apply below_alloc | apply pw_below_drewN | apply below_drew1 | refine below_set ?_ (IsS36.ge HI0.out) | refine below_set ?_ GE.out) | exact HB.out), by repeat (first | (with_reducible first | exact HK.out | apply KeepBut.set_ | apply keep_drewN | apply keep_drew | apply keep_alloc | refine keep_far ?_ GW.out _) | exact HK.out)⟩
  | R hall v hp =>
    obtain rfl : ok = true := by rw [← hok]; exact hall
    have HP := Aside0.mk hp
    clear hok hall hp
    go_wp2_with (go_at_call 27; refine (HP.out _ (GV.below HG.out (NumSt.hb (by repeat (first | (with_reducible first | exact HST.out | apply NumSt.drewN | apply NumSt.drew)))))).mono ?_; rintro e W6 ⟨⟨NN, rfl⟩, hb⟩; have n0_ := Aside0.mk (NumSt.call (by repeat (first | (with_reducible first | exact HST.out | apply NumSt.drewN | apply NumSt.drew))) hb); clear HST hb; have HST := n0_; clear n0_; have HI0 := Aside0.mk HST.out.hi; have HK := Aside0.mk HST.out.hk; have HB := Aside0.mk HST.out.hb; have BK := Aside0.mk HST.out.bk; clear HST; have hnb := NB1.out; have hnc := NB0.out; have hcz_0 : W6.cell? ⟨gb, 0, none⟩ = some (.int .i64 0) := (blk_cell BK.out 0).trans rfl; have hcz_1 : W6.cell? ⟨gb, 1, none⟩ = some (.int .i64 0) := (blk_cell BK.out 1).trans rfl; have hcz_2 : W6.cell? ⟨gb, 2, none⟩ = some (.string (⟨#[]⟩ : ByteArray)) := (blk_cell BK.out 2).trans rfl; have hcz_3 : W6.cell? ⟨gb, 3, none⟩ = some (.int .i64 0) := (blk_cell BK.out 3).trans rfl; have hfz_0 := blk_frozen BK.out 0; have hfz_1 := blk_frozen BK.out 1; have hfz_2 := blk_frozen BK.out 2; have hfz_3 := blk_frozen BK.out 3)
    refine bodyPost_ret (results_list (rs := [.cell 2 33, .tmp 3, .tmp 4, .tmp 5]) rfl (by simp) (.cell gb 33 #[.int .i64 0, .int .i64 0, .string (⟨#[]⟩ : ByteArray), .int .i64 0] (0, 0) _ rfl (put4 (by (with_reducible repeat (first | refine blk_drewN ?_ _ | refine blk_drew ?_ | refine blk_alloc ?_ _)); exact BK.out)) Tryz.underlying33 rfl (by kernel_rfl) (.tmp (.tmp (.tmp .nil))))) rfl ?_
    show _ ∧ _ ∧ _ ∧ _
    exact ⟨by first | rfl | (simp; done) | (simp; rfl) | (simp [*]; done) | (simp [*]; rfl), by repeat (first | (with_reducible first | exact HI0.out | apply IsS36.alloc | apply IsS36.drewN | apply IsS36.drew | refine IsS36.far ?_ NB0.out _) | exact HI0.out), by repeat (first | (with_reducible first | exact HB.out | apply below_alloc | apply pw_below_drewN | apply below_drew1 | refine below_set ?_ (IsS36.ge HI0.out) | refine below_set ?_ GE.out) | exact HB.out), by repeat (first | (with_reducible first | exact HK.out | apply KeepBut.set_ | apply keep_drewN | apply keep_drew | apply keep_alloc | refine keep_far ?_ GW.out _) | exact HK.out)⟩
set_option maxHeartbeats 8000000 in
set_option maxRecDepth 100000 in
theorem num_D_any (g : Nat) (s0_0 : ByteArray) (s0_1 : Int) (w0 w : World) (hI : IsS36 w0 w g s0_0 s0_1) (hB : Below w0.heap.size w0 w) (h1 : 0 ≤ s0_1) (h2 : s0_1 < (s0_0.size : Int)) (t : ByteArray) (a5 : lex_digit.f (bt s0_0 s0_1) = some true) (a7 : lex_cursor_run.f s0_0 s0_1 = some (t, s0_0, s0_1)) (hts : t.size ≤ 1099511627776) (htl : Low t) (h0 : 0 < t.size) (hg : GV w0) (h3 : 1 < t.size) (h4 : (t[0]'h0).toNat ≠ 48) (he : 0 < t.size) (x : NumIs) (hx : NumCase t 10 x) :
    Calls Tryz.prog 11 #[.pointer (some ⟨g, 0, none⟩)] w (NumPost g s0_0 s0_1 w0 w t x) := by
  have hu28 := Tryz.underlying33
  have HI0 := Aside0.mk hI
  have HK := Aside0.mk (KeepBut.refl w g none)
  have HL := Aside0.mk hB.size
  clear hI
  have HW0 := Aside0.mk hB.size
  have HB := Aside0.mk hB
  clear hB
  have c2b0 : decide (0 ≤ s0_1) = true := decide_eq_true h1
  have c3b0 : decide (s0_1 < (s0_0.size : Int)) = true := decide_eq_true h2
  clear h1 h2
  have A5 := Aside0.mk a5
  have A7 := Aside0.mk a7
  have HG := Aside0.mk hg
  clear a5 a7 hg
  have f1 : decide ((t.size : Int) > 1) = true := by simp; omega
  have f1b : (1 : Int) < (t.size : Int) := by omega
  have f2 : (((t[0]'h0).toNat : Int) == 48) = false := by rw [beq_eq_false_iff_ne]; omega
  clear h4
  have f9 := not_empty' _ he
  have HX := Aside0.mk hx
  obtain ⟨ok, hok⟩ : ∃ ok, t.data.toList.all (fun c => decide (dig c < 10)) = ok := ⟨_, rfl⟩
  have HOK := Aside0.mk hok
  clear he hx hok
  have HS_ : Aside0 (t.size ≤ 140737488355328) := ⟨by omega⟩
  have HS2 : Aside0 (t.size ≤ 1099511627776) := ⟨by omega⟩
  have HLO : Aside0 (Low t) := ⟨htl⟩
  clear hts htl
  go_enter Tryz.func11, Tryz.ntmps11
  go_wp2_with ((with_reducible refine gate_dst (N := 2) rfl ?_); refine box_event ?hg (N := 2) ?hd (cs := #[.int .i64 0, .int .i64 0, .string (⟨#[]⟩ : ByteArray), .int .i64 0]) (t := 33) ?hr ?_; (case hd => rfl); (case hg => rfl); (case hr => first | (go_simp; done) | (go_simp; rfl)); intro gb hg w5 hbox hb; have n0_ := Aside0.mk (IsS36.below (by repeat (first | (with_reducible first | exact HI0.out | apply IsS36.alloc | apply IsS36.drewN | apply IsS36.drew) | exact HI0.out)) hb); have n1_ := Aside0.mk (KeepBut.trans (by repeat (first | (with_reducible first | exact HK.out | apply KeepBut.set_ | apply keep_drewN | apply keep_drew | apply keep_alloc) | exact HK.out)) (KeepBut.of_below hb g none) (.inl rfl)); have n2_ := Aside0.mk (below_step (by repeat (first | (with_reducible first | exact HB.out | apply below_alloc | apply pw_below_drewN | apply below_drew1 | refine below_set ?_ (IsS36.ge HI0.out)) | exact HB.out)) hb); have n3_ := Aside0.mk (hbox); have n4_ := Aside0.mk ((by rw [hg]; exact (keep_size (w := w) (g := g) (row := none) (by repeat (first | (with_reducible first | exact HK.out | apply KeepBut.set_ | apply keep_drewN | apply keep_drew | apply keep_alloc) | exact HK.out))) : w.heap.size ≤ gb)); have n5_ := Aside0.mk ((Nat.le_trans HW0.out (by rw [hg]; exact (keep_size (w := w) (g := g) (row := none) (by repeat (first | (with_reducible first | exact HK.out | apply KeepBut.set_ | apply keep_drewN | apply keep_drew | apply keep_alloc) | exact HK.out))) : w.heap.size ≤ gb) : w0.heap.size ≤ gb)); have n6_ := Aside0.mk ((by rw [hg]; exact Nat.ne_of_lt (IsS36.lt (show IsS36 w0 _ g s0_0 s0_1 from by repeat (first | (with_reducible first | exact HI0.out | apply IsS36.alloc | apply IsS36.drewN | apply IsS36.drew) | exact HI0.out))) : g ≠ gb)); have n7_ := Aside0.mk ((by rw [hg]; exact Nat.ne_of_gt (IsS36.lt (show IsS36 w0 _ g s0_0 s0_1 from by repeat (first | (with_reducible first | exact HI0.out | apply IsS36.alloc | apply IsS36.drewN | apply IsS36.drew) | exact HI0.out))) : gb ≠ g)); clear HI0; clear HK; clear HB; have HI0 := n0_; have HK := n1_; have HB := n2_; have BK := n3_; have GW := n4_; have GE := n5_; have NB0 := n6_; have NB1 := n7_; clear n0_ n1_ n2_ n3_ n4_ n5_ n6_ n7_; clear hb hbox hg; have HST := Aside0.mk (NumSt.mk HI0.out HK.out HB.out BK.out); clear HI0 HK HB BK; obtain ⟨HGz, hgz⟩ := HST.out.hi; have hcg_0 := cellS36_0 HGz; have hcg_1 := cellS36_1 HGz; have hfg_0 := blk_frozen HGz 0; have hfg_1 := blk_frozen HGz 1; clear HGz hgz; have p4 : 0 ≤ (s0_1 : Int) := of_decide_eq_true (by first | (with_reducible assumption) | assumption); have q4 : s0_1 < (s0_0.size : Int) := of_decide_eq_true (by first | (with_reducible assumption) | assumption); have hx4 := bt_at s0_0 s0_1; replace p4 := eq_true p4; replace q4 := eq_true q4)
  go_quiet ((go_at_call 23; (with_reducible refine (lex_digit.calls (bt s0_0 s0_1) true _ A5.out).mono ?_); rintro e w' ⟨rfl, ⟨nd, rfl⟩⟩; (try first | exact ⟨rfl, _, World.drewN_drewN _ _ _⟩ | exact ⟨rfl, _, Eq.trans (World.drewN_drewN _ _ _) (congrArg (World.drewN _) (Nat.add_assoc _ _ _))⟩)))
  go_wp2_with (go_at_call 22; (with_reducible refine (lex_cursor_run.calls g s0_0 s0_1 t s0_0 s0_1 w0 _ ?side1 ?side2 A7.out).mono ?_); (case side1 => exact NumSt.hi (by repeat (first | (with_reducible first | exact HST.out | apply NumSt.drewN | apply NumSt.drew)))); (case side2 => exact NumSt.hb (by repeat (first | (with_reducible first | exact HST.out | apply NumSt.drewN | apply NumSt.drew)))); rintro e w11 ⟨rfl, hi, hb, hk⟩; have n0_ := Aside0.mk (NumSt.run (by repeat (first | (with_reducible first | exact HST.out | apply NumSt.drewN | apply NumSt.drew))) NB1.out hi hb hk); clear HST hi hb hk; have HST := n0_; clear n0_)
  refine start_ (n := 13) (S := fun w' => True) (ds := []) #[false, false, false, false, false, false, false, false, false, false, false, false, false] (by kernel_rfl) rfl rfl trivial (fun hHeld => ?_)
  refine pure_ (i := 0) (N := some 54) (v := ?_) (a' := ?_) #[true, false, false, false, false, false, false, false, false, false, false, false, false] rfl rfl (by kernel_rfl) (fun _ _ _ h => h) (Or.inl ⟨by rfl, ?_⟩) ?_ ?_
  rotate_left
  · intro w'
    go_simp
    with_reducible rfl
  rotate_left
  · simp only [Act.put, List.setIfInBounds_toArray, List.set_cons_zero, List.set_cons_succ, i64_w, i32_w]
    rfl
  refine pure_ (i := 1) (N := some 55) (v := ?_) (a' := ?_) #[true, true, false, false, false, false, false, false, false, false, false, false, false] rfl rfl (by kernel_rfl) (fun _ _ _ h => h) (Or.inl ⟨by rfl, ?_⟩) ?_ ?_
  rotate_left
  · intro w'
    go_simp
    with_reducible rfl
  rotate_left
  · simp only [Act.put, List.setIfInBounds_toArray, List.set_cons_zero, List.set_cons_succ, i64_w, i32_w]
    rfl
  refine pure_ (i := 2) (N := some 56) (v := ?_) (a' := ?_) #[true, true, true, false, false, false, false, false, false, false, false, false, false] rfl rfl (by kernel_rfl) (fun _ _ _ h => h) (Or.inl ⟨by rfl, ?_⟩) ?_ ?_
  rotate_left
  · intro w'
    go_simp
    with_reducible rfl
  rotate_left
  · simp only [Act.put, List.setIfInBounds_toArray, List.set_cons_zero, List.set_cons_succ, i64_w, i32_w]
    rfl
  refine pure_ (i := 3) (N := some 57) (v := ?_) (a' := ?_) #[true, true, true, true, false, false, false, false, false, false, false, false, false] rfl rfl (by kernel_rfl) (fun _ _ _ h => h) (Or.inl ⟨by rfl, ?_⟩) ?_ ?_
  rotate_left
  · intro w'
    go_simp
    with_reducible rfl
  rotate_left
  · simp only [Act.put, List.setIfInBounds_toArray, List.set_cons_zero, List.set_cons_succ, i64_w, i32_w]
    rfl
  refine pure_ (i := 5) (N := some 59) (v := ?_) (a' := ?_) #[true, true, true, true, false, true, false, false, false, false, false, false, false] rfl rfl (by kernel_rfl) (fun _ _ _ h => h) (Or.inl ⟨by rfl, ?_⟩) ?_ ?_
  rotate_left
  · intro w'
    go_simp
    with_reducible rfl
  rotate_left
  · simp only [Act.put, List.setIfInBounds_toArray, List.set_cons_zero, List.set_cons_succ, i64_w, i32_w]
    rfl
  refine pure_ (i := 6) (N := some 60) (v := ?_) (a' := ?_) #[true, true, true, true, false, true, true, false, false, false, false, false, false] rfl rfl (by kernel_rfl) (fun _ _ _ h => h) (Or.inl ⟨by rfl, ?_⟩) ?_ ?_
  rotate_left
  · intro w'
    go_simp
    with_reducible rfl
  rotate_left
  · simp only [Act.put, List.setIfInBounds_toArray, List.set_cons_zero, List.set_cons_succ, i64_w, i32_w]
    rfl
  refine pure_ (i := 8) (N := some 62) (v := ?_) (a' := ?_) #[true, true, true, true, false, true, true, false, true, false, false, false, false] rfl rfl (by kernel_rfl) (fun _ _ _ h => h) (Or.inl ⟨by rfl, ?_⟩) ?_ ?_
  rotate_left
  · intro w'
    go_simp
    with_reducible rfl
  rotate_left
  · simp only [Act.put, List.setIfInBounds_toArray, List.set_cons_zero, List.set_cons_succ, i64_w, i32_w]
    rfl
  refine pure_ (i := 9) (N := some 63) (v := ?_) (a' := ?_) #[true, true, true, true, false, true, true, false, true, true, false, false, false] rfl rfl (by kernel_rfl) (fun _ _ _ h => h) (Or.inl ⟨by rfl, ?_⟩) ?_ ?_
  rotate_left
  · intro w'
    go_simp
    with_reducible rfl
  rotate_left
  · simp only [Act.put, List.setIfInBounds_toArray, List.set_cons_zero, List.set_cons_succ, i64_w, i32_w]
    rfl
  refine one_ (i := 4) (N := some 58) #[true, true, true, true, true, true, true, false, true, true, false, false, false] rfl rfl (by kernel_rfl) (by decide) (fun K hK => ?_)
  refine goes_ Tryz.func26 (by kernel_rfl) rfl #[.string t] (by rfl) rfl rfl (by simp only [List.map_toArray, List.map_cons, List.map_nil]; rfl) ?_
  with_reducible refine (lowT_calls t HS_.out HLO.out _).mono ?_
  rintro e W3 ⟨rfl, hb⟩
  refine ⟨_, rfl, ?_⟩
  have n0_ := Aside0.mk (NumSt.call (by repeat (first | (with_reducible first | exact HST.out | apply NumSt.drewN | apply NumSt.drew))) hb); clear HST hb; have HST := n0_; clear n0_
  refine hK.out _ _ trivial (fun hHeld => ?_)
  clear hK K
  refine norm_ (a' := ?_) ?_ ?_
  rotate_left
  · show Act.put _ (some 58) _ = _
    simp only [Act.put, List.setIfInBounds_toArray, List.set_cons_zero, List.set_cons_succ, i64_w, i32_w]
    rfl
  refine one_ (i := 7) (N := some 61) #[true, true, true, true, true, true, true, true, true, true, false, false, false] rfl rfl (by kernel_rfl) (by decide) (fun K hK => ?_)
  refine goes_ Tryz.func25 (by kernel_rfl) rfl #[.string (lowT t), .string (hexB.extract 0 10)] (by rfl) rfl rfl (by simp only [List.map_toArray, List.map_cons, List.map_nil]; rfl) ?_
  with_reducible refine (chk_any 10 inB_dig10 t HS2.out HLO.out ok HOK.out _).mono ?_
  rintro e W4 ⟨t1, rfl, hcr, hb⟩
  refine ⟨_, rfl, ?_⟩
  have HCR := Aside0.mk hcr
  clear hcr
  have n0_ := Aside0.mk (NumSt.call (by repeat (first | (with_reducible first | exact HST.out | apply NumSt.drewN | apply NumSt.drew))) hb); clear HST hb; have HST := n0_; clear n0_
  refine hK.out _ _ trivial (fun hHeld => ?_)
  clear hK K
  refine norm_ (a' := ?_) ?_ ?_
  rotate_left
  · show Act.put _ (some 61) _ = _
    simp only [Act.put, List.setIfInBounds_toArray, List.set_cons_zero, List.set_cons_succ, i64_w, i32_w]
    rfl
  refine one_ (i := 10) (N := some 64) #[true, true, true, true, true, true, true, true, true, true, true, false, false] rfl rfl (by kernel_rfl) (by decide) (fun K hK => ?_)
  refine goes_ Tryz.func24 (by kernel_rfl) rfl #[.string t1, .string (hexB.extract 0 10)] (by rfl) rfl rfl (by simp only [List.map_toArray, List.map_cons, List.map_nil]; rfl) ?_
  with_reducible refine (HCR.out _).mono ?_
  rintro e W5 ⟨t2, rfl, f8, hb⟩
  refine ⟨_, rfl, ?_⟩
  have n0_ := Aside0.mk (NumSt.call (by repeat (first | (with_reducible first | exact HST.out | apply NumSt.drewN | apply NumSt.drew))) hb); clear HST hb; have HST := n0_; clear n0_
  refine hK.out _ _ trivial (fun hHeld => ?_)
  clear hK K
  refine norm_ (a' := ?_) ?_ ?_
  rotate_left
  · show Act.put _ (some 64) _ = _
    simp only [Act.put, List.setIfInBounds_toArray, List.set_cons_zero, List.set_cons_succ, i64_w, i32_w]
    rfl
  refine pure_ (i := 11) (N := some 65) (v := ?_) (a' := ?_) #[true, true, true, true, true, true, true, true, true, true, true, true, false] rfl rfl (by kernel_rfl) (fun _ _ _ h => h) (Or.inl ⟨by rfl, ?_⟩) ?_ ?_
  rotate_left
  · intro w'
    go_simp
    with_reducible rfl
  rotate_left
  · simp only [Act.put, List.setIfInBounds_toArray, List.set_cons_zero, List.set_cons_succ, i64_w, i32_w]
    rfl
  refine pure_ (i := 12) (N := some 66) (v := ?_) (a' := ?_) #[true, true, true, true, true, true, true, true, true, true, true, true, true] rfl rfl (by kernel_rfl) (fun _ _ _ h => h) (Or.inl ⟨by rfl, ?_⟩) ?_ ?_
  rotate_left
  · intro w'
    go_simp
    with_reducible rfl
  rotate_left
  · simp only [Act.put, List.setIfInBounds_toArray, List.set_cons_zero, List.set_cons_succ, i64_w, i32_w]
    rfl
  refine done_ (by kernel_rfl) ?_
  have hx := HX.out
  have hok := HOK.out
  clear HX HOK
  cases hx with
  | bad hbad =>
    obtain rfl : ok = false := by rw [← hok]; simpa using hbad
    clear hok hbad
    have HI0 := Aside0.mk HST.out.hi; have HK := Aside0.mk HST.out.hk; have HB := Aside0.mk HST.out.hb; have BK := Aside0.mk HST.out.bk; clear HST; have hnb := NB1.out; have hnc := NB0.out; have hcz_0 : W5.cell? ⟨gb, 0, none⟩ = some (.int .i64 0) := (blk_cell BK.out 0).trans rfl; have hcz_1 : W5.cell? ⟨gb, 1, none⟩ = some (.int .i64 0) := (blk_cell BK.out 1).trans rfl; have hcz_2 : W5.cell? ⟨gb, 2, none⟩ = some (.string (⟨#[]⟩ : ByteArray)) := (blk_cell BK.out 2).trans rfl; have hcz_3 : W5.cell? ⟨gb, 3, none⟩ = some (.int .i64 0) := (blk_cell BK.out 3).trans rfl; have hfz_0 := blk_frozen BK.out 0; have hfz_1 := blk_frozen BK.out 1; have hfz_2 := blk_frozen BK.out 2; have hfz_3 := blk_frozen BK.out 3
    go_wp2
    refine bodyPost_ret (results_list (rs := [.cell 2 33, .tmp 3, .tmp 4, .tmp 5]) rfl (by simp) (.cell gb 33 #[.int .i64 0, .int .i64 0, .string (⟨#[]⟩ : ByteArray), .int .i64 0] (0, 0) _ rfl (put4 (by (with_reducible repeat (first | refine blk_drewN ?_ _ | refine blk_drew ?_ | refine blk_alloc ?_ _)); exact BK.out)) Tryz.underlying33 rfl (by kernel_rfl) (.tmp (.tmp (.tmp .nil))))) rfl ?_
    show _ ∧ _ ∧ _ ∧ _
    exact ⟨by first | rfl | (simp; done) | (simp; rfl) | (simp [*]; done) | (simp [*]; rfl), by repeat (first | (with_reducible first | exact HI0.out | apply IsS36.alloc | apply IsS36.drewN | apply IsS36.drew | refine IsS36.far ?_ NB0.out _) | exact HI0.out), by repeat (first | (with_reducible first | exact HB.out | apply below_alloc | apply pw_below_drewN | apply below_drew1 | refine below_set ?_ (IsS36.ge HI0.out) | refine below_set ?_ GE.out) | exact HB.out), by repeat (first | (with_reducible first | exact HK.out | apply KeepBut.set_ | apply keep_drewN | apply keep_drew | apply keep_alloc | refine keep_far ?_ GW.out _) | exact HK.out)⟩
  | S hall v hv hp =>
    obtain rfl : ok = true := by rw [← hok]; exact hall
    have HP := Aside0.mk hp
    clear hok hall hp
    have v1 : decide ((v : Int) > 2147483648) = false := by simp; omega
    have v2 : decide (2147483648 < v) = false := by simp; omega
    have v3 : IntKind.i64.wrap (v : Int) = (v : Int) := IntWalk.i64_in _ (by omega)
    have v4 : ¬ (2147483648 : Int) < (v : Int) := by omega
    clear hv
    go_wp2_with (go_at_call 27; refine (HP.out _ (GV.below HG.out (NumSt.hb (by repeat (first | (with_reducible first | exact HST.out | apply NumSt.drewN | apply NumSt.drew)))))).mono ?_; rintro e W6 ⟨rfl, hb⟩; have n0_ := Aside0.mk (NumSt.call (by repeat (first | (with_reducible first | exact HST.out | apply NumSt.drewN | apply NumSt.drew))) hb); clear HST hb; have HST := n0_; clear n0_; have HI0 := Aside0.mk HST.out.hi; have HK := Aside0.mk HST.out.hk; have HB := Aside0.mk HST.out.hb; have BK := Aside0.mk HST.out.bk; clear HST; have hnb := NB1.out; have hnc := NB0.out; have hcz_0 : W6.cell? ⟨gb, 0, none⟩ = some (.int .i64 0) := (blk_cell BK.out 0).trans rfl; have hcz_1 : W6.cell? ⟨gb, 1, none⟩ = some (.int .i64 0) := (blk_cell BK.out 1).trans rfl; have hcz_2 : W6.cell? ⟨gb, 2, none⟩ = some (.string (⟨#[]⟩ : ByteArray)) := (blk_cell BK.out 2).trans rfl; have hcz_3 : W6.cell? ⟨gb, 3, none⟩ = some (.int .i64 0) := (blk_cell BK.out 3).trans rfl; have hfz_0 := blk_frozen BK.out 0; have hfz_1 := blk_frozen BK.out 1; have hfz_2 := blk_frozen BK.out 2; have hfz_3 := blk_frozen BK.out 3)
    refine bodyPost_ret (results_list (rs := [.cell 2 33, .tmp 3, .tmp 4, .tmp 5]) rfl (by simp) (.cell gb 33 #[.int .i64 2, .int .i64 0, .string t, .int .i64 (v : Int)] (0, 0) _ rfl (put4 (by (with_reducible repeat (first | refine blk_drewN ?_ _ | refine blk_drew ?_ | refine blk_alloc ?_ _)); exact BK.out)) Tryz.underlying33 rfl (by kernel_rfl) (.tmp (.tmp (.tmp .nil))))) rfl ?_
    show _ ∧ _ ∧ _ ∧ _
    exact ⟨by first | rfl | (simp; done) | (simp; rfl) | (simp [*]; done) | (simp [*]; rfl), by repeat (first | (with_reducible first | exact HI0.out | apply IsS36.alloc | apply IsS36.drewN | apply IsS36.drew | refine IsS36.far ?_ NB0.out _) | exact HI0.out), by repeat (first | (with_reducible first | exact HB.out | apply below_alloc | apply pw_below_drewN | apply below_drew1 | refine below_set ?_ (IsS36.ge HI0.out) | refine below_set ?_ GE.out) | exact HB.out), by repeat (first | (with_reducible first | exact HK.out | apply KeepBut.set_ | apply keep_drewN | apply keep_drew | apply keep_alloc | refine keep_far ?_ GW.out _) | exact HK.out)⟩
  | M hall v hv hp =>
    obtain rfl : ok = true := by rw [← hok]; exact hall
    have HP := Aside0.mk hp
    clear hok hall hp
    have v1 : decide ((v : Int) > 2147483648) = true := by simp; omega
    have v2 : decide (2147483648 < v) = true := by simp; omega
    have v4 : (2147483648 : Int) < (v : Int) := by omega
    clear hv
    go_wp2_with (go_at_call 27; refine (HP.out _ (GV.below HG.out (NumSt.hb (by repeat (first | (with_reducible first | exact HST.out | apply NumSt.drewN | apply NumSt.drew)))))).mono ?_; rintro e W6 ⟨rfl, hb⟩; have n0_ := Aside0.mk (NumSt.call (by repeat (first | (with_reducible first | exact HST.out | apply NumSt.drewN | apply NumSt.drew))) hb); clear HST hb; have HST := n0_; clear n0_; have HI0 := Aside0.mk HST.out.hi; have HK := Aside0.mk HST.out.hk; have HB := Aside0.mk HST.out.hb; have BK := Aside0.mk HST.out.bk; clear HST; have hnb := NB1.out; have hnc := NB0.out; have hcz_0 : W6.cell? ⟨gb, 0, none⟩ = some (.int .i64 0) := (blk_cell BK.out 0).trans rfl; have hcz_1 : W6.cell? ⟨gb, 1, none⟩ = some (.int .i64 0) := (blk_cell BK.out 1).trans rfl; have hcz_2 : W6.cell? ⟨gb, 2, none⟩ = some (.string (⟨#[]⟩ : ByteArray)) := (blk_cell BK.out 2).trans rfl; have hcz_3 : W6.cell? ⟨gb, 3, none⟩ = some (.int .i64 0) := (blk_cell BK.out 3).trans rfl; have hfz_0 := blk_frozen BK.out 0; have hfz_1 := blk_frozen BK.out 1; have hfz_2 := blk_frozen BK.out 2; have hfz_3 := blk_frozen BK.out 3)
    refine bodyPost_ret (results_list (rs := [.cell 2 33, .tmp 3, .tmp 4, .tmp 5]) rfl (by simp) (.cell gb 33 #[.int .i64 0, .int .i64 0, .string (⟨#[]⟩ : ByteArray), .int .i64 0] (0, 0) _ rfl (put4 (by (with_reducible repeat (first | refine blk_drewN ?_ _ | refine blk_drew ?_ | refine blk_alloc ?_ _)); exact BK.out)) Tryz.underlying33 rfl (by kernel_rfl) (.tmp (.tmp (.tmp .nil))))) rfl ?_
    show _ ∧ _ ∧ _ ∧ _
    exact ⟨by first | rfl | (simp; done) | (simp; rfl) | (simp [*]; done) | (simp [*]; rfl), by repeat (first | (with_reducible first | exact HI0.out | apply IsS36.alloc | apply IsS36.drewN | apply IsS36.drew | refine IsS36.far ?_ NB0.out _) | exact HI0.out), by repeat (first | (with_reducible first | exact HB.out | apply below_alloc | apply pw_below_drewN | apply below_drew1 | refine below_set ?_ (IsS36.ge HI0.out) | refine below_set ?_ GE.out) | exact HB.out), by repeat (first | (with_reducible first | exact HK.out | apply KeepBut.set_ | apply keep_drewN | apply keep_drew | apply keep_alloc | refine keep_far ?_ GW.out _) | exact HK.out)⟩
  | R hall v hp =>
    obtain rfl : ok = true := by rw [← hok]; exact hall
    have HP := Aside0.mk hp
    clear hok hall hp
    go_wp2_with (go_at_call 27; refine (HP.out _ (GV.below HG.out (NumSt.hb (by repeat (first | (with_reducible first | exact HST.out | apply NumSt.drewN | apply NumSt.drew)))))).mono ?_; rintro e W6 ⟨⟨NN, rfl⟩, hb⟩; have n0_ := Aside0.mk (NumSt.call (by repeat (first | (with_reducible first | exact HST.out | apply NumSt.drewN | apply NumSt.drew))) hb); clear HST hb; have HST := n0_; clear n0_; have HI0 := Aside0.mk HST.out.hi; have HK := Aside0.mk HST.out.hk; have HB := Aside0.mk HST.out.hb; have BK := Aside0.mk HST.out.bk; clear HST; have hnb := NB1.out; have hnc := NB0.out; have hcz_0 : W6.cell? ⟨gb, 0, none⟩ = some (.int .i64 0) := (blk_cell BK.out 0).trans rfl; have hcz_1 : W6.cell? ⟨gb, 1, none⟩ = some (.int .i64 0) := (blk_cell BK.out 1).trans rfl; have hcz_2 : W6.cell? ⟨gb, 2, none⟩ = some (.string (⟨#[]⟩ : ByteArray)) := (blk_cell BK.out 2).trans rfl; have hcz_3 : W6.cell? ⟨gb, 3, none⟩ = some (.int .i64 0) := (blk_cell BK.out 3).trans rfl; have hfz_0 := blk_frozen BK.out 0; have hfz_1 := blk_frozen BK.out 1; have hfz_2 := blk_frozen BK.out 2; have hfz_3 := blk_frozen BK.out 3)
    refine bodyPost_ret (results_list (rs := [.cell 2 33, .tmp 3, .tmp 4, .tmp 5]) rfl (by simp) (.cell gb 33 #[.int .i64 0, .int .i64 0, .string (⟨#[]⟩ : ByteArray), .int .i64 0] (0, 0) _ rfl (put4 (by (with_reducible repeat (first | refine blk_drewN ?_ _ | refine blk_drew ?_ | refine blk_alloc ?_ _)); exact BK.out)) Tryz.underlying33 rfl (by kernel_rfl) (.tmp (.tmp (.tmp .nil))))) rfl ?_
    show _ ∧ _ ∧ _ ∧ _
    exact ⟨by first | rfl | (simp; done) | (simp; rfl) | (simp [*]; done) | (simp [*]; rfl), by repeat (first | (with_reducible first | exact HI0.out | apply IsS36.alloc | apply IsS36.drewN | apply IsS36.drew | refine IsS36.far ?_ NB0.out _) | exact HI0.out), by repeat (first | (with_reducible first | exact HB.out | apply below_alloc | apply pw_below_drewN | apply below_drew1 | refine below_set ?_ (IsS36.ge HI0.out) | refine below_set ?_ GE.out) | exact HB.out), by repeat (first | (with_reducible first | exact HK.out | apply KeepBut.set_ | apply keep_drewN | apply keep_drew | apply keep_alloc | refine keep_far ?_ GW.out _) | exact HK.out)⟩
theorem numIs_eq (l rl : List UInt8) (b : Nat) (h : numParts l = (b, rl)) : numIs l = if rl = [] ∨ ¬ (rl.all fun c => decide (dig c < b)) = true then .word else if val b rl 0 ≤ 2147483648 then .ok (val b rl 0) else .range := by
  unfold numIs
  rw [h]
theorem parse63 (b : Nat) (hb : 1 ≤ b) (hin : ∀ t : ByteArray, t.size ≠ 0 → t.size ≤ 9223372036854775806 → ∀ w, Calls Tryz.prog 53 #[.string t, .int .i64 b, .int .i64 63] w fun e w' => e = .returned (puTuple 9223372036854775807 (pu b 9223372036854775807 t.data.toList 0)) ∧ Below w.heap.size w w')
    (rest : ByteArray) (he : 0 < rest.size) (hs : rest.size ≤ 1099511627776) (hall : rest.data.toList.all (fun c => decide (dig c < b)) = true) :
    (val b rest.data.toList 0 ≤ 9223372036854775807 → ∀ w, GV w → Calls Tryz.prog 27 #[.string rest, .int .i64 b, .int .i64 63] w fun e w' => e = .returned (.tuple #[.int .u64 (val b rest.data.toList 0 : Nat), .nilIface]) ∧ Below w.heap.size w w')
    ∧ (¬ val b rest.data.toList 0 ≤ 9223372036854775807 → ∀ w, GV w → Calls Tryz.prog 27 #[.string rest, .int .i64 b, .int .i64 63] w fun e w' => NumErr 9223372036854775807 e ∧ Below w.heap.size w w') := by
  have ha : ∀ c ∈ rest.data.toList, dig c < b := fun c hc => of_decide_eq_true (List.all_eq_true.1 hall c hc)
  refine ⟨fun hv w hg => pub_ok _ _ _ 9223372036854775807 _ (fun w => ?_) w, fun hv w hg => pub_range _ _ _ 9223372036854775807 (fun w => ?_) (by omega) w hg⟩
  · have h := hin rest (by omega) (by omega) w
    rw [pu_ok b _ hb _ _ ha hv] at h
    exact h
  · have h := hin rest (by omega) (by omega) w
    rw [pu_range b _ hb _ _ ha (by omega) (by omega)] at h
    exact h
theorem toList_one (t : ByteArray) (h : 0 < t.size) : t.data.toList = t[0]'h :: t.data.toList.drop 1 := by
  have hl : t.data.toList.length = t.size := (Lib.size_eq t).symm
  have := List.drop_eq_getElem_cons (l := t.data.toList) (i := 0) (by omega)
  rw [List.drop_zero] at this
  exact this
theorem toList_two (t : ByteArray) (h : 1 < t.size) : t.data.toList = t[0]'(by omega) :: t[1]'h :: t.data.toList.drop 2 := by
  have hl : t.data.toList.length = t.size := (Lib.size_eq t).symm
  have h1 := toList_one t (by omega)
  have := List.drop_eq_getElem_cons (l := t.data.toList) (i := 1) (by omega)
  rw [this] at h1
  exact h1
theorem extract_drop (t : ByteArray) (n : Nat) : (t.extract n t.size).data.toList = t.data.toList.drop n := by
  rw [ByteArray.data_extract, Array.toList_extract, List.extract_eq_take_drop]
  rw [List.take_of_length_le (by rw [List.length_drop, (Lib.size_eq t).symm]; omega)]
theorem num_A (g : Nat) (s0_0 : ByteArray) (s0_1 : Int) (w0 w : World) (hI : IsS36 w0 w g s0_0 s0_1) (hB : Below w0.heap.size w0 w) (h1 : 0 ≤ s0_1) (h2 : s0_1 < (s0_0.size : Int)) (t : ByteArray) (a5 : lex_digit.f (bt s0_0 s0_1) = some true) (a7 : lex_cursor_run.f s0_0 s0_1 = some (t, s0_0, s0_1)) (hts : t.size ≤ 1099511627776) (htl : Low t) (h0 : 0 < t.size) (hg : GV w0) (h3 : 1 < t.size) (h4 : (t[0]'h0).toNat = 48) (h5 : low (t[1]'h3) = 120) :
    Calls Tryz.prog 11 #[.pointer (some ⟨g, 0, none⟩)] w (NumPost g s0_0 s0_1 w0 w t (numIs t.data.toList)) := by
  have hp : numParts t.data.toList = (16, (t.extract 2 t.size).data.toList) := by
    rw [extract_drop]; conv => lhs; rw [toList_two t h3]
    simp only [numParts, if_pos h4, if_pos h5]
  have hsz : (t.extract 2 t.size).size = t.size - 2 := by rw [ByteArray.size_extract]; omega
  by_cases he : 0 < (t.extract 2 t.size).size
  · have hre : ¬ (t.extract 2 t.size).data.toList = [] := by intro hx; have := Lib.size_eq (t.extract 2 t.size); rw [hx, List.length_nil] at this; omega
    by_cases hall : (t.extract 2 t.size).data.toList.all (fun c => decide (dig c < 16)) = true
    · have hor : ¬ ((t.extract 2 t.size).data.toList = [] ∨ ¬ (t.extract 2 t.size).data.toList.all (fun c => decide (dig c < 16)) = true) := fun h => h.elim hre (fun h => h hall)
      have hpp := parse63 16 (by omega) (fun t h1 h2 w => (parseUint_16_63 t h1 h2 w).mono fun e w' ⟨he, hw⟩ => ⟨he, by rw [hw]; exact Lib.bytesWorld_below _ _ _⟩) (t.extract 2 t.size) he (by omega) hall
      by_cases hv : val 16 (t.extract 2 t.size).data.toList 0 ≤ 2147483648
      · have hn : numIs t.data.toList = .ok (val 16 (t.extract 2 t.size).data.toList 0) := by rw [numIs_eq _ _ _ hp, if_neg hor, if_pos hv]
        rw [hn]
        exact num_A_any g s0_0 s0_1 w0 w hI hB h1 h2 t a5 a7 hts htl h0 hg h3 h4 h5 he _ (NumCase.S hall _ hv (hpp.1 (by omega)))
      · have hn : numIs t.data.toList = .range := by rw [numIs_eq _ _ _ hp, if_neg hor, if_neg hv]
        rw [hn]
        by_cases hv2 : val 16 (t.extract 2 t.size).data.toList 0 ≤ 9223372036854775807
        · exact num_A_any g s0_0 s0_1 w0 w hI hB h1 h2 t a5 a7 hts htl h0 hg h3 h4 h5 he _ (NumCase.M hall _ (by omega) (hpp.1 hv2))
        · exact num_A_any g s0_0 s0_1 w0 w hI hB h1 h2 t a5 a7 hts htl h0 hg h3 h4 h5 he _ (NumCase.R hall _ (hpp.2 hv2))
    · have hn : numIs t.data.toList = .word := by rw [numIs_eq _ _ _ hp, if_pos (Or.inr hall)]
      rw [hn]
      exact num_A_any g s0_0 s0_1 w0 w hI hB h1 h2 t a5 a7 hts htl h0 hg h3 h4 h5 he _ (NumCase.bad hall)
  · have hre : (t.extract 2 t.size).data.toList = [] := List.length_eq_zero_iff.1 (by rw [← Lib.size_eq]; omega)
    have hn : numIs t.data.toList = .word := by rw [numIs_eq _ _ _ hp, if_pos (Or.inl hre)]
    rw [hn]
    exact num_A_empty g s0_0 s0_1 w0 w hI hB h1 h2 t a5 a7 hts htl h0 hg h3 h4 h5 (by omega)
theorem num_B (g : Nat) (s0_0 : ByteArray) (s0_1 : Int) (w0 w : World) (hI : IsS36 w0 w g s0_0 s0_1) (hB : Below w0.heap.size w0 w) (h1 : 0 ≤ s0_1) (h2 : s0_1 < (s0_0.size : Int)) (t : ByteArray) (a5 : lex_digit.f (bt s0_0 s0_1) = some true) (a7 : lex_cursor_run.f s0_0 s0_1 = some (t, s0_0, s0_1)) (hts : t.size ≤ 1099511627776) (htl : Low t) (h0 : 0 < t.size) (hg : GV w0) (h3 : 1 < t.size) (h4 : (t[0]'h0).toNat = 48) (h5 : low (t[1]'h3) ≠ 120) :
    Calls Tryz.prog 11 #[.pointer (some ⟨g, 0, none⟩)] w (NumPost g s0_0 s0_1 w0 w t (numIs t.data.toList)) := by
  have hp : numParts t.data.toList = (8, (t.extract 1 t.size).data.toList) := by
    rw [extract_drop]; conv => lhs; rw [toList_two t h3]
    simp only [numParts, if_pos h4, if_neg h5]
    have := List.drop_eq_getElem_cons (l := t.data.toList) (i := 1) (by rw [← Lib.size_eq t]; omega)
    rw [this]
    rfl
  have hsz : (t.extract 1 t.size).size = t.size - 1 := by rw [ByteArray.size_extract]; omega
  by_cases he : 0 < (t.extract 1 t.size).size
  · have hre : ¬ (t.extract 1 t.size).data.toList = [] := by intro hx; have := Lib.size_eq (t.extract 1 t.size); rw [hx, List.length_nil] at this; omega
    by_cases hall : (t.extract 1 t.size).data.toList.all (fun c => decide (dig c < 8)) = true
    · have hor : ¬ ((t.extract 1 t.size).data.toList = [] ∨ ¬ (t.extract 1 t.size).data.toList.all (fun c => decide (dig c < 8)) = true) := fun h => h.elim hre (fun h => h hall)
      have hpp := parse63 8 (by omega) (fun t h1 h2 w => (parseUint_8_63 t h1 h2 w).mono fun e w' ⟨he, hw⟩ => ⟨he, by rw [hw]; exact Lib.bytesWorld_below _ _ _⟩) (t.extract 1 t.size) he (by omega) hall
      by_cases hv : val 8 (t.extract 1 t.size).data.toList 0 ≤ 2147483648
      · have hn : numIs t.data.toList = .ok (val 8 (t.extract 1 t.size).data.toList 0) := by rw [numIs_eq _ _ _ hp, if_neg hor, if_pos hv]
        rw [hn]
        exact num_B_any g s0_0 s0_1 w0 w hI hB h1 h2 t a5 a7 hts htl h0 hg h3 h4 h5 he _ (NumCase.S hall _ hv (hpp.1 (by omega)))
      · have hn : numIs t.data.toList = .range := by rw [numIs_eq _ _ _ hp, if_neg hor, if_neg hv]
        rw [hn]
        by_cases hv2 : val 8 (t.extract 1 t.size).data.toList 0 ≤ 9223372036854775807
        · exact num_B_any g s0_0 s0_1 w0 w hI hB h1 h2 t a5 a7 hts htl h0 hg h3 h4 h5 he _ (NumCase.M hall _ (by omega) (hpp.1 hv2))
        · exact num_B_any g s0_0 s0_1 w0 w hI hB h1 h2 t a5 a7 hts htl h0 hg h3 h4 h5 he _ (NumCase.R hall _ (hpp.2 hv2))
    · have hn : numIs t.data.toList = .word := by rw [numIs_eq _ _ _ hp, if_pos (Or.inr hall)]
      rw [hn]
      exact num_B_any g s0_0 s0_1 w0 w hI hB h1 h2 t a5 a7 hts htl h0 hg h3 h4 h5 he _ (NumCase.bad hall)
  · exact absurd hsz (by omega)
theorem num_C (g : Nat) (s0_0 : ByteArray) (s0_1 : Int) (w0 w : World) (hI : IsS36 w0 w g s0_0 s0_1) (hB : Below w0.heap.size w0 w) (h1 : 0 ≤ s0_1) (h2 : s0_1 < (s0_0.size : Int)) (t : ByteArray) (a5 : lex_digit.f (bt s0_0 s0_1) = some true) (a7 : lex_cursor_run.f s0_0 s0_1 = some (t, s0_0, s0_1)) (hts : t.size ≤ 1099511627776) (htl : Low t) (h0 : 0 < t.size) (hg : GV w0) (h3 : t.size = 1) :
    Calls Tryz.prog 11 #[.pointer (some ⟨g, 0, none⟩)] w (NumPost g s0_0 s0_1 w0 w t (numIs t.data.toList)) := by
  have hp : numParts t.data.toList = (10, t.data.toList) := by
    have hl : t.data.toList.length = t.size := (Lib.size_eq t).symm
    match hm : t.data.toList with
    | [] => rfl
    | [a] => rfl
    | a :: b :: c => rw [hm] at hl; simp at hl; omega
  have hsz : t.size = t.size := rfl
  by_cases he : 0 < t.size
  · have hre : ¬ t.data.toList = [] := by intro hx; have := Lib.size_eq t; rw [hx, List.length_nil] at this; omega
    by_cases hall : t.data.toList.all (fun c => decide (dig c < 10)) = true
    · have hor : ¬ (t.data.toList = [] ∨ ¬ t.data.toList.all (fun c => decide (dig c < 10)) = true) := fun h => h.elim hre (fun h => h hall)
      have hpp := parse63 10 (by omega) (fun t h1 h2 w => (parseUint_10_63 t h1 h2 w).mono fun e w' ⟨he, hw⟩ => ⟨he, by rw [hw]; exact Lib.bytesWorld_below _ _ _⟩) t he (by omega) hall
      by_cases hv : val 10 t.data.toList 0 ≤ 2147483648
      · have hn : numIs t.data.toList = .ok (val 10 t.data.toList 0) := by rw [numIs_eq _ _ _ hp, if_neg hor, if_pos hv]
        rw [hn]
        exact num_C_any g s0_0 s0_1 w0 w hI hB h1 h2 t a5 a7 hts htl h0 hg h3 he _ (NumCase.S hall _ hv (hpp.1 (by omega)))
      · have hn : numIs t.data.toList = .range := by rw [numIs_eq _ _ _ hp, if_neg hor, if_neg hv]
        rw [hn]
        by_cases hv2 : val 10 t.data.toList 0 ≤ 9223372036854775807
        · exact num_C_any g s0_0 s0_1 w0 w hI hB h1 h2 t a5 a7 hts htl h0 hg h3 he _ (NumCase.M hall _ (by omega) (hpp.1 hv2))
        · exact num_C_any g s0_0 s0_1 w0 w hI hB h1 h2 t a5 a7 hts htl h0 hg h3 he _ (NumCase.R hall _ (hpp.2 hv2))
    · have hn : numIs t.data.toList = .word := by rw [numIs_eq _ _ _ hp, if_pos (Or.inr hall)]
      rw [hn]
      exact num_C_any g s0_0 s0_1 w0 w hI hB h1 h2 t a5 a7 hts htl h0 hg h3 he _ (NumCase.bad hall)
  · exact absurd h0 he
theorem num_D (g : Nat) (s0_0 : ByteArray) (s0_1 : Int) (w0 w : World) (hI : IsS36 w0 w g s0_0 s0_1) (hB : Below w0.heap.size w0 w) (h1 : 0 ≤ s0_1) (h2 : s0_1 < (s0_0.size : Int)) (t : ByteArray) (a5 : lex_digit.f (bt s0_0 s0_1) = some true) (a7 : lex_cursor_run.f s0_0 s0_1 = some (t, s0_0, s0_1)) (hts : t.size ≤ 1099511627776) (htl : Low t) (h0 : 0 < t.size) (hg : GV w0) (h3 : 1 < t.size) (h4 : (t[0]'h0).toNat ≠ 48) :
    Calls Tryz.prog 11 #[.pointer (some ⟨g, 0, none⟩)] w (NumPost g s0_0 s0_1 w0 w t (numIs t.data.toList)) := by
  have hp : numParts t.data.toList = (10, t.data.toList) := by
    conv => lhs; rw [toList_two t h3]
    simp only [numParts, if_neg h4]
    rw [← toList_two t h3]
  have hsz : t.size = t.size := rfl
  by_cases he : 0 < t.size
  · have hre : ¬ t.data.toList = [] := by intro hx; have := Lib.size_eq t; rw [hx, List.length_nil] at this; omega
    by_cases hall : t.data.toList.all (fun c => decide (dig c < 10)) = true
    · have hor : ¬ (t.data.toList = [] ∨ ¬ t.data.toList.all (fun c => decide (dig c < 10)) = true) := fun h => h.elim hre (fun h => h hall)
      have hpp := parse63 10 (by omega) (fun t h1 h2 w => (parseUint_10_63 t h1 h2 w).mono fun e w' ⟨he, hw⟩ => ⟨he, by rw [hw]; exact Lib.bytesWorld_below _ _ _⟩) t he (by omega) hall
      by_cases hv : val 10 t.data.toList 0 ≤ 2147483648
      · have hn : numIs t.data.toList = .ok (val 10 t.data.toList 0) := by rw [numIs_eq _ _ _ hp, if_neg hor, if_pos hv]
        rw [hn]
        exact num_D_any g s0_0 s0_1 w0 w hI hB h1 h2 t a5 a7 hts htl h0 hg h3 h4 he _ (NumCase.S hall _ hv (hpp.1 (by omega)))
      · have hn : numIs t.data.toList = .range := by rw [numIs_eq _ _ _ hp, if_neg hor, if_neg hv]
        rw [hn]
        by_cases hv2 : val 10 t.data.toList 0 ≤ 9223372036854775807
        · exact num_D_any g s0_0 s0_1 w0 w hI hB h1 h2 t a5 a7 hts htl h0 hg h3 h4 he _ (NumCase.M hall _ (by omega) (hpp.1 hv2))
        · exact num_D_any g s0_0 s0_1 w0 w hI hB h1 h2 t a5 a7 hts htl h0 hg h3 h4 he _ (NumCase.R hall _ (hpp.2 hv2))
    · have hn : numIs t.data.toList = .word := by rw [numIs_eq _ _ _ hp, if_pos (Or.inr hall)]
      rw [hn]
      exact num_D_any g s0_0 s0_1 w0 w hI hB h1 h2 t a5 a7 hts htl h0 hg h3 h4 he _ (NumCase.bad hall)
  · exact absurd h0 he
def lex_cursor_number.f (s0_0 : ByteArray) (s0_1 : Int) : Option (Int × Int × ByteArray × Int × Int × Int × Bool × ByteArray × Int) :=
  if 0 ≤ s0_1 ∧ s0_1 < (s0_0.size : Int) ∧ s0_0.size ≤ 1099511627776 then
    match lex_digit.f (bt s0_0 s0_1) with
    | some true =>
      match numIs (runB (s0_0.extract s0_1.toNat s0_0.size)).data.toList with
      | .ok n => some (2, 0, runB (s0_0.extract s0_1.toNat s0_0.size), (n : Int), ((runB (s0_0.extract s0_1.toNat s0_0.size)).size : Int), 0, true, s0_0, s0_1)
      | .word => some (0, 0, (⟨#[]⟩ : ByteArray), 0, 0, 30, true, s0_0, s0_1)
      | .range => some (0, 0, (⟨#[]⟩ : ByteArray), 0, 0, 9, true, s0_0, s0_1)
    | some false => some (0, 0, (⟨#[]⟩ : ByteArray), 0, 0, 0, false, s0_0, s0_1)
    | none => none
  else none
theorem runB_list (s : ByteArray) : (runB s).data.toList = s.data.toList.takeWhile isAl := by
  unfold runB
  rw [ByteArray.data_extract, Array.toList_extract, List.extract_eq_take_drop, List.drop_zero, Nat.sub_zero]
  exact (List.prefix_iff_eq_take.1 (List.takeWhile_prefix isAl)).symm
theorem mem_tw {p : UInt8 → Bool} : ∀ (l : List UInt8) (c : UInt8), c ∈ l.takeWhile p → p c = true
  | [], c, h => by simp at h
  | a :: l, c, h => by
    rw [List.takeWhile_cons] at h
    split at h
    · rename_i ha
      rcases List.mem_cons.1 h with rfl | h2
      · exact ha
      · exact mem_tw l c h2
    · simp at h
theorem runB_low (s : ByteArray) : Low (runB s) := by
  intro j hj
  apply isAl_low
  have hm : (runB s)[j]'hj ∈ (runB s).data.toList := List.getElem_mem (by rw [← Lib.size_eq]; exact hj)
  rw [runB_list] at hm
  exact mem_tw _ _ hm
theorem runB_size (s : ByteArray) : (runB s).size ≤ s.size := by
  unfold runB
  rw [ByteArray.size_extract]
  omega
theorem runB_pos (s : ByteArray) (h : 0 < s.size) (ha : isAl (s[0]'h) = true) : 0 < (runB s).size := by
  rw [Lib.size_eq, runB_list, toList_one s h, List.takeWhile_cons_of_pos ha]
  simp
theorem lex_cursor_number.calls (g : Nat) (s0_0 : ByteArray) (s0_1 : Int) (r1 : Int) (r2 : Int) (r3 : ByteArray) (r4 : Int) (r5 : Int) (r6 : Int) (r7 : Bool) (r8 : ByteArray) (r9 : Int) (w0 w : World) (hI : IsS36 w0 w g s0_0 s0_1) (hB : Below w0.heap.size w0 w) (h : lex_cursor_number.f s0_0 s0_1 = some (r1, r2, r3, r4, r5, r6, r7, r8, r9)) (hg : GV w0) :
    Calls Tryz.prog 11 #[.pointer (some ⟨g, 0, none⟩)] w fun e w' => e = .returned (.tuple #[.agg #[.int .i64 r1, .int .i64 r2, .string r3, .int .i64 r4], .int .i64 r5, .int .i64 r6, .bool r7]) ∧ IsS36 w0 w' g r8 r9 ∧ Below w0.heap.size w0 w' ∧ KeepBut w w' g none := by
  unfold lex_cursor_number.f at h
  by_cases hc : 0 ≤ s0_1 ∧ s0_1 < (s0_0.size : Int) ∧ s0_0.size ≤ 1099511627776
  · rw [if_pos hc] at h
    obtain ⟨h1, h2, hs⟩ := hc
    cases hd : lex_digit.f (bt s0_0 s0_1) with
    | none => rw [hd] at h; cases h
    | some b =>
      rw [hd] at h
      cases b with
      | false =>
        cases h
        exact num_none g _ _ w0 w hI hB h1 h2 hd
      | true =>
        have hat : s0_1.toNat < s0_0.size := by omega
        obtain ⟨t, ht⟩ : ∃ t, t = runB (s0_0.extract s0_1.toNat s0_0.size) := ⟨_, rfl⟩
        rw [← ht] at h
        have hrun : lex_cursor_run.f s0_0 s0_1 = some (t, s0_0, s0_1) := by
          unfold lex_cursor_run.f
          rw [if_pos h1, if_pos (by omega), if_pos (by omega), ht]
        have hes : (s0_0.extract s0_1.toNat s0_0.size).size = s0_0.size - s0_1.toNat := by rw [ByteArray.size_extract]; omega
        have hts : t.size ≤ 1099511627776 := by have := runB_size (s0_0.extract s0_1.toNat s0_0.size); rw [ht]; omega
        have htl : Low t := by rw [ht]; exact runB_low _
        have h0 : 0 < t.size := by
          rw [ht]
          refine runB_pos _ (by omega) ?_
          rw [ByteArray.getElem_extract]
          have hb := bt_at s0_0 s0_1
          have hx := hb hat
          rw [← hx, digit_f] at hd
          simp only [Nat.add_zero]
          unfold isAl
          rw [show isDigit (s0_0[s0_1.toNat]'hat) = true from by injection hd]
          exact Bool.or_true _
        have key : Calls Tryz.prog 11 #[.pointer (some ⟨g, 0, none⟩)] w ((NumPost g s0_0 s0_1 w0 w t (numIs t.data.toList))) := by
          by_cases h3 : 1 < t.size
          · by_cases h4 : (t[0]'h0).toNat = 48
            · by_cases h5 : low (t[1]'h3) = 120
              · exact num_A g _ _ w0 w hI hB h1 h2 t hd hrun hts htl h0 hg h3 h4 h5
              · exact num_B g _ _ w0 w hI hB h1 h2 t hd hrun hts htl h0 hg h3 h4 h5
            · exact num_D g _ _ w0 w hI hB h1 h2 t hd hrun hts htl h0 hg h3 h4
          · exact num_C g _ _ w0 w hI hB h1 h2 t hd hrun hts htl h0 hg (by omega)
        refine key.mono ?_
        intro e w' hk
        cases hn : numIs t.data.toList with
        | ok n => rw [hn] at h hk; cases h; exact hk
        | word => rw [hn] at h hk; cases h; exact hk
        | range => rw [hn] at h hk; cases h; exact hk
  · rw [if_neg hc] at h
    cases h
end Go.Proofs.YtihidbjffclfkaaGreatDoor.PLex
