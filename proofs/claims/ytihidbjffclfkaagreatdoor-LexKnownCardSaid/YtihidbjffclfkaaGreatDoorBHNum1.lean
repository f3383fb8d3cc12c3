/- Part of the proof: what it uses of HNum1. -/
import Derived.BigQuiet
import Derived.IntWalk
import Derived.Outline
import Derived.Test.YtihidbjffclfkaaGreatDoorBHNum0
import Derived.Test.YtihidbjffclfkaaGreatDoorBPLexL
namespace Go.Proofs.YtihidbjffclfkaaGreatDoor.PLex
open Go.RowKit Go.Proofs.YtihidbjffclfkaaGreatDoorW.PrintWords Go.Proofs.YtihidbjffclfkaaGreatDoorW.PrintLast Go.Proofs.YtihidbjffclfkaaGreatDoorW.PrintMore Go.Proofs.YtihidbjffclfkaaGreatDoor.Lx
set_option linter.unusedVariables false
set_option linter.unusedSimpArgs false
theorem put4 {W : World} {g : Nat} {v0 v1 v2 v3 : Value} (h : W.heap[g]? = some (.cells #[.int .i64 0, .int .i64 0, .string (⟨#[]⟩ : ByteArray), .int .i64 0] 33 (0, 0))) :
    ((((W.setCell ⟨g, 0, none⟩ v0).setCell ⟨g, 1, none⟩ v1).setCell ⟨g, 2, none⟩ v2).setCell ⟨g, 3, none⟩ v3).heap[g]? = some (.cells #[v0, v1, v2, v3] 33 (0, 0)) :=
  blk_put (cs := #[v0, v1, v2, .int .i64 0]) (blk_put (cs := #[v0, v1, .string (⟨#[]⟩ : ByteArray), .int .i64 0]) (blk_put (cs := #[v0, .int .i64 0, .string (⟨#[]⟩ : ByteArray), .int .i64 0]) (blk_put (cs := #[.int .i64 0, .int .i64 0, .string (⟨#[]⟩ : ByteArray), .int .i64 0]) h 0 _ rfl) 1 _ rfl) 2 _ rfl) 3 _ rfl
structure NumSt (w0 w W : World) (g gb : Nat) (s0_0 : ByteArray) (s0_1 : Int) : Prop where
  hi : IsS36 w0 W g s0_0 s0_1
  hk : KeepBut w W g none
  hb : Below w0.heap.size w0 W
  bk : W.heap[gb]? = some (.cells #[.int .i64 0, .int .i64 0, .string (⟨#[]⟩ : ByteArray), .int .i64 0] 33)
theorem NumSt.drew {w0 w W : World} {g gb : Nat} {s : ByteArray} {a : Int} (h : NumSt w0 w W g gb s a) : NumSt w0 w W.drew g gb s a := ⟨h.hi.drew, keep_drew h.hk, below_drew1 h.hb, blk_drew h.bk⟩
theorem NumSt.drewN {w0 w W : World} {g gb : Nat} {s : ByteArray} {a : Int} (n : Nat) (h : NumSt w0 w W g gb s a) : NumSt w0 w (W.drewN n) g gb s a := ⟨h.hi.drewN n, keep_drewN h.hk n, pw_below_drewN h.hb n, blk_drewN h.bk n⟩
theorem NumSt.call {w0 w W W2 : World} {g gb : Nat} {s : ByteArray} {a : Int} (h : NumSt w0 w W g gb s a) (hb : Below W.heap.size W W2) : NumSt w0 w W2 g gb s a := ⟨h.hi.below hb, KeepBut.trans h.hk (KeepBut.of_below hb g none) (.inl rfl), below_step h.hb hb, blk_below h.bk hb⟩
theorem NumSt.run {w0 w W W2 : World} {g gb : Nat} {s : ByteArray} {a : Int} (h : NumSt w0 w W g gb s a) (hne : gb ≠ g) (hi : IsS36 w0 W2 g s a) (hb : Below w0.heap.size w0 W2) (hk : KeepBut W W2 g none) : NumSt w0 w W2 g gb s a := ⟨hi, KeepBut.trans h.hk hk (.inl rfl), hb, KeepBut.blk hk (g' := gb) h.bk hne (by simp)⟩
set_option maxHeartbeats 8000000 in
set_option maxRecDepth 100000 in
theorem num_none (g : Nat) (s0_0 : ByteArray) (s0_1 : Int) (w0 w : World) (hI : IsS36 w0 w g s0_0 s0_1) (hB : Below w0.heap.size w0 w) (h1 : 0 ≤ s0_1) (h2 : s0_1 < (s0_0.size : Int)) (a5 : lex_digit.f (bt s0_0 s0_1) = some false) :
    Calls Tryz.prog 11 #[.pointer (some ⟨g, 0, none⟩)] w fun e w' => e = .returned (.tuple #[.agg #[.int .i64 0, .int .i64 0, .string (⟨#[]⟩ : ByteArray), .int .i64 0], .int .i64 0, .int .i64 0, .bool false]) ∧ IsS36 w0 w' g s0_0 s0_1 ∧ Below w0.heap.size w0 w' ∧ KeepBut w w' g none := by
  have hu28 := Tryz.underlying33
  have HI0 := Aside0.mk hI
  have HK := Aside0.mk (KeepBut.refl w g none)
  have HL := Aside0.mk hB.size
  clear hI
  have HW0 := Aside0.mk hB.size
  have HB := Aside0.mk hB
  clear hB
  have c2b0 : decide (0 ≤ s0_1) = true := decide_eq_true h1
  have c3b0 : decide (s0_1 < (s0_0.size : Int)) = true := decide_eq_true h2
  clear h1 h2
  have A5 := Aside0.mk a5
  clear a5
  go_enter Tryz.func11, Tryz.ntmps11
  go_wp2_with ((with_reducible refine gate_dst (N := 2) rfl ?_); refine box_event ?hg (N := 2) ?hd (cs := #[.int .i64 0, .int .i64 0, .string (⟨#[]⟩ : ByteArray), .int .i64 0]) (t := 33) ?hr ?_; (case hd => rfl); (case hg => rfl); (case hr => first | (go_simp; done) | (go_simp; rfl)); intro gb hg w5 hbox hb; have n0_ := Aside0.mk (IsS36.below (by repeat (first | (with_reducible first | exact HI0.out | apply IsS36.alloc | apply IsS36.drewN | apply IsS36.drew) | exact HI0.out)) hb); have n1_ := Aside0.mk (KeepBut.trans (by repeat (first | (with_reducible first | exact HK.out | apply KeepBut.set_ | apply keep_drewN | apply keep_drew | apply keep_alloc) | exact HK.out)) (KeepBut.of_below hb g none) (.inl rfl)); have n2_ := Aside0.mk (below_step (by repeat (first | (with_reducible first | exact HB.out | apply below_alloc | apply pw_below_drewN | apply below_drew1 | refine below_set ?_ (IsS36.ge HI0.out)) | exact HB.out)) hb); have n3_ := Aside0.mk (hbox); have n4_ := Aside0.mk ((by rw [hg]; exact (keep_size (w := w) (g := g) (row := none) (by repeat (first | (with_reducible first | exact HK.out | apply KeepBut.set_ | apply keep_drewN | apply keep_drew | apply keep_alloc) | exact HK.out))) : w.heap.size ≤ gb)); have n5_ := Aside0.mk ((Nat.le_trans HW0.out (by rw [hg]; exact (keep_size (w := w) (g := g) (row := none) (by repeat (first | (with_reducible first | exact HK.out | apply KeepBut.set_ | apply keep_drewN | apply keep_drew | apply keep_alloc) | exact HK.out))) : w.heap.size ≤ gb) : w0.heap.size ≤ gb)); have n6_ := Aside0.mk ((by rw [hg]; exact Nat.ne_of_lt (IsS36.lt (show IsS36 w0 _ g s0_0 s0_1 from by repeat (first | (with_reducible first | exact HI0.out | apply IsS36.alloc | apply IsS36.drewN | apply IsS36.drew) | exact HI0.out))) : g ≠ gb)); have n7_ := Aside0.mk ((by rw [hg]; exact Nat.ne_of_gt (IsS36.lt (show IsS36 w0 _ g s0_0 s0_1 from by repeat (first | (with_reducible first | exact HI0.out | apply IsS36.alloc | apply IsS36.drewN | apply IsS36.drew) | exact HI0.out))) : gb ≠ g)); clear HI0; clear HK; clear HB; have HI0 := n0_; have HK := n1_; have HB := n2_; have BK := n3_; have GW := n4_; have GE := n5_; have NB0 := n6_; have NB1 := n7_; clear n0_ n1_ n2_ n3_ n4_ n5_ n6_ n7_; clear hb hbox hg; have HST := Aside0.mk (NumSt.mk HI0.out HK.out HB.out BK.out); clear HI0 HK HB BK; obtain ⟨HGz, hgz⟩ := HST.out.hi; have hcg_0 := cellS36_0 HGz; have hcg_1 := cellS36_1 HGz; have hfg_0 := blk_frozen HGz 0; have hfg_1 := blk_frozen HGz 1; clear HGz hgz; have p4 : 0 ≤ (s0_1 : Int) := of_decide_eq_true (by first | (with_reducible assumption) | assumption); have q4 : s0_1 < (s0_0.size : Int) := of_decide_eq_true (by first | (with_reducible assumption) | assumption); have hx4 := bt_at s0_0 s0_1; replace p4 := eq_true p4; replace q4 := eq_true q4)
  go_quiet ((go_at_call 23; (with_reducible refine (lex_digit.calls (bt s0_0 s0_1) false _ A5.out).mono ?_); rintro e w' ⟨rfl, ⟨nd, rfl⟩⟩; (try first | exact ⟨rfl, _, World.drewN_drewN _ _ _⟩ | exact ⟨rfl, _, Eq.trans (World.drewN_drewN _ _ _) (congrArg (World.drewN _) (Nat.add_assoc _ _ _))⟩); have HI0 := Aside0.mk HST.out.hi; have HK := Aside0.mk HST.out.hk; have HB := Aside0.mk HST.out.hb; have BK := Aside0.mk HST.out.bk; clear HST; have hnb := NB1.out; have hnc := NB0.out; have hcz_0 : w5.cell? ⟨gb, 0, none⟩ = some (.int .i64 0) := (blk_cell BK.out 0).trans rfl; have hcz_1 : w5.cell? ⟨gb, 1, none⟩ = some (.int .i64 0) := (blk_cell BK.out 1).trans rfl; have hcz_2 : w5.cell? ⟨gb, 2, none⟩ = some (.string (⟨#[]⟩ : ByteArray)) := (blk_cell BK.out 2).trans rfl; have hcz_3 : w5.cell? ⟨gb, 3, none⟩ = some (.int .i64 0) := (blk_cell BK.out 3).trans rfl; have hfz_0 := blk_frozen BK.out 0; have hfz_1 := blk_frozen BK.out 1; have hfz_2 := blk_frozen BK.out 2; have hfz_3 := blk_frozen BK.out 3))
  go_wp2
  refine bodyPost_ret (results_list (rs := [.cell 2 33, .tmp 3, .tmp 4, .tmp 5]) rfl (by simp) (.cell gb 33 #[.int .i64 0, .int .i64 0, .string (⟨#[]⟩ : ByteArray), .int .i64 0] (0, 0) _ rfl (put4 (by (with_reducible repeat (first | refine blk_drewN ?_ _ | refine blk_drew ?_ | refine blk_alloc ?_ _)); exact BK.out)) Tryz.underlying33 rfl (by kernel_rfl) (.tmp (.tmp (.tmp .nil))))) rfl ?_
  exact ⟨by first | rfl | (simp; done) | (simp; rfl) | (simp [*]; done) | (simp [*]; rfl), by repeat (first | (with_reducible first | exact HI0.out | apply IsS36.alloc | apply IsS36.drewN | apply IsS36.drew | refine IsS36.far ?_ NB0.out _) | exact HI0.out), by repeat (first | (with_reducible first | exact HB.out | apply below_alloc | apply pw_below_drewN | apply below_drew1 | refine below_set ?_ (IsS36.ge HI0.out) | refine below_set ?_ GE.out) | exact HB.out), by repeat (first | (with_reducible first | exact HK.out | apply KeepBut.set_ | apply keep_drewN | apply keep_drew | apply keep_alloc | refine keep_far ?_ GW.out _) | exact HK.out)⟩
theorem bits_low (c : UInt8) : bits BinOp.or IntKind.u8 ((c.toNat : Nat) : Int) 32 = (low c : Int) := by
  have key : ∀ n : Fin 256, bits BinOp.or IntKind.u8 ((n.1 : Nat) : Int) 32 = (low (UInt8.ofNat n.1) : Int) := by decide +kernel
  have h2 := key ⟨c.toNat, c.toNat_lt⟩
  simpa using h2
theorem is_empty (s : ByteArray) (h0 : s.size = 0) : s.toList.isEmpty = true := by
  rw [← decide_eq_emptyBytes]
  refine decide_eq_true ?_
  apply ByteArray.ext
  apply Array.ext'
  have : s.data.toList.length = s.size := (Lib.size_eq s).symm
  exact List.length_eq_zero_iff.1 (by omega)
theorem not_empty' (s : ByteArray) (h0 : 0 < s.size) : s.toList.isEmpty = false := by
  rw [← decide_eq_emptyBytes]
  exact decide_eq_false (fun h => by rw [h] at h0; simp [ByteArray.size] at h0)
theorem low_extract (t : ByteArray) (h : Low t) (a b : Nat) : Low (t.extract a b) := by
  intro j hj
  rw [ByteArray.getElem_extract]
  exact h _ _
def NumPost (g : Nat) (s0_0 : ByteArray) (s0_1 : Int) (w0 w : World) (t : ByteArray) (x : NumIs) (e : Ending) (w' : World) : Prop :=
  match x with
  | .ok n => e = .returned (.tuple #[.agg #[.int .i64 2, .int .i64 0, .string t, .int .i64 (n : Int)], .int .i64 (t.size : Int), .int .i64 0, .bool true]) ∧ IsS36 w0 w' g s0_0 s0_1 ∧ Below w0.heap.size w0 w' ∧ KeepBut w w' g none
  | .word => e = .returned (.tuple #[.agg #[.int .i64 0, .int .i64 0, .string (⟨#[]⟩ : ByteArray), .int .i64 0], .int .i64 0, .int .i64 30, .bool true]) ∧ IsS36 w0 w' g s0_0 s0_1 ∧ Below w0.heap.size w0 w' ∧ KeepBut w w' g none
  | .range => e = .returned (.tuple #[.agg #[.int .i64 0, .int .i64 0, .string (⟨#[]⟩ : ByteArray), .int .i64 0], .int .i64 0, .int .i64 9, .bool true]) ∧ IsS36 w0 w' g s0_0 s0_1 ∧ Below w0.heap.size w0 w' ∧ KeepBut w w' g none
inductive NumCase (rest : ByteArray) (base : Nat) : NumIs → Prop where
  | bad (hbad : ¬ rest.data.toList.all (fun c => decide (dig c < base)) = true) : NumCase rest base .word
  | S (hall : rest.data.toList.all (fun c => decide (dig c < base)) = true) (v : Nat) (hv : v ≤ 2147483648) (hp : ∀ w, GV w → Calls Tryz.prog 27 #[.string rest, .int .i64 (base : Int), .int .i64 63] w fun e w' => e = .returned (.tuple #[.int .u64 (v : Int), .nilIface]) ∧ Below w.heap.size w w') : NumCase rest base (.ok v)
  | M (hall : rest.data.toList.all (fun c => decide (dig c < base)) = true) (v : Nat) (hv : 2147483648 < v) (hp : ∀ w, GV w → Calls Tryz.prog 27 #[.string rest, .int .i64 (base : Int), .int .i64 63] w fun e w' => e = .returned (.tuple #[.int .u64 (v : Int), .nilIface]) ∧ Below w.heap.size w w') : NumCase rest base .range
  | R (hall : rest.data.toList.all (fun c => decide (dig c < base)) = true) (v : Nat) (hp : ∀ w, GV w → Calls Tryz.prog 27 #[.string rest, .int .i64 (base : Int), .int .i64 63] w fun e w' => NumErr v e ∧ Below w.heap.size w w') : NumCase rest base .range
theorem chk_any (b : Nat) (hin : ∀ c : UInt8, c.toNat < 128 → inB (Lib.lowerB c) (hexB.extract 0 b) (hexB.extract 0 b).size = decide (dig c < b)) (r : ByteArray) (hs : r.size ≤ 1099511627776) (hl : Low r) (ok : Bool) (hok : r.data.toList.all (fun c => decide (dig c < b)) = ok) (w : World) :
    Calls Tryz.prog 25 #[.string (lowT r), .string (hexB.extract 0 b)] w fun e w' => ∃ t1 : ByteArray, e = .returned (.string t1) ∧ (∀ w1, Calls Tryz.prog 24 #[.string t1, .string (hexB.extract 0 b)] w1 fun e w' => ∃ t2 : ByteArray, e = .returned (.string t2) ∧ t2.toList.isEmpty = ok ∧ Below w1.heap.size w1 w') ∧ Below w.heap.size w w' := by
  cases ok with
  | false =>
    refine (chk_bad b hin r hs hl (by rw [hok]; exact Bool.false_ne_true) w).mono ?_
    rintro e w' ⟨t1, rfl, h, hb⟩
    exact ⟨t1, rfl, fun w1 => (h w1).mono (fun e w' ⟨t2, he, h2, hb⟩ => ⟨t2, he, not_empty' _ h2, hb⟩), hb⟩
  | true =>
    refine (chk_ok b hin r hs hl hok w).mono ?_
    rintro e w' ⟨rfl, hb⟩
    exact ⟨⟨#[]⟩, rfl, fun w1 => (cutRight_empty _ w1).mono (fun e w' ⟨he, hb⟩ => ⟨⟨#[]⟩, he, is_empty _ rfl, hb⟩), hb⟩
set_option maxHeartbeats 8000000 in
set_option maxRecDepth 100000 in
theorem num_A_empty (g : Nat) (s0_0 : ByteArray) (s0_1 : Int) (w0 w : World) (hI : IsS36 w0 w g s0_0 s0_1) (hB : Below w0.heap.size w0 w) (h1 : 0 ≤ s0_1) (h2 : s0_1 < (s0_0.size : Int)) (t : ByteArray) (a5 : lex_digit.f (bt s0_0 s0_1) = some true) (a7 : lex_cursor_run.f s0_0 s0_1 = some (t, s0_0, s0_1)) (hts : t.size ≤ 1099511627776) (htl : Low t) (h0 : 0 < t.size) (hg : GV w0) (h3 : 1 < t.size) (h4 : (t[0]'h0).toNat = 48) (h5 : low (t[1]'h3) = 120) (he : (t.extract 2 t.size).size = 0) :
    Calls Tryz.prog 11 #[.pointer (some ⟨g, 0, none⟩)] w fun e w' => e = .returned (.tuple #[.agg #[.int .i64 0, .int .i64 0, .string (⟨#[]⟩ : ByteArray), .int .i64 0], .int .i64 0, .int .i64 30, .bool true]) ∧ IsS36 w0 w' g s0_0 s0_1 ∧ Below w0.heap.size w0 w' ∧ KeepBut w w' g none := by
  have hu28 := Tryz.underlying33
  have HI0 := Aside0.mk hI
  have HK := Aside0.mk (KeepBut.refl w g none)
  have HL := Aside0.mk hB.size
  clear hI
  have HW0 := Aside0.mk hB.size
  have HB := Aside0.mk hB
  clear hB
  have c2b0 : decide (0 ≤ s0_1) = true := decide_eq_true h1
  have c3b0 : decide (s0_1 < (s0_0.size : Int)) = true := decide_eq_true h2
  clear h1 h2
  have A5 := Aside0.mk a5
  have A7 := Aside0.mk a7
  have HG := Aside0.mk hg
  clear a5 a7 hg
  have f1 : decide ((t.size : Int) > 1) = true := by simp; omega
  have f1b : (1 : Int) < (t.size : Int) := by omega
  have f1c : (2 : Int) ≤ (t.size : Int) := by omega
  have f2 : (((t[0]'h0).toNat : Int) == 48) = true := by rw [h4]; rfl
  have f3 : (bits BinOp.or IntKind.u8 (((t[1]'h3).toNat : Nat) : Int) 32 == 120) = true := by rw [bits_low, h5]; rfl
  clear h4 h5
  have f9 := is_empty _ he
  clear he hts htl
  go_enter Tryz.func11, Tryz.ntmps11
  go_wp2_with ((with_reducible refine gate_dst (N := 2) rfl ?_); refine box_event ?hg (N := 2) ?hd (cs := #[.int .i64 0, .int .i64 0, .string (⟨#[]⟩ : ByteArray), .int .i64 0]) (t := 33) ?hr ?_; (case hd => rfl); (case hg => rfl); (case hr => first | (go_simp; done) | (go_simp; rfl)); intro gb hg w5 hbox hb; have n0_ := Aside0.mk (IsS36.below (by repeat (first | (with_reducible first | exact HI0.out | apply IsS36.alloc | apply IsS36.drewN | apply IsS36.drew) | exact HI0.out)) hb); have n1_ := Aside0.mk (KeepBut.trans (by repeat (first | (with_reducible first | exact HK.out | apply KeepBut.set_ | apply keep_drewN | apply keep_drew | apply keep_alloc) | exact HK.out)) (KeepBut.of_below hb g none) (.inl rfl)); have n2_ := Aside0.mk (below_step (by repeat (first | (with_reducible first | exact HB.out | apply below_alloc | apply pw_below_drewN | apply below_drew1 | refine below_set ?_ (IsS36.ge HI0.out)) | exact HB.out)) hb); have n3_ := Aside0.mk (hbox); have n4_ := Aside0.mk ((by rw [hg]; exact (keep_size (w := w) (g := g) (row := none) (by repeat (first | (with_reducible first | exact HK.out | apply KeepBut.set_ | apply keep_drewN | apply keep_drew | apply keep_alloc) | exact HK.out))) : w.heap.size ≤ gb)); have n5_ := Aside0.mk ((Nat.le_trans HW0.out (by rw [hg]; exact (keep_size (w := w) (g := g) (row := none) (by repeat (first | (with_reducible first | exact HK.out | apply KeepBut.set_ | apply keep_drewN | apply keep_drew | apply keep_alloc) | exact HK.out))) : w.heap.size ≤ gb) : w0.heap.size ≤ gb)); have n6_ := Aside0.mk ((by rw [hg]; exact Nat.ne_of_lt (IsS36.lt (show IsS36 w0 _ g s0_0 s0_1 from by repeat (first | (with_reducible first | exact HI0.out | apply IsS36.alloc | apply IsS36.drewN | apply IsS36.drew) | exact HI0.out))) : g ≠ gb)); have n7_ := Aside0.mk ((by rw [hg]; exact Nat.ne_of_gt (IsS36.lt (show IsS36 w0 _ g s0_0 s0_1 from by repeat (first | (with_reducible first | exact HI0.out | apply IsS36.alloc | apply IsS36.drewN | apply IsS36.drew) | exact HI0.out))) : gb ≠ g)); clear HI0; clear HK; clear HB; have HI0 := n0_; have HK := n1_; have HB := n2_; have BK := n3_; have GW := n4_; have GE := n5_; have NB0 := n6_; have NB1 := n7_; clear n0_ n1_ n2_ n3_ n4_ n5_ n6_ n7_; clear hb hbox hg; have HST := Aside0.mk (NumSt.mk HI0.out HK.out HB.out BK.out); clear HI0 HK HB BK; obtain ⟨HGz, hgz⟩ := HST.out.hi; have hcg_0 := cellS36_0 HGz; have hcg_1 := cellS36_1 HGz; have hfg_0 := blk_frozen HGz 0; have hfg_1 := blk_frozen HGz 1; clear HGz hgz; have p4 : 0 ≤ (s0_1 : Int) := of_decide_eq_true (by first | (with_reducible assumption) | assumption); have q4 : s0_1 < (s0_0.size : Int) := of_decide_eq_true (by first | (with_reducible assumption) | assumption); have hx4 := bt_at s0_0 s0_1; replace p4 := eq_true p4; replace q4 := eq_true q4)
  go_quiet ((go_at_call 23; (with_reducible refine (lex_digit.calls (bt s0_0 s0_1) true _ A5.out).mono ?_); rintro e w' ⟨rfl, ⟨nd, rfl⟩⟩; (try first | exact ⟨rfl, _, World.drewN_drewN _ _ _⟩ | exact ⟨rfl, _, Eq.trans (World.drewN_drewN _ _ _) (congrArg (World.drewN _) (Nat.add_assoc _ _ _))⟩)))
  go_wp2_with (go_at_call 22; (with_reducible refine (lex_cursor_run.calls g s0_0 s0_1 t s0_0 s0_1 w0 _ ?side1 ?side2 A7.out).mono ?_); (case side1 => exact NumSt.hi (by repeat (first | (with_reducible first | exact HST.out | apply NumSt.drewN | apply NumSt.drew)))); (case side2 => exact NumSt.hb (by repeat (first | (with_reducible first | exact HST.out | apply NumSt.drewN | apply NumSt.drew)))); rintro e w11 ⟨rfl, hi, hb, hk⟩; have n0_ := Aside0.mk (NumSt.run (by repeat (first | (with_reducible first | exact HST.out | apply NumSt.drewN | apply NumSt.drew))) NB1.out hi hb hk); clear HST hi hb hk; have HST := n0_; clear n0_; have HI0 := Aside0.mk HST.out.hi; have HK := Aside0.mk HST.out.hk; have HB := Aside0.mk HST.out.hb; have BK := Aside0.mk HST.out.bk; clear HST; have hnb := NB1.out; have hnc := NB0.out; have hcz_0 : w11.cell? ⟨gb, 0, none⟩ = some (.int .i64 0) := (blk_cell BK.out 0).trans rfl; have hcz_1 : w11.cell? ⟨gb, 1, none⟩ = some (.int .i64 0) := (blk_cell BK.out 1).trans rfl; have hcz_2 : w11.cell? ⟨gb, 2, none⟩ = some (.string (⟨#[]⟩ : ByteArray)) := (blk_cell BK.out 2).trans rfl; have hcz_3 : w11.cell? ⟨gb, 3, none⟩ = some (.int .i64 0) := (blk_cell BK.out 3).trans rfl; have hfz_0 := blk_frozen BK.out 0; have hfz_1 := blk_frozen BK.out 1; have hfz_2 := blk_frozen BK.out 2; have hfz_3 := blk_frozen BK.out 3)
  go_quiet (fail)
  go_wp2
  refine bodyPost_ret (results_list (rs := [.cell 2 33, .tmp 3, .tmp 4, .tmp 5]) rfl (by simp) (.cell gb 33 #[.int .i64 0, .int .i64 0, .string (⟨#[]⟩ : ByteArray), .int .i64 0] (0, 0) _ rfl (put4 (by (with_reducible repeat (first | refine blk_drewN ?_ _ | refine blk_drew ?_ | refine blk_alloc ?_ _)); exact BK.out)) Tryz.underlying33 rfl (by kernel_rfl) (.tmp (.tmp (.tmp .nil))))) rfl ?_
  exact ⟨by first | rfl | (simp; done) | (simp; rfl) | (simp [*]; done) | (simp [*]; rfl), by repeat (first | (with_reducible first | exact HI0.out | apply IsS36.alloc | apply IsS36.drewN | apply IsS36.drew | refine IsS36.far ?_ NB0.out _) | exact HI0.out), by repeat (first | (with_reducible first | exact HB.out | apply below_alloc | apply pw_below_drewN | apply below_drew1 | refine below_set ?_ (IsS36.ge HI0.out) | refine below_set ?_ GE.out) | exact HB.out), by repeat (first | (with_reducible first | exact HK.out | apply KeepBut.set_ | apply keep_drewN | apply keep_drew | apply keep_alloc | refine keep_far ?_ GW.out _) | exact HK.out)⟩
set_option maxHeartbeats 8000000 in
set_option maxRecDepth 100000 in
theorem num_A_any (g : Nat) (s0_0 : ByteArray) (s0_1 : Int) (w0 w : World) (hI : IsS36 w0 w g s0_0 s0_1) (hB : Below w0.heap.size w0 w) (h1 : 0 ≤ s0_1) (h2 : s0_1 < (s0_0.size : Int)) (t : ByteArray) (a5 : lex_digit.f (bt s0_0 s0_1) = some true) (a7 : lex_cursor_run.f s0_0 s0_1 = some (t, s0_0, s0_1)) (hts : t.size ≤ 1099511627776) (htl : Low t) (h0 : 0 < t.size) (hg : GV w0) (h3 : 1 < t.size) (h4 : (t[0]'h0).toNat = 48) (h5 : low (t[1]'h3) = 120) (he : 0 < (t.extract 2 t.size).size) (x : NumIs) (hx : NumCase (t.extract 2 t.size) 16 x) :
    Calls Tryz.prog 11 #[.pointer (some ⟨g, 0, none⟩)] w (NumPost g s0_0 s0_1 w0 w t x) := by
  have hu28 := Tryz.underlying33
  have HI0 := Aside0.mk hI
  have HK := Aside0.mk (KeepBut.refl w g none)
  have HL := Aside0.mk hB.size
  clear hI
  have HW0 := Aside0.mk hB.size
  have HB := Aside0.mk hB
  clear hB
  have c2b0 : decide (0 ≤ s0_1) = true := decide_eq_true h1
  have c3b0 : decide (s0_1 < (s0_0.size : Int)) = true := decide_eq_true h2
  clear h1 h2
  have A5 := Aside0.mk a5
  have A7 := Aside0.mk a7
  have HG := Aside0.mk hg
  clear a5 a7 hg
  have f1 : decide ((t.size : Int) > 1) = true := by simp; omega
  have f1b : (1 : Int) < (t.size : Int) := by omega
  have f1c : (2 : Int) ≤ (t.size : Int) := by omega
  have f2 : (((t[0]'h0).toNat : Int) == 48) = true := by rw [h4]; rfl
  have f3 : (bits BinOp.or IntKind.u8 (((t[1]'h3).toNat : Nat) : Int) 32 == 120) = true := by rw [bits_low, h5]; rfl
  clear h4 h5
  have f9 := not_empty' _ he
  have HX := Aside0.mk hx
  obtain ⟨ok, hok⟩ : ∃ ok, (t.extract 2 t.size).data.toList.all (fun c => decide (dig c < 16)) = ok := ⟨_, rfl⟩
  have HOK := Aside0.mk hok
  clear he hx hok
  have HS_ : Aside0 ((t.extract 2 t.size).size ≤ 140737488355328) := ⟨by rw [ByteArray.size_extract]; omega⟩
  have HS2 : Aside0 ((t.extract 2 t.size).size ≤ 1099511627776) := ⟨by rw [ByteArray.size_extract]; omega⟩
  have HLO : Aside0 (Low (t.extract 2 t.size)) := ⟨low_extract t htl _ _⟩
  clear hts htl
  go_enter Tryz.func11, Tryz.ntmps11
  go_wp2_with ((with_reducible refine gate_dst (N := 2) rfl ?_); refine box_event ?hg (N := 2) ?hd (cs := #[.int .i64 0, .int .i64 0, .string (⟨#[]⟩ : ByteArray), .int .i64 0]) (t := 33) ?hr ?_; (case hd => rfl); (case hg => rfl); (case hr => first | (go_simp; done) | (go_simp; rfl)); intro gb hg w5 hbox hb; have n0_ := Aside0.mk (IsS36.below (by repeat (first | (with_reducible first | exact HI0.out | apply IsS36.alloc | apply IsS36.drewN | apply IsS36.drew) | exact HI0.out)) hb); have n1_ := Aside0.mk (KeepBut.trans (by repeat (first | (with_reducible first | exact HK.out | apply KeepBut.set_ | apply keep_drewN | apply keep_drew | apply keep_alloc) | exact HK.out)) (KeepBut.of_below hb g none) (.inl rfl)); have n2_ := Aside0.mk (below_step (by repeat (first | (with_reducible first | exact HB.out | apply below_alloc | apply pw_below_drewN | apply below_drew1 | refine below_set ?_ (IsS36.ge HI0.out)) | exact HB.out)) hb); have n3_ := Aside0.mk (hbox); have n4_ := Aside0.mk ((by rw [hg]; exact (keep_size (w := w) (g := g) (row := none) (by repeat (first | (with_reducible first | exact HK.out | apply KeepBut.set_ | apply keep_drewN | apply keep_drew | apply keep_alloc) | exact HK.out))) : w.heap.size ≤ gb)); have n5_ := Aside0.mk ((Nat.le_trans HW0.out (by rw [hg]; exact (keep_size (w := w) (g := g) (row := none) (by repeat (first | (with_reducible first | exact HK.out | apply KeepBut.set_ | apply keep_drewN | apply keep_drew | apply keep_alloc) | exact HK.out))) : w.heap.size ≤ gb) : w0.heap.size ≤ gb)); have n6_ := Aside0.mk ((by rw [hg]; exact Nat.ne_of_lt (IsS36.lt (show IsS36 w0 _ g s0_0 s0_1 from by repeat (first | (with_reducible first | exact HI0.out | apply IsS36.alloc | apply IsS36.drewN | apply IsS36.drew) | exact HI0.out))) : g ≠ gb)); have n7_ := Aside0.mk ((by rw [hg]; exact Nat.ne_of_gt (IsS36.lt (show IsS36 w0 _ g s0_0 s0_1 from by repeat (first | (with_reducible first | exact HI0.out | apply IsS36.alloc | apply IsS36.drewN | apply IsS36.drew) | exact HI0.out))) : gb ≠ g)); clear HI0; clear HK; clear HB; have HI0 := n0_; have HK := n1_; have HB := n2_; have BK := n3_; have GW := n4_; have GE := n5_; have NB0 := n6_; have NB1 := n7_; clear n0_ n1_ n2_ n3_ n4_ n5_ n6_ n7_; clear hb hbox hg; have HST := Aside0.mk (NumSt.mk HI0.out HK.out HB.out BK.out); clear HI0 HK HB BK; obtain ⟨HGz, hgz⟩ := HST.out.hi; have hcg_0 := cellS36_0 HGz; have hcg_1 := cellS36_1 HGz; have hfg_0 := blk_frozen HGz 0; have hfg_1 := blk_frozen HGz 1; clear HGz hgz; have p4 : 0 ≤ (s0_1 : Int) := of_decide_eq_true (by first | (with_reducible assumption) | assumption); have q4 : s0_1 < (s0_0.size : Int) := of_decide_eq_true (by first | (with_reducible assumption) | assumption); have hx4 := bt_at s0_0 s0_1; replace p4 := eq_true p4; replace q4 := eq_true q4)
  go_quiet ((go_at_call 23; (with_reducible refine (lex_digit.calls (bt s0_0 s0_1) true _ A5.out).mono ?_); rintro e w' ⟨rfl, ⟨nd, rfl⟩⟩; (try first | exact ⟨rfl, _, World.drewN_drewN _ _ _⟩ | exact ⟨rfl, _, Eq.trans (World.drewN_drewN _ _ _) (congrArg (World.drewN _) (Nat.add_assoc _ _ _))⟩)))
  go_wp2_with (go_at_call 22; (with_reducible refine (lex_cursor_run.calls g s0_0 s0_1 t s0_0 s0_1 w0 _ ?side1 ?side2 A7.out).mono ?_); (case side1 => exact NumSt.hi (by repeat (first | (with_reducible first | exact HST.out | apply NumSt.drewN | apply NumSt.drew)))); (case side2 => exact NumSt.hb (by repeat (first | (with_reducible first | exact HST.out | apply NumSt.drewN | apply NumSt.drew)))); rintro e w11 ⟨rfl, hi, hb, hk⟩; have n0_ := Aside0.mk (NumSt.run (by repeat (first | (with_reducible first | exact HST.out | apply NumSt.drewN | apply NumSt.drew))) NB1.out hi hb hk); clear HST hi hb hk; have HST := n0_; clear n0_)
  refine start_ (n := 13) (S := fun w' => True) (ds := []) #[false, false, false, false, false, false, false, false, false, false, false, false, false] (by kernel_rfl) rfl rfl trivial (fun hHeld => ?_)
  refine pure_ (i := 0) (N := some 54) (v := ?_) (a' := ?_) #[true, false, false, false, false, false, false, false, false, false, false, false, false] rfl rfl (by kernel_rfl) (fun _ _ _ h => h) (Or.inl ⟨by rfl, ?_⟩) ?_ ?_
  rotate_left
  · intro w'
    go_simp
    with_reducible rfl
  rotate_left
  · simp only [Act.put, List.setIfInBounds_toArray, List.set_cons_zero, List.set_cons_succ, i64_w, i32_w]
    rfl
  refine pure_ (i := 1) (N := some 55) (v := ?_) (a' := ?_) #[true, true, false, false, false, false, false, false, false, false, false, false, false] rfl rfl (by kernel_rfl) (fun _ _ _ h => h) (Or.inl ⟨by rfl, ?_⟩) ?_ ?_
  rotate_left
  · intro w'
    go_simp
    with_reducible rfl
  rotate_left
  · simp only [Act.put, List.setIfInBounds_toArray, List.set_cons_zero, List.set_cons_succ, i64_w, i32_w]
    rfl
  refine pure_ (i := 2) (N := some 56) (v := ?_) (a' := ?_) #[true, true, true, false, false, false, false, false, false, false, false, false, false] rfl rfl (by kernel_rfl) (fun _ _ _ h => h) (Or.inl ⟨by rfl, ?_⟩) ?_ ?_
  rotate_left
  · intro w'
    go_simp
    with_reducible rfl
  rotate_left
  · simp only [Act.put, List.setIfInBounds_toArray, List.set_cons_zero, List.set_cons_succ, i64_w, i32_w]
    rfl
  refine pure_ (i := 3) (N := some 57) (v := ?_) (a' := ?_) #[true, true, true, true, false, false, false, false, false, false, false, false, false] rfl rfl (by kernel_rfl) (fun _ _ _ h => h) (Or.inl ⟨by rfl, ?_⟩) ?_ ?_
  rotate_left
  · intro w'
    go_simp
    with_reducible rfl
  rotate_left
  · simp only [Act.put, List.setIfInBounds_toArray, List.set_cons_zero, List.set_cons_succ, i64_w, i32_w]
    rfl
  refine pure_ (i := 5) (N := some 59) (v := ?_) (a' := ?_) #[true, true, true, true, false, true, false, false, false, false, false, false, false] rfl rfl (by kernel_rfl) (fun _ _ _ h => h) (Or.inl ⟨by rfl, ?_⟩) ?_ ?_
  rotate_left
  · intro w'
    go_simp
    with_reducible rfl
  rotate_left
  · simp only [Act.put, List.setIfInBounds_toArray, List.set_cons_zero, List.set_cons_succ, i64_w, i32_w]
    rfl
  refine pure_ (i := 6) (N := some 60) (v := ?_) (a' := ?_) #[true, true, true, true, false, true, true, false, false, false, false, false, false] rfl rfl (by kernel_rfl) (fun _ _ _ h => h) (Or.inl ⟨by rfl, ?_⟩) ?_ ?_
  rotate_left
  · intro w'
    go_simp
    with_reducible rfl
  rotate_left
  · simp only [Act.put, List.setIfInBounds_toArray, List.set_cons_zero, List.set_cons_succ, i64_w, i32_w]
    rfl
  refine pure_ (i := 8) (N := some 62) (v := ?_) (a' := ?_) #[true, true, true, true, false, true, true, false, true, false, false, false, false] rfl rfl (by kernel_rfl) (fun _ _ _ h => h) (Or.inl ⟨by rfl, ?_⟩) ?_ ?_
  rotate_left
  · intro w'
    go_simp
    with_reducible rfl
  rotate_left
  · simp only [Act.put, List.setIfInBounds_toArray, List.set_cons_zero, List.set_cons_succ, i64_w, i32_w]
    rfl
  refine pure_ (i := 9) (N := some 63) (v := ?_) (a' := ?_) #[true, true, true, true, false, true, true, false, true, true, false, false, false] rfl rfl (by kernel_rfl) (fun _ _ _ h => h) (Or.inl ⟨by rfl, ?_⟩) ?_ ?_
  rotate_left
  · intro w'
    go_simp
    with_reducible rfl
  rotate_left
  · simp only [Act.put, List.setIfInBounds_toArray, List.set_cons_zero, List.set_cons_succ, i64_w, i32_w]
    rfl
  refine one_ (i := 4) (N := some 58) #[true, true, true, true, true, true, true, false, true, true, false, false, false] rfl rfl (by kernel_rfl) (by decide) (fun K hK => ?_)
  refine goes_ Tryz.func26 (by kernel_rfl) rfl #[.string (t.extract 2 t.size)] (by rfl) rfl rfl (by simp only [List.map_toArray, List.map_cons, List.map_nil]; rfl) ?_
  with_reducible refine (lowT_calls (t.extract 2 t.size) HS_.out HLO.out _).mono ?_
  rintro e W3 ⟨rfl, hb⟩
  refine ⟨_, rfl, ?_⟩
  have n0_ := Aside0.mk (NumSt.call (by repeat (first | (with_reducible first | exact HST.out | apply NumSt.drewN | apply NumSt.drew))) hb); clear HST hb; have HST := n0_; clear n0_
  refine hK.out _ _ trivial (fun hHeld => ?_)
  clear hK K
  refine norm_ (a' := ?_) ?_ ?_
  rotate_left
  · show Act.put _ (some 58) _ = _
    simp only [Act.put, List.setIfInBounds_toArray, List.set_cons_zero, List.set_cons_succ, i64_w, i32_w]
    rfl
  refine one_ (i := 7) (N := some 61) #[true, true, true, true, true, true, true, true, true, true, false, false, false] rfl rfl (by kernel_rfl) (by decide) (fun K hK => ?_)
  refine goes_ Tryz.func25 (by kernel_rfl) rfl #[.string (lowT (t.extract 2 t.size)), .string (hexB.extract 0 16)] (by rfl) rfl rfl (by simp only [List.map_toArray, List.map_cons, List.map_nil]; rfl) ?_
  with_reducible refine (chk_any 16 inB_dig16 (t.extract 2 t.size) HS2.out HLO.out ok HOK.out _).mono ?_
  rintro e W4 ⟨t1, rfl, hcr, hb⟩
  refine ⟨_, rfl, ?_⟩
  have HCR := Aside0.mk hcr
  clear hcr
  have n0_ := Aside0.mk (NumSt.call (by repeat (first | (with_reducible first | exact HST.out | apply NumSt.drewN | apply NumSt.drew))) hb); clear HST hb; have HST := n0_; clear n0_
  refine hK.out _ _ trivial (fun hHeld => ?_)
  clear hK K
  refine norm_ (a' := ?_) ?_ ?_
  rotate_left
  · show Act.put _ (some 61) _ = _
    simp only [Act.put, List.setIfInBounds_toArray, List.set_cons_zero, List.set_cons_succ, i64_w, i32_w]
    rfl
  refine one_ (i := 10) (N := some 64) #[true, true, true, true, true, true, true, true, true, true, true, false, false] rfl rfl (by kernel_rfl) (by decide) (fun K hK => ?_)
  refine goes_ Tryz.func24 (by kernel_rfl) rfl #[.string t1, .string (hexB.extract 0 16)] (by rfl) rfl rfl (by simp only [List.map_toArray, List.map_cons, List.map_nil]; rfl) ?_
  with_reducible refine (HCR.out _).mono ?_
  rintro e W5 ⟨t2, rfl, f8, hb⟩
  refine ⟨_, rfl, ?_⟩
  have n0_ := Aside0.mk (NumSt.call (by repeat (first | (with_reducible first | exact HST.out | apply NumSt.drewN | apply NumSt.drew))) hb); clear HST hb; have HST := n0_; clear n0_
  refine hK.out _ _ trivial (fun hHeld => ?_)
  clear hK K
  refine norm_ (a' := ?_) ?_ ?_
  rotate_left
  · show Act.put _ (some 64) _ = _
    simp only [Act.put, List.setIfInBounds_toArray, List.set_cons_zero, List.set_cons_succ, i64_w, i32_w]
    rfl
  refine pure_ (i := 11) (N := some 65) (v := ?_) (a' := ?_) #[true, true, true, true, true, true, true, true, true, true, true, true, false] rfl rfl (by kernel_rfl) (fun _ _ _ h => h) (Or.inl ⟨by rfl, ?_⟩) ?_ ?_
  rotate_left
  · intro w'
    go_simp
    with_reducible rfl
  rotate_left
  · simp only [Act.put, List.setIfInBounds_toArray, List.set_cons_zero, List.set_cons_succ, i64_w, i32_w]
    rfl
  refine pure_ (i := 12) (N := some 66) (v := ?_) (a' := ?_) #[true, true, true, true, true, true, true, true, true, true, true, true, true] rfl rfl (by kernel_rfl) (fun _ _ _ h => h) (Or.inl ⟨by rfl, ?_⟩) ?_ ?_
  rotate_left
  · intro w'
    go_simp
    with_reducible rfl
  rotate_left
  · simp only [Act.put, List.setIfInBounds_toArray, List.set_cons_zero, List.set_cons_succ, i64_w, i32_w]
    rfl
  refine done_ (by kernel_rfl) ?_
  have hx := HX.out
  have hok := HOK.out
  clear HX HOK
  cases hx with
  | bad hbad =>
    obtain rfl : ok = false := by rw [← hok]; simpa using hbad
    clear hok hbad
    have HI0 := Aside0.mk HST.out.hi; have HK := Aside0.mk HST.out.hk; have HB := Aside0.mk HST.out.hb; have BK := Aside0.mk HST.out.bk; clear HST; have hnb := NB1.out; have hnc := NB0.out; have hcz_0 : W5.cell? ⟨gb, 0, none⟩ = some (.int .i64 0) := (blk_cell BK.out 0).trans rfl; have hcz_1 : W5.cell? ⟨gb, 1, none⟩ = some (.int .i64 0) := (blk_cell BK.out 1).trans rfl; have hcz_2 : W5.cell? ⟨gb, 2, none⟩ = some (.string (⟨#[]⟩ : ByteArray)) := (blk_cell BK.out 2).trans rfl; have hcz_3 : W5.cell? ⟨gb, 3, none⟩ = some (.int .i64 0) := (blk_cell BK.out 3).trans rfl; have hfz_0 := blk_frozen BK.out 0; have hfz_1 := blk_frozen BK.out 1; have hfz_2 := blk_frozen BK.out 2; have hfz_3 := blk_frozen BK.out 3
    go_wp2
    refine bodyPost_ret (results_list (rs := [.cell 2 33, .tmp 3, .tmp 4, .tmp 5]) rfl (by simp) (.cell gb 33 #[.int .i64 0, .int .i64 0, .string (⟨#[]⟩ : ByteArray), .int .i64 0] (0, 0) _ rfl (put4 (by (with_reducible repeat (first | refine blk_drewN ?_ _ | refine blk_drew ?_ | refine blk_alloc ?_ _)); exact BK.out)) Tryz.underlying33 rfl (by kernel_rfl) (.tmp (.tmp (.tmp .nil))))) rfl ?_
    show _ ∧ _ ∧ _ ∧ _
    exact ⟨by first | rfl | (simp; done) | (simp; rfl) | (simp [*]; done) | (simp [*]; rfl), by repeat (first | (with_reducible first | exact HI0.out | apply IsS36.alloc | apply IsS36.drewN | apply IsS36.drew | refine IsS36.far ?_ NB0.out _) | exact HI0.out), by repeat (first | (with_reducible first | exact HB.out | apply below_alloc | apply pw_below_drewN | apply below_drew1 | refine below_set ?_ (IsS36.ge HI0.out) | refine below_set ?_ GE.out) | exact HB.out), by repeat (first | (with_reducible first | exact HK.out | apply KeepBut.set_ | apply keep_drewN | apply keep_drew | apply keep_alloc | refine keep_far ?_ GW.out _) | exact HK.out)⟩
  | S hall v hv hp =>
    obtain rfl : ok = true := by rw [← hok]; exact hall
    have HP := Aside0.mk hp
    clear hok hall hp
    have v1 : decide ((v : Int) > 2147483648) = false := by simp; omega
    have v2 : decide (2147483648 < v) = false := by simp; omega
    have v3 : IntKind.i64.wrap (v : Int) = (v : Int) := IntWalk.i64_in _ (by omega)
    have v4 : ¬ (2147483648 : Int) < (v : Int) := by omega
    clear hv
    go_wp2_with (go_at_call 27; refine (HP.out _ (GV.below HG.out (NumSt.hb (by repeat (first | (with_reducible first | exact HST.out | apply NumSt.drewN | apply NumSt.drew)))))).mono ?_; rintro e W6 ⟨rfl, hb⟩; have n0_ := Aside0.mk (NumSt.call (by repeat (first | (with_reducible first | exact HST.out | apply NumSt.drewN | apply NumSt.drew))) hb); clear HST hb; have HST := n0_; clear n0_; have HI0 := Aside0.mk HST.out.hi; have HK := Aside0.mk HST.out.hk; have HB := Aside0.mk HST.out.hb; have BK := Aside0.mk HST.out.bk; clear HST; have hnb := NB1.out; have hnc := NB0.out; have hcz_0 : W6.cell? ⟨gb, 0, none⟩ = some (.int .i64 0) := (blk_cell BK.out 0).trans rfl; have hcz_1 : W6.cell? ⟨gb, 1, none⟩ = some (.int .i64 0) := (blk_cell BK.out 1).trans rfl; have hcz_2 : W6.cell? ⟨gb, 2, none⟩ = some (.string (⟨#[]⟩ : ByteArray)) := (blk_cell BK.out 2).trans rfl; have hcz_3 : W6.cell? ⟨gb, 3, none⟩ = some (.int .i64 0) := (blk_cell BK.out 3).trans rfl; have hfz_0 := blk_frozen BK.out 0; have hfz_1 := blk_frozen BK.out 1; have hfz_2 := blk_frozen BK.out 2; have hfz_3 := blk_frozen BK.out 3)
    refine bodyPost_ret (results_list (rs := [.cell 2 33, .tmp 3, .tmp 4, .tmp 5]) rfl (by simp) (.cell gb 33 #[.int .i64 2, .int .i64 0, .string t, .int .i64 (v : Int)] (0, 0) _ rfl (put4 (by (with_reducible repeat (first | refine blk_drewN ?_ _ | refine blk_drew ?_ | refine blk_alloc ?_ _)); exact BK.out)) Tryz.underlying33 rfl (by kernel_rfl) (.tmp (.tmp (.tmp .nil))))) rfl ?_
    show _ ∧ _ ∧ _ ∧ _
    exact ⟨by first | rfl | (simp; done) | (simp; rfl) | (simp [*]; done) | (simp [*]; rfl), by repeat (first | (with_reducible first | exact HI0.out | apply IsS36.alloc | apply IsS36.drewN | apply IsS36.drew | refine IsS36.far ?_ NB0.out _) | exact HI0.out), by repeat (first | (with_reducible first | exact HB.out | apply below_alloc | apply pw_below_drewN | apply below_drew1 | refine below_set ?_ (IsS36.ge HI0.out) | refine below_set ?_ GE.out) | exact HB.out), by repeat (first | (with_reducible first | exact HK.out | apply KeepBut.set_ | apply keep_drewN | apply keep_drew | apply keep_alloc | refine keep_far ?_ GW.out _) | exact HK.out)⟩
  | M hall v hv hp =>
    obtain rfl : ok = true := by rw [← hok]; exact hall
    have HP := Aside0.mk hp
    clear hok hall hp
    have v1 : decide ((v : Int) > 2147483648) = true := by simp; omega
    have v2 : decide (2147483648 < v) = true := by simp; omega
    have v4 : (2147483648 : Int) < (v : Int) := by omega
    clear hv
    go_wp2_with (go_at_call 27; refine (HP.out _ (GV.below HG.out (NumSt.hb (by repeat (first | (with_reducible first | exact HST.out | apply NumSt.drewN | apply NumSt.drew)))))).mono ?_; rintro e W6 ⟨rfl, hb⟩; have n0_ := Aside0.mk (NumSt.call (by repeat (first | (with_reducible first | exact HST.out | apply NumSt.drewN | apply NumSt.drew))) hb); clear HST hb; have HST := n0_; clear n0_; have HI0 := Aside0.mk HST.out.hi; have HK := Aside0.mk HST.out.hk; have HB := Aside0.mk HST.out.hb; have BK := Aside0.mk HST.out.bk; clear HST; have hnb := NB1.out; have hnc := NB0.out; have hcz_0 : W6.cell? ⟨gb, 0, none⟩ = some (.int .i64 0) := (blk_cell BK.out 0).trans rfl; have hcz_1 : W6.cell? ⟨gb, 1, none⟩ = some (.int .i64 0) := (blk_cell BK.out 1).trans rfl; have hcz_2 : W6.cell? ⟨gb, 2, none⟩ = some (.string (⟨#[]⟩ : ByteArray)) := (blk_cell BK.out 2).trans rfl; have hcz_3 : W6.cell? ⟨gb, 3, none⟩ = some (.int .i64 0) := (blk_cell BK.out 3).trans rfl; have hfz_0 := blk_frozen BK.out 0; have hfz_1 := blk_frozen BK.out 1; have hfz_2 := blk_frozen BK.out 2; have hfz_3 := blk_frozen BK.out 3)
    refine bodyPost_ret (results_list (rs := [.cell 2 33, .tmp 3, .tmp 4, .tmp 5]) rfl (by simp) (.cell gb 33 #[.int .i64 0, .int .i64 0, .string (⟨#[]⟩ : ByteArray), .int .i64 0] (0, 0) _ rfl (put4 (by (with_reducible repeat (first | refine blk_drewN ?_ _ | refine blk_drew ?_ | refine blk_alloc ?_ _)); exact BK.out)) Tryz.underlying33 rfl (by kernel_rfl) (.tmp (.tmp (.tmp .nil))))) rfl ?_
    show _ ∧ _ ∧ _ ∧ _
    exact ⟨by first | rfl | (simp; done) | (simp; rfl) | (simp [*]; done) | (simp [*]; rfl), by repeat (first | (with_reducible first | exact HI0.out | apply IsS36.alloc | apply IsS36.drewN | apply IsS36.drew | refine IsS36.far ?_ NB0.out _) | exact HI0.out), by repeat (first | (with_reducible first | exact HB.out | apply below_alloc | apply pw_below_drewN | apply below_drew1 | refine below_set ?_ (IsS36.ge HI0.out) | refine below_set ?_ GE.out) | exact HB.out), by repeat (first | (with_reducible first | exact HK.out | apply KeepBut.set_ | apply keep_drewN | apply keep_drew | apply keep_alloc | refine keep_far ?_ GW.out _) | exact HK.out)⟩
  | R hall v hp =>
    obtain rfl : ok = true := by rw [← hok]; exact hall
    have HP := Aside0.mk hp
    clear hok hall hp
    go_wp2_with (go_at_call 27; refine (HP.out _ (GV.below HG.out (NumSt.hb (by repeat (first | (with_reducible first | exact HST.out | apply NumSt.drewN | apply NumSt.drew)))))).mono ?_; rintro e W6 ⟨⟨NN, rfl⟩, hb⟩; have n0_ := Aside0.mk (NumSt.call (by repeat (first | (with_reducible first | exact HST.out | apply NumSt.drewN | apply NumSt.drew))) hb); clear HST hb; have HST := n0_; clear n0_; have HI0 := Aside0.mk HST.out.hi; have HK := Aside0.mk HST.out.hk; have HB := Aside0.mk HST.out.hb; have BK := Aside0.mk HST.out.bk; clear HST; have hnb := NB1.out; have hnc := NB0.out; have hcz_0 : W6.cell? ⟨gb, 0, none⟩ = some (.int .i64 0) := (blk_cell BK.out 0).trans rfl; have hcz_1 : W6.cell? ⟨gb, 1, none⟩ = some (.int .i64 0) := (blk_cell BK.out 1).trans rfl; have hcz_2 : W6.cell? ⟨gb, 2, none⟩ = some (.string (⟨#[]⟩ : ByteArray)) := (blk_cell BK.out 2).trans rfl; have hcz_3 : W6.cell? ⟨gb, 3, none⟩ = some (.int .i64 0) := (blk_cell BK.out 3).trans rfl; have hfz_0 := blk_frozen BK.out 0; have hfz_1 := blk_frozen BK.out 1; have hfz_2 := blk_frozen BK.out 2; have hfz_3 := blk_frozen BK.out 3)
    refine bodyPost_ret (results_list (rs := [.cell 2 33, .tmp 3, .tmp 4, .tmp 5]) rfl (by simp) (.cell gb 33 #[.int .i64 0, .int .i64 0, .string (⟨#[]⟩ : ByteArray), .int .i64 0] (0, 0) _ rfl (put4 (by (with_reducible repeat (first | refine blk_drewN ?_ _ | refine blk_drew ?_ | refine blk_alloc ?_ _)); exact BK.out)) Tryz.underlying33 rfl (by kernel_rfl) (.tmp (.tmp (.tmp .nil))))) rfl ?_
    show _ ∧ _ ∧ _ ∧ _
    exact ⟨by first | rfl | (simp; done) | (simp; rfl) | (simp [*]; done) | (simp [*]; rfl), by repeat (first | (with_reducible first | exact HI0.out | apply IsS36.alloc | apply IsS36.drewN | apply IsS36.drew | refine IsS36.far ?_ NB0.out _) | exact HI0.out), by repeat (first | (with_reducible first | exact HB.out | apply below_alloc | apply pw_below_drewN | apply below_drew1 | refine below_set ?_ (IsS36.ge HI0.out) | refine below_set ?_ GE.out) | exact HB.out), by repeat (first | (with_reducible first | exact HK.out | apply KeepBut.set_ | apply keep_drewN | apply keep_drew | apply keep_alloc | refine keep_far ?_ GW.out _) | exact HK.out)⟩
set_option maxHeartbeats 8000000 in
set_option maxRecDepth 100000 in
theorem num_B_any (g : Nat) (s0_0 : ByteArray) (s0_1 : Int) (w0 w : World) (hI : IsS36 w0 w g s0_0 s0_1) (hB : Below w0.heap.size w0 w) (h1 : 0 ≤ s0_1) (h2 : s0_1 < (s0_0.size : Int)) (t : ByteArray) (a5 : lex_digit.f (bt s0_0 s0_1) = some true) (a7 : lex_cursor_run.f s0_0 s0_1 = some (t, s0_0, s0_1)) (hts : t.size ≤ 1099511627776) (htl : Low t) (h0 : 0 < t.size) (hg : GV w0) (h3 : 1 < t.size) (h4 : (t[0]'h0).toNat = 48) (h5 : low (t[1]'h3) ≠ 120) (he : 0 < (t.extract 1 t.size).size) (x : NumIs) (hx : NumCase (t.extract 1 t.size) 8 x) :
    Calls Tryz.prog 11 #[.pointer (some ⟨g, 0, none⟩)] w (NumPost g s0_0 s0_1 w0 w t x) := by
  have hu28 := Tryz.underlying33
  have HI0 := Aside0.mk hI
  have HK := Aside0.mk (KeepBut.refl w g none)
  have HL := Aside0.mk hB.size
  clear hI
  have HW0 := Aside0.mk hB.size
  have HB := Aside0.mk hB
  clear hB
  have c2b0 : decide (0 ≤ s0_1) = true := decide_eq_true h1
  have c3b0 : decide (s0_1 < (s0_0.size : Int)) = true := decide_eq_true h2
  clear h1 h2
  have A5 := Aside0.mk a5
  have A7 := Aside0.mk a7
  have HG := Aside0.mk hg
  clear a5 a7 hg
  have f1 : decide ((t.size : Int) > 1) = true := by simp; omega
  have f1b : (1 : Int) < (t.size : Int) := by omega
  have f1c : (1 : Int) ≤ (t.size : Int) := by omega
  have f2 : (((t[0]'h0).toNat : Int) == 48) = true := by rw [h4]; rfl
  have f3 : (bits BinOp.or IntKind.u8 (((t[1]'h3).toNat : Nat) : Int) 32 == 120) = false := by rw [bits_low, beq_eq_false_iff_ne]; omega
  clear h4 h5
  have f9 := not_empty' _ he
  have HX := Aside0.mk hx
  obtain ⟨ok, hok⟩ : ∃ ok, (t.extract 1 t.size).data.toList.all (fun c => decide (dig c < 8)) = ok := ⟨_, rfl⟩
  have HOK := Aside0.mk hok
  clear he hx hok
  have HS_ : Aside0 ((t.extract 1 t.size).size ≤ 140737488355328) := ⟨by rw [ByteArray.size_extract]; omega⟩
  have HS2 : Aside0 ((t.extract 1 t.size).size ≤ 1099511627776) := ⟨by rw [ByteArray.size_extract]; omega⟩
  have HLO : Aside0 (Low (t.extract 1 t.size)) := ⟨low_extract t htl _ _⟩
  clear hts htl
  go_enter Tryz.func11, Tryz.ntmps11
  go_wp2_with ((with_reducible refine gate_dst (N := 2) rfl ?_); refine box_event ?hg (N := 2) ?hd (cs := #[.int .i64 0, .int .i64 0, .string (⟨#[]⟩ : ByteArray), .int .i64 0]) (t := 33) ?hr ?_; (case hd => rfl); (case hg => rfl); (case hr => first | (go_simp; done) | (go_simp; rfl)); intro gb hg w5 hbox hb; have n0_ := Aside0.mk (IsS36.below (by repeat (first | (with_reducible first | exact HI0.out | apply IsS36.alloc | apply IsS36.drewN | apply IsS36.drew) | exact HI0.out)) hb); have n1_ := Aside0.mk (KeepBut.trans (by repeat (first | (with_reducible first | exact HK.out | apply KeepBut.set_ | apply keep_drewN | apply keep_drew | apply keep_alloc) | exact HK.out)) (KeepBut.of_below hb g none) (.inl rfl)); have n2_ := Aside0.mk (below_step (by repeat (first | (with_reducible first | exact HB.out | apply below_alloc | apply pw_below_drewN | apply below_drew1 | refine below_set ?_ (IsS36.ge HI0.out)) | exact HB.out)) hb); have n3_ := Aside0.mk (hbox); have n4_ := Aside0.mk ((by rw [hg]; exact (keep_size (w := w) (g := g) (row := none) (by repeat (first | (with_reducible first | exact HK.out | apply KeepBut.set_ | apply keep_drewN | apply keep_drew | apply keep_alloc) | exact HK.out))) : w.heap.size ≤ gb)); have n5_ := Aside0.mk ((Nat.le_trans HW0.out (by rw [hg]; exact (keep_size (w := w) (g := g) (row := none) (by repeat (first | (with_reducible first | exact HK.out | apply KeepBut.set_ | apply keep_drewN | apply keep_drew | apply keep_alloc) | exact HK.out))) : w.heap.size ≤ gb) : w0.heap.size ≤ gb)); have n6_ := Aside0.mk ((by rw [hg]; exact Nat.ne_of_lt (IsS36.lt (show IsS36 w0 _ g s0_0 s0_1 from by repeat (first | (with_reducible first | exact HI0.out | apply IsS36.alloc | apply IsS36.drewN | apply IsS36.drew) | exact HI0.out))) : g ≠ gb)); have n7_ := Aside0.mk ((by rw [hg]; exact Nat.ne_of_gt (IsS36.lt (show IsS36 w0 _ g s0_0 s0_1 from by repeat (first | (with_reducible first | exact HI0.out | apply IsS36.alloc | apply IsS36.drewN | apply IsS36.drew) | exact HI0.out))) : gb ≠ g)); clear HI0; clear HK; clear HB; have HI0 := n0_; have HK := n1_; have HB := n2_; have BK := n3_; have GW := n4_; have GE := n5_; have NB0 := n6_; have NB1 := n7_; clear n0_ n1_ n2_ n3_ n4_ n5_ n6_ n7_; clear hb hbox hg; have HST := Aside0.mk (NumSt.mk HI0.out HK.out HB.out BK.out); clear HI0 HK HB BK; obtain ⟨HGz, hgz⟩ := HST.out.hi; have hcg_0 := cellS36_0 HGz; have hcg_1 := cellS36_1 HGz; have hfg_0 := blk_frozen HGz 0; have hfg_1 := blk_frozen HGz 1; clear HGz hgz; have p4 : 0 ≤ (s0_1 : Int) := of_decide_eq_true (by first | (with_reducible assumption) | assumption); have q4 : s0_1 < (s0_0.size : Int) := of_decide_eq_true (by first | (with_reducible assumption) | assumption); have hx4 := bt_at s0_0 s0_1; replace p4 := eq_true p4; replace q4 := eq_true q4)
  go_quiet ((go_at_call 23; (with_reducible refine (lex_digit.calls (bt s0_0 s0_1) true _ A5.out).mono ?_); rintro e w' ⟨rfl, ⟨nd, rfl⟩⟩; (try first | exact ⟨rfl, _, World.drewN_drewN _ _ _⟩ | exact ⟨rfl, _, Eq.trans (World.drewN_drewN _ _ _) (congrArg (World.drewN _) (Nat.add_assoc _ _ _))⟩)))
  go_wp2_with (go_at_call 22; (with_reducible refine (lex_cursor_run.calls g s0_0 s0_1 t s0_0 s0_1 w0 _ ?side1 ?side2 A7.out).mono ?_); (case side1 => exact NumSt.hi (by repeat (first | (with_reducible first | exact HST.out | apply NumSt.drewN | apply NumSt.drew)))); (case side2 => exact NumSt.hb (by repeat (first | (with_reducible first | exact HST.out | apply NumSt.drewN | apply NumSt.drew)))); rintro e w11 ⟨rfl, hi, hb, hk⟩; have n0_ := Aside0.mk (NumSt.run (by repeat (first | (with_reducible first | exact HST.out | apply NumSt.drewN | apply NumSt.drew))) NB1.out hi hb hk); clear HST hi hb hk; have HST := n0_; clear n0_)
  refine start_ (n := 13) (S := fun w' => True) (ds := []) #[false, false, false, false, false, false, false, false, false, false, false, false, false] (by kernel_rfl) rfl rfl trivial (fun hHeld => ?_)
  refine pure_ (i := 0) (N := some 54) (v := ?_) (a' := ?_) #[true, false, false, false, false, false, false, false, false, false, false, false, false] rfl rfl (by kernel_rfl) (fun _ _ _ h => h) (Or.inl ⟨by rfl, ?_⟩) ?_ ?_
  rotate_left
  · intro w'
    go_simp
    with_reducible rfl
  rotate_left
  · simp only [Act.put, List.setIfInBounds_toArray, List.set_cons_zero, List.set_cons_succ, i64_w, i32_w]
    rfl
  refine pure_ (i := 1) (N := some 55) (v := ?_) (a' := ?_) #[true, true, false, false, false, false, false, false, false, false, false, false, false] rfl rfl (by kernel_rfl) (fun _ _ _ h => h) (Or.inl ⟨by rfl, ?_⟩) ?_ ?_
  rotate_left
  · intro w'
    go_simp
    with_reducible rfl
  rotate_left
  · simp only [Act.put, List.setIfInBounds_toArray, List.set_cons_zero, List.set_cons_succ, i64_w, i32_w]
    rfl
  refine pure_ (i := 2) (N := some 56) (v := ?_) (a' := ?_) #[true, true, true, false, false, false, false, false, false, false, false, false, false] rfl rfl (by kernel_rfl) (fun _ _ _ h => h) (Or.inl ⟨by rfl, ?_⟩) ?_ ?_
  rotate_left
  · intro w'
    go_simp
    with_reducible rfl
  rotate_left
  · simp only [Act.put, List.setIfInBounds_toArray, List.set_cons_zero, List.set_cons_succ, i64_w, i32_w]
    rfl
  refine pure_ (i := 3) (N := some 57) (v := ?_) (a' := ?_) #[true, true, true, true, false, false, false, false, false, false, false, false, false] rfl rfl (by kernel_rfl) (fun _ _ _ h => h) (Or.inl ⟨by rfl, ?_⟩) ?_ ?_
  rotate_left
  · intro w'
    go_simp
    with_reducible rfl
  rotate_left
  · simp only [Act.put, List.setIfInBounds_toArray, List.set_cons_zero, List.set_cons_succ, i64_w, i32_w]
    rfl
  refine pure_ (i := 5) (N := some 59) (v := ?_) (a' := ?_) #[true, true, true, true, false, true, false, false, false, false, false, false, false] rfl rfl (by kernel_rfl) (fun _ _ _ h => h) (Or.inl ⟨by rfl, ?_⟩) ?_ ?_
  rotate_left
  · intro w'
    go_simp
    with_reducible rfl
  rotate_left
  · simp only [Act.put, List.setIfInBounds_toArray, List.set_cons_zero, List.set_cons_succ, i64_w, i32_w]
    rfl
  refine pure_ (i := 6) (N := some 60) (v := ?_) (a' := ?_) #[true, true, true, true, false, true, true, false, false, false, false, false, false] rfl rfl (by kernel_rfl) (fun _ _ _ h => h) (Or.inl ⟨by rfl, ?_⟩) ?_ ?_
  rotate_left
  · intro w'
    go_simp
    with_reducible rfl
  rotate_left
  · simp only [Act.put, List.setIfInBounds_toArray, List.set_cons_zero, List.set_cons_succ, i64_w, i32_w]
    rfl
  refine pure_ (i := 8) (N := some 62) (v := ?_) (a' := ?_) #[true, true, true, true, false, true, true, false, true, false, false, false, false] rfl rfl (by kernel_rfl) (fun _ _ _ h => h) (Or.inl ⟨by rfl, ?_⟩) ?_ ?_
  rotate_left
  · intro w'
    go_simp
    with_reducible rfl
  rotate_left
  · simp only [Act.put, List.setIfInBounds_toArray, List.set_cons_zero, List.set_cons_succ, i64_w, i32_w]
    rfl
  refine pure_ (i := 9) (N := some 63) (v := ?_) (a' := ?_) #[true, true, true, true, false, true, true, false, true, true, false, false, false] rfl rfl (by kernel_rfl) (fun _ _ _ h => h) (Or.inl ⟨by rfl, ?_⟩) ?_ ?_
  rotate_left
  · intro w'
    go_simp
    with_reducible rfl
  rotate_left
  · simp only [Act.put, List.setIfInBounds_toArray, List.set_cons_zero, List.set_cons_succ, i64_w, i32_w]
    rfl
  refine one_ (i := 4) (N := some 58) #[true, true, true, true, true, true, true, false, true, true, false, false, false] rfl rfl (by kernel_rfl) (by decide) (fun K hK => ?_)
  refine goes_ Tryz.func26 (by kernel_rfl) rfl #[.string (t.extract 1 t.size)] (by rfl) rfl rfl (by simp only [List.map_toArray, List.map_cons, List.map_nil]; rfl) ?_
  with_reducible refine (lowT_calls (t.extract 1 t.size) HS_.out HLO.out _).mono ?_
  rintro e W3 ⟨rfl, hb⟩
  refine ⟨_, rfl, ?_⟩
  have n0_ := Aside0.mk (NumSt.call (by repeat (first | (with_reducible first | exact HST.out | apply NumSt.drewN | apply NumSt.drew))) hb); clear HST hb; have HST := n0_; clear n0_
  refine hK.out _ _ trivial (fun hHeld => ?_)
  clear hK K
  refine norm_ (a' := ?_) ?_ ?_
  rotate_left
  · show Act.put _ (some 58) _ = _
    simp only [Act.put, List.setIfInBounds_toArray, List.set_cons_zero, List.set_cons_succ, i64_w, i32_w]
    rfl
  refine one_ (i := 7) (N := some 61) #[true, true, true, true, true, true, true, true, true, true, false, false, false] rfl rfl (by kernel_rfl) (by decide) (fun K hK => ?_)
  refine goes_ Tryz.func25 (by kernel_rfl) rfl #[.string (lowT (t.extract 1 t.size)), .string (hexB.extract 0 8)] (by rfl) rfl rfl (by simp only [List.map_toArray, List.map_cons, List.map_nil]; rfl) ?_
  with_reducible refine (chk_any 8 inB_dig8 (t.extract 1 t.size) HS2.out HLO.out ok HOK.out _).mono ?_
  rintro e W4 ⟨t1, rfl, hcr, hb⟩
  refine ⟨_, rfl, ?_⟩
  have HCR := Aside0.mk hcr
  clear hcr
  have n0_ := Aside0.mk (NumSt.call (by repeat (first | (with_reducible first | exact HST.out | apply NumSt.drewN | apply NumSt.drew))) hb); clear HST hb; have HST := n0_; clear n0_
  refine hK.out _ _ trivial (fun hHeld => ?_)
  clear hK K
  refine norm_ (a' := ?_) ?_ ?_
  rotate_left
  · show Act.put _ (some 61) _ = _
    simp only [Act.put, List.setIfInBounds_toArray, List.set_cons_zero, List.set_cons_succ, i64_w, i32_w]
    rfl
  refine one_ (i := 10) (N := some 64) #[true, true, true, true, true, true, true, true, true, true, true, false, false] rfl rfl (by kernel_rfl) (by decide) (fun K hK => ?_)
  refine goes_ Tryz.func24 (by kernel_rfl) rfl #[.string t1, .string (hexB.extract 0 8)] (by rfl) rfl rfl (by simp only [List.map_toArray, List.map_cons, List.map_nil]; rfl) ?_
  with_reducible refine (HCR.out _).mono ?_
  rintro e W5 ⟨t2, rfl, f8, hb⟩
  refine ⟨_, rfl, ?_⟩
  have n0_ := Aside0.mk (NumSt.call (by repeat (first | (with_reducible first | exact HST.out | apply NumSt.drewN | apply NumSt.drew))) hb); clear HST hb; have HST := n0_; clear n0_
  refine hK.out _ _ trivial (fun hHeld => ?_)
  clear hK K
  refine norm_ (a' := ?_) ?_ ?_
  rotate_left
  · show Act.put _ (some 64) _ = _
    simp only [Act.put, List.setIfInBounds_toArray, List.set_cons_zero, List.set_cons_succ, i64_w, i32_w]
    rfl
  refine pure_ (i := 11) (N := some 65) (v := ?_) (a' := ?_) #[true, true, true, true, true, true, true, true, true, true, true, true, false] rfl rfl (by kernel_rfl) (fun _ _ _ h => h) (Or.inl ⟨by rfl, ?_⟩) ?_ ?_
  rotate_left
  · intro w'
    go_simp
    with_reducible rfl
  rotate_left
  · simp only [Act.put, List.setIfInBounds_toArray, List.set_cons_zero, List.set_cons_succ, i64_w, i32_w]
    rfl
  refine pure_ (i := 12) (N := some 66) (v := ?_) (a' := ?_) #[true, true, true, true, true, true, true, true, true, true, true, true, true] rfl rfl (by kernel_rfl) (fun _ _ _ h => h) (Or.inl ⟨by rfl, ?_⟩) ?_ ?_
  rotate_left
  · intro w'
    go_simp
    with_reducible rfl
  rotate_left
  · simp only [Act.put, List.setIfInBounds_toArray, List.set_cons_zero, List.set_cons_succ, i64_w, i32_w]
    rfl
  refine done_ (by kernel_rfl) ?_
  have hx := HX.out
  have hok := HOK.out
  clear HX HOK
  cases hx with
  | bad hbad =>
    obtain rfl : ok = false := by rw [← hok]; simpa using hbad
    clear hok hbad
    have HI0 := Aside0.mk HST.out.hi; have HK := Aside0.mk HST.out.hk; have HB := Aside0.mk HST.out.hb; have BK := Aside0.mk HST.out.bk; clear HST; have hnb := NB1.out; have hnc := NB0.out; have hcz_0 : W5.cell? ⟨gb, 0, none⟩ = some (.int .i64 0) := (blk_cell BK.out 0).trans rfl; have hcz_1 : W5.cell? ⟨gb, 1, none⟩ = some (.int .i64 0) := (blk_cell BK.out 1).trans rfl; have hcz_2 : W5.cell? ⟨gb, 2, none⟩ = some (.string (⟨#[]⟩ : ByteArray)) := (blk_cell BK.out 2).trans rfl; have hcz_3 : W5.cell? ⟨gb, 3, none⟩ = some (.int .i64 0) := (blk_cell BK.out 3).trans rfl; have hfz_0 := blk_frozen BK.out 0; have hfz_1 := blk_frozen BK.out 1; have hfz_2 := blk_frozen BK.out 2; have hfz_3 := blk_frozen BK.out 3
    go_wp2
    refine bodyPost_ret (results_list (rs := [.cell 2 33, .tmp 3, .tmp 4, .tmp 5]) rfl (by simp) (.cell gb 33 #[.int .i64 0, .int .i64 0, .string (⟨#[]⟩ : ByteArray), .int .i64 0] (0, 0) _ rfl (put4 (by (with_reducible repeat (first | refine blk_drewN ?_ _ | refine blk_drew ?_ | refine blk_alloc ?_ _)); exact BK.out)) Tryz.underlying33 rfl (by kernel_rfl) (.tmp (.tmp (.tmp .nil))))) rfl ?_
    show _ ∧ _ ∧ _ ∧ _
    exact ⟨by first | rfl | (simp; done) | (simp; rfl) | (simp [*]; done) | (simp [*]; rfl), by repeat (first | (with_reducible first | exact HI0.out | apply IsS36.alloc | apply IsS36.drewN | apply IsS36.drew | refine IsS36.far ?_ NB0.out _) | exact HI0.out), by repeat (first | (with_reducible first | exact HB.out | apply below_alloc | apply pw_below_drewN | apply below_drew1 | refine below_set ?_ (IsS36.ge HI0.out) | refine below_set ?_ GE.out) | exact HB.out), by repeat (first | (with_reducible first | exact HK.out | apply KeepBut.set_ | apply keep_drewN | apply keep_drew | apply keep_alloc | refine keep_far ?_ GW.out _) | exact HK.out)⟩
  | S hall v hv hp =>
    obtain rfl : ok = true := by rw [← hok]; exact hall
    have HP := Aside0.mk hp
    clear hok hall hp
    have v1 : decide ((v : Int) > 2147483648) = false := by simp; omega
    have v2 : decide (2147483648 < v) = false := by simp; omega
    have v3 : IntKind.i64.wrap (v : Int) = (v : Int) := IntWalk.i64_in _ (by omega)
    have v4 : ¬ (2147483648 : Int) < (v : Int) := by omega
    clear hv
    go_wp2_with (go_at_call 27; refine (HP.out _ (GV.below HG.out (NumSt.hb (by repeat (first | (with_reducible first | exact HST.out | apply NumSt.drewN | apply NumSt.drew)))))).mono ?_; rintro e W6 ⟨rfl, hb⟩; have n0_ := Aside0.mk (NumSt.call (by repeat (first | (with_reducible first | exact HST.out | apply NumSt.drewN | apply NumSt.drew))) hb); clear HST hb; have HST := n0_; clear n0_; have HI0 := Aside0.mk HST.out.hi; have HK := Aside0.mk HST.out.hk; have HB := Aside0.mk HST.out.hb; have BK := Aside0.mk HST.out.bk; clear HST; have hnb := NB1.out; have hnc := NB0.out; have hcz_0 : W6.cell? ⟨gb, 0, none⟩ = some (.int .i64 0) := (blk_cell BK.out 0).trans rfl; have hcz_1 : W6.cell? ⟨gb, 1, none⟩ = some (.int .i64 0) := (blk_cell BK.out 1).trans rfl; have hcz_2 : W6.cell? ⟨gb, 2, none⟩ = some (.string (⟨#[]⟩ : ByteArray)) := (blk_cell BK.out 2).trans rfl; have hcz_3 : W6.cell? ⟨gb, 3, none⟩ = some (.int .i64 0) := (blk_cell BK.out 3).trans rfl; have hfz_0 := blk_frozen BK.out 0; have hfz_1 := blk_frozen BK.out 1; have hfz_2 := blk_frozen BK.out 2; have hfz_3 := blk_frozen BK.out 3)
    refine bodyPost_ret (results_list (rs := [.cell 2 33, .tmp 3, .tmp 4, .tmp 5]) rfl (by simp) (.cell gb 33 #[.int .i64 2, .int .i64 0, .string t, .int .i64 (v : Int)] (0, 0) _ rfl (put4 (by (with_reducible repeat (first | refine blk_drewN ?_ _ | refine blk_drew ?_ | refine blk_alloc ?_ _)); exact BK.out)) Tryz.underlying33 rfl (by kernel_rfl) (.tmp (.tmp (.tmp .nil))))) rfl ?_
    show _ ∧ _ ∧ _ ∧ _
    exact ⟨by first | rfl | (simp; done) | (simp; rfl) | (simp [*]; done) | (simp [*]; rfl), by repeat (first | (with_reducible first | exact HI0.out | apply IsS36.alloc | apply IsS36.drewN | apply IsS36.drew | refine IsS36.far ?_ NB0.out _) | exact HI0.out), by repeat (first | (with_reducible first | exact HB.out | apply below_alloc | apply pw_below_drewN | apply below_drew1 | refine below_set ?_ (IsS36.ge HI0.out) | refine below_set ?_ GE.out) | exact HB.out), by repeat (first | (with_reducible first | exact HK.out | apply KeepBut.set_ | apply keep_drewN | apply keep_drew | apply keep_alloc | refine keep_far ?_ GW.out _) | exact HK.out)⟩
  | M hall v hv hp =>
    obtain rfl : ok = true := by rw [← hok]; exact hall
    have HP := Aside0.mk hp
    clear hok hall hp
    have v1 : decide ((v : Int) > 2147483648) = true := by simp; omega
    have v2 : decide (2147483648 < v) = true := by simp; omega
    have v4 : (2147483648 : Int) < (v : Int) := by omega
    clear hv
    go_wp2_with (go_at_call 27; refine (HP.out _ (GV.below HG.out (NumSt.hb (by repeat (first | (with_reducible first | exact HST.out | apply NumSt.drewN | apply NumSt.drew)))))).mono ?_; rintro e W6 ⟨rfl, hb⟩; have n0_ := Aside0.mk (NumSt.call (by repeat (first | (with_reducible first | exact HST.out | apply NumSt.drewN | apply NumSt.drew))) hb); clear HST hb; have HST := n0_; clear n0_; have HI0 := Aside0.mk HST.out.hi; have HK := Aside0.mk HST.out.hk; have HB := Aside0.mk HST.out.hb; have BK := Aside0.mk HST.out.bk; clear HST; have hnb := NB1.out; have hnc := NB0.out; have hcz_0 : W6.cell? ⟨gb, 0, none⟩ = some (.int .i64 0) := (blk_cell BK.out 0).trans rfl; have hcz_1 : W6.cell? ⟨gb, 1, none⟩ = some (.int .i64 0) := (blk_cell BK.out 1).trans rfl; have hcz_2 : W6.cell? ⟨gb, 2, none⟩ = some (.string (⟨#[]⟩ : ByteArray)) := (blk_cell BK.out 2).trans rfl; have hcz_3 : W6.cell? ⟨gb, 3, none⟩ = some (.int .i64 0) := (blk_cell BK.out 3).trans rfl; have hfz_0 := blk_frozen BK.out 0; have hfz_1 := blk_frozen BK.out 1; have hfz_2 := blk_frozen BK.out 2; have hfz_3 := blk_frozen BK.out 3)
    refine bodyPost_ret (results_list (rs := [.cell 2 33, .tmp 3, .tmp 4, .tmp 5]) rfl (by simp) (.cell gb 33 #[.int .i64 0, .int .i64 0, .string (⟨#[]⟩ : ByteArray), .int .i64 0] (0, 0) _ rfl (put4 (by (with_reducible repeat (first | refine blk_drewN ?_ _ | refine blk_drew ?_ | refine blk_alloc ?_ _)); exact BK.out)) Tryz.underlying33 rfl (by kernel_rfl) (.tmp (.tmp (.tmp .nil))))) rfl ?_
    show _ ∧ _ ∧ _ ∧ _
    exact ⟨by first | rfl | (simp; done) | (simp; rfl) | (simp [*]; done) | (simp [*]; rfl), by repeat (first | (with_reducible first | exact HI0.out | apply IsS36.alloc | apply IsS36.drewN | apply IsS36.drew | refine IsS36.far ?_ NB0.out _) | exact HI0.out), by repeat (first | (with_reducible first | exact HB.out | apply below_alloc | apply pw_below_drewN | apply below_drew1 | refine below_set ?_ (IsS36.ge HI0.out) | refine below_set ?_ GE.out) | exact HB.out), by repeat (first | (with_reducible first | exact HK.out | apply KeepBut.set_ | apply keep_drewN | apply keep_drew | apply keep_alloc | refine keep_far ?_ GW.out _) | exact HK.out)⟩
  | R hall v hp =>
    obtain rfl : ok = true := by rw [← hok]; exact hall
    have HP := Aside0.mk hp
    clear hok hall hp
    go_wp2_with (go_at_call 27; refine (HP.out _ (GV.below HG.out (NumSt.hb (by repeat (first | (with_reducible first | exact HST.out | apply NumSt.drewN | apply NumSt.drew)))))).mono ?_; rintro e W6 ⟨⟨NN, rfl⟩, hb⟩; have n0_ := Aside0.mk (NumSt.call (by repeat (first | (with_reducible first | exact HST.out | apply NumSt.drewN | apply NumSt.drew))) hb); clear HST hb; have HST := n0_; clear n0_; have HI0 := Aside0.mk HST.out.hi; have HK := Aside0.mk HST.out.hk; have HB := Aside0.mk HST.out.hb; have BK := Aside0.mk HST.out.bk; clear HST; have hnb := NB1.out; have hnc := NB0.out; have hcz_0 : W6.cell? ⟨gb, 0, none⟩ = some (.int .i64 0) := (blk_cell BK.out 0).trans rfl; have hcz_1 : W6.cell? ⟨gb, 1, none⟩ = some (.int .i64 0) := (blk_cell BK.out 1).trans rfl; have hcz_2 : W6.cell? ⟨gb, 2, none⟩ = some (.string (⟨#[]⟩ : ByteArray)) := (blk_cell BK.out 2).trans rfl; have hcz_3 : W6.cell? ⟨gb, 3, none⟩ = some (.int .i64 0) := (blk_cell BK.out 3).trans rfl; have hfz_0 := blk_frozen BK.out 0; have hfz_1 := blk_frozen BK.out 1; have hfz_2 := blk_frozen BK.out 2; have hfz_3 := blk_frozen BK.out 3)
    refine bodyPost_ret (results_list (rs := [.cell 2 33, .tmp 3, .tmp 4, .tmp 5]) rfl (by simp) (.cell gb 33 #[.int .i64 0, .int .i64 0, .string (⟨#[]⟩ : ByteArray), .int .i64 0] (0, 0) _ rfl (put4 (by (with_reducible repeat (first | refine blk_drewN ?_ _ | refine blk_drew ?_ | refine blk_alloc ?_ _)); exact BK.out)) Tryz.underlying33 rfl (by kernel_rfl) (.tmp (.tmp (.tmp .nil))))) rfl ?_
    show _ ∧ _ ∧ _ ∧ _
    exact ⟨by first | rfl | (simp; done) | (simp; rfl) | (simp [*]; done) | (simp [*]; rfl), by repeat (first | (with_reducible first | exact HI0.out | apply IsS36.alloc | apply IsS36.drewN | apply IsS36.drew | refine IsS36.far ?_ NB0.out _) | exact HI0.out), by repeat (first | (with_reducible first | exact HB.out | apply below_alloc | apply pw_below_drewN | apply below_drew1 | refine below_set ?_ (IsS36.ge HI0.out) | refine below_set ?_ GE.out) | exact HB.out), by repeat (first | (with_reducible first | exact HK.out | apply KeepBut.set_ | apply keep_drewN | apply keep_drew | apply keep_alloc | refine keep_far ?_ GW.out _) | exact HK.out)⟩
end Go.Proofs.YtihidbjffclfkaaGreatDoor.PLex
