/- Part of the proof: what it uses of HLexOdd. -/
import Derived.Test.YtihidbjffclfkaaDoorVHEq3
import Derived.Test.YtihidbjffclfkaaDoorVHJoin
import Derived.Test.YtihidbjffclfkaaDoorVHMade
import Derived.Test.YtihidbjffclfkaaDoorVHWorks
namespace Go.Proofs.YtihidbjffclfkaaDoor.PLex
open Go.RowKit Go.Maps Go.Proofs.YtihidbjffclfkaaDoorW.PrintWords Go.Proofs.YtihidbjffclfkaaDoorW.PrintLast Go.Proofs.YtihidbjffclfkaaDoorW.PrintMore Go.Proofs.YtihidbjffclfkaaDoor.Lx
attribute [local go_sem] max2_int min2_int max_two min_two max_three min_three max_four min_four
set_option linter.unusedVariables false
set_option linter.unusedSimpArgs false
def oddL : List ByteArray := [(⟨#[35]⟩ : ByteArray), (⟨#[47]⟩ : ByteArray), (⟨#[42]⟩ : ByteArray), (⟨#[43]⟩ : ByteArray), (⟨#[63]⟩ : ByteArray), (⟨#[64]⟩ : ByteArray), (⟨#[36]⟩ : ByteArray), (⟨#[92]⟩ : ByteArray), (⟨#[0]⟩ : ByteArray), (⟨#[127]⟩ : ByteArray), (⟨#[255]⟩ : ByteArray), (⟨#[58]⟩ : ByteArray), (⟨#[33]⟩ : ByteArray), (⟨#[37]⟩ : ByteArray), (⟨#[38]⟩ : ByteArray), (⟨#[124]⟩ : ByteArray), (⟨#[94]⟩ : ByteArray), (⟨#[126]⟩ : ByteArray), (⟨#[48, 57]⟩ : ByteArray), (⟨#[48, 120]⟩ : ByteArray), (⟨#[48, 120, 103]⟩ : ByteArray), (⟨#[55, 97]⟩ : ByteArray), (⟨#[97, 98, 99, 100, 101, 102, 103, 104, 105, 106, 107, 108, 109, 110, 111, 112, 113, 114, 115, 116, 117, 118, 119, 120, 121, 122, 97, 98, 99, 100, 101, 102, 103]⟩ : ByteArray), (⟨#[50, 49, 52, 55, 52, 56, 51, 54, 52, 57]⟩ : ByteArray), (⟨#[48, 50, 48, 48, 48, 48, 48, 48, 48, 48, 48, 49]⟩ : ByteArray), (⟨#[39, 97]⟩ : ByteArray), (⟨#[34, 92, 113, 34]⟩ : ByteArray), (⟨#[47, 42, 32, 97]⟩ : ByteArray)]
def wantL : List Int := [30, 9, 21]
theorem join_n (l : List S28) (n : Nat) (hn : l.length = n) (A : Option Addr) (c : Nat) (r : ByteArray) (w : World) (hC : Kd.C k28 w A n l) (hc : n ≤ c) (h : lex_Join.f l = some r) : Calls Tryd.prog 11 #[.slice A n c] w fun e w' => e = .returned (.string r) ∧ Below w.heap.size w w' := by
  subst hn
  exact lex_Join.calls A c l r w hC hc h
theorem row_n (K : Nat) (A : Option Addr) (c : Nat) (l : List S56) (n : Nat) (hn : l.length = n) (r : List S28) (w : World) (hC : Kd.C k56 w A n l) (hc : n ≤ c) (h : signetrylaw03_row.f K l = some r) : Calls Tryd.prog 14 #[.slice A n c] w fun e w' => ∃ v0_ : Value, e = .returned (v0_) ∧ Kd.R k28 28 w' w.heap.size (fun _ => True) v0_ r ∧ Below w.heap.size w w' := by
  subst hn
  exact signetrylaw03_row.calls K A c l r w hC hc h
theorem take_c {w : World} {A : Option Addr} {xs : List S28} (h : Kd.C k28 w A xs.length xs) {k : Nat} (hk : k ≤ xs.length) : Kd.C k28 w A k (xs.take k) := by
  have := Kd.C_take h hk
  rw [List.length_take, Nat.min_eq_left hk] at this
  exact this
theorem drop_c {w : World} {A : Option Addr} {xs : List S28} (h : Kd.C k28 w A xs.length xs) {k c : Nat} (hk : k ≤ xs.length) (hc : xs.length ≤ c) : Kd.C k28 w (if c = k then A else A.map (·.add (k * 4))) (xs.length - k) (xs.drop k) := by
  have := Kd.C_drop h hk hc
  rw [List.length_drop] at this
  exact this
theorem words_from (A : Option Addr) (n c k : Nat) (hk : k ≤ n) (hc : n ≤ c) (A9 : Option Addr) (hA : A9 = (if c = k then A else A.map (·.add (k * 4)))) : ∀ W : World, (Instr.slice 22 (.slice A n c) (some (.int .i64 (k : Int))) none none).run Tryd.prog W = .ok (.slice A9 (n - k) (c - k)) W := by
  intro W
  obtain ⟨i0, hi, _, hsz, _⟩ := info_parts info28
  have hel : Tryd.prog.elem 22 = 28 := by simp [Program.elem, Tryd.underlying22]
  have hu : Tryd.prog.underlying 22 = some (.slice (Tryd.prog.elem 22)) := by rw [hel]; exact Tryd.underlying22
  rw [run_slice_l W 22 A n c hu .i64 (k : Int) (by omega) (by omega), hel, hA]
  simp [sizeOf, typeInfo, hi, hsz, sliced, Result.andThen]
set_option maxRecDepth 100000 in
set_option maxHeartbeats 6400000 in
theorem LexOdd_E0 (l : List S56) (A0 : Option Addr) (c0 : Nat) (at_ wh : Int) (w : World) (m : Nat) (hm2 : (if (40 : Int) < (l.length : Int) then (40 : Int) else (l.length : Int)) = (m : Int)) (hml : m ≤ l.length) (hlm : (l.take m).length = m) (hr0 : Kd.C k56 w A0 m (l.take m)) (hc0 : m ≤ c0) (hg : GV w) (K : Nat)
    (ws : List S28) (hws : ws.length ≤ 60) (hrow : signetrylaw03_row.f K (l.take m) = some ws) (k n : Nat) (hk : k ≤ ws.length) (hn : n < 28) (h23 : n ≠ 23) (h24 : n ≠ 24) (h25 : n ≠ 25) (h26 : n ≠ 26) (h27 : n ≠ 27) (hb1 : signetryref00_Bring.f at_ ((ws.length : Int) + 1) = some (k : Int)) (hb2 : signetryref00_Bring.f wh 28 = some (n : Int))
    (sx tx od T : ByteArray) (hj1 : lex_Join.f (ws.take k) = some sx) (hj2 : lex_Join.f (ws.drop k) = some tx) (hod : rdOf ByteArray.empty oddL (n : Int) = od) (hT : (((sx ++ ⟨#[10]⟩) ++ od) ++ ⟨#[10]⟩) ++ tx = T) (hsx : sx.size ≤ 20000) (htx : tx.size ≤ 20000) (hos : od.size ≤ 100)
    (hw : lex_Words.f T = some ([], (sx.size : Int) + 1, 30)) :
    Calls Tryd.prog 7 #[.slice A0 l.length c0, .int .i64 at_, .int .i64 wh] w fun e w' => e = .returned (.bool true) ∧ Below w.heap.size w w' := by
  have HR0 := Aside0.mk hr0
  have HC0 := Aside0.mk hc0
  have HLM := Aside0.mk hlm
  have HG := Aside0.mk hg
  have HB := Aside0.mk (Below.refl w.heap.size w)
  have HROW := Aside0.mk hrow
  have HB1 := Aside0.mk hb1
  have HB2 := Aside0.mk hb2
  have HJ1 := Aside0.mk hj1
  have HJ2 := Aside0.mk hj2
  have HOD := Aside0.mk hod
  have HT := Aside0.mk hT
  have HW := Aside0.mk hw
  have HTK : Aside0 ((ws.take k).length = k) := ⟨by rw [List.length_take]; omega⟩
  have HDK : Aside0 ((ws.drop k).length = ws.length - k) := ⟨List.length_drop⟩
  have hm0 : (0 : Int) ≤ (m : Int) := by omega
  have hm1 : (m : Int) ≤ (c0 : Int) := by omega
  have hm3 : (m : Int) ≤ (l.length : Int) := by omega
  have d1 : (0 : Int) ≤ (k : Int) := by omega
  have d2 : (k : Int) ≤ (ws.length : Int) := by omega
  have b23 : ((n : Int) == 23) = false := by simp; omega
  have b24 : ((n : Int) == 24) = false := by simp; omega
  have b25 : ((n : Int) == 25) = false := by simp; omega
  have b26 : ((n : Int) == 26) = false := by simp; omega
  have b27 : ((n : Int) == 27) = false := by simp; omega
  clear hr0 hc0 hg hrow hb1 hb2 hj1 hj2 hod hT hw hlm
  go_enter Tryd.func7, Tryd.ntmps7
  go_upto_region 12 with (first | (go_at_call 14; (with_reducible refine (row_n K A0 c0 (l.take m) m HLM.out ws _ ?side1 ?side2 HROW.out).mono ?_); (case side1 => exact Kd.C_below HR0.out (by repeat (first | exact HB.out | apply below_alloc | apply pw_below_drewN | apply below_drew1))); (case side2 => exact HC0.out); rintro e w19 ⟨v19, rfl, ho, hb⟩; obtain ⟨Ao, co, eo⟩ := Kd.R_slice ho; subst eo; have hco := (Kd.R_reads' ho).2.1; have d4 : (k : Int) ≤ (co : Int) := (by omega); have hk1 : k ≤ co := (by omega); have n0_ := Aside0.mk (Kd.R_lower ho (below_size (by repeat (first | exact HB.out | apply below_alloc | apply pw_below_drewN | apply below_drew1)))); have n1_ := Aside0.mk (below_step (by repeat (first | exact HB.out | apply below_alloc | apply pw_below_drewN | apply below_drew1)) hb); clear HB ho hb; have HB := n1_; have HR := n0_; clear n1_ n0_) | ((with_reducible refine gate_dst (N := 29) rfl ?_); refine Kd.R_lit Kd.string _ 9 ?hg (N := 29) ?hd (xs := oddL) (inner := [.string (⟨#[35]⟩ : ByteArray), .string (⟨#[47]⟩ : ByteArray), .string (⟨#[42]⟩ : ByteArray), .string (⟨#[43]⟩ : ByteArray), .string (⟨#[63]⟩ : ByteArray), .string (⟨#[64]⟩ : ByteArray), .string (⟨#[36]⟩ : ByteArray), .string (⟨#[92]⟩ : ByteArray), .string (⟨#[0]⟩ : ByteArray), .string (⟨#[127]⟩ : ByteArray), .string (⟨#[255]⟩ : ByteArray), .string (⟨#[58]⟩ : ByteArray), .string (⟨#[33]⟩ : ByteArray), .string (⟨#[37]⟩ : ByteArray), .string (⟨#[38]⟩ : ByteArray), .string (⟨#[124]⟩ : ByteArray), .string (⟨#[94]⟩ : ByteArray), .string (⟨#[126]⟩ : ByteArray), .string (⟨#[48, 57]⟩ : ByteArray), .string (⟨#[48, 120]⟩ : ByteArray), .string (⟨#[48, 120, 103]⟩ : ByteArray), .string (⟨#[55, 97]⟩ : ByteArray), .string (⟨#[97, 98, 99, 100, 101, 102, 103, 104, 105, 106, 107, 108, 109, 110, 111, 112, 113, 114, 115, 116, 117, 118, 119, 120, 121, 122, 97, 98, 99, 100, 101, 102, 103]⟩ : ByteArray), .string (⟨#[50, 49, 52, 55, 52, 56, 51, 54, 52, 57]⟩ : ByteArray), .string (⟨#[48, 50, 48, 48, 48, 48, 48, 48, 48, 48, 48, 49]⟩ : ByteArray), .string (⟨#[39, 97]⟩ : ByteArray), .string (⟨#[34, 92, 113, 34]⟩ : ByteArray), .string (⟨#[47, 42, 32, 97]⟩ : ByteArray)]) (ok := fun _ => True) (okp := fun _ => True) ?hr ?hp (fun _ hk => hk) trivial (Below.refl _ _) (Nat.le_refl _) (by simp [oddL]) ?_; (case hd => rfl); (case hg => rfl); (case hr => first | (go_simp; done) | (go_simp; rfl)); (case hp => exact (Reps.one (show Kd.M Kd.string _ _ _ (⟨#[35]⟩ : ByteArray) [.string (⟨#[35]⟩ : ByteArray)] from rfl) (Reps.one (show Kd.M Kd.string _ _ _ (⟨#[47]⟩ : ByteArray) [.string (⟨#[47]⟩ : ByteArray)] from rfl) (Reps.one (show Kd.M Kd.string _ _ _ (⟨#[42]⟩ : ByteArray) [.string (⟨#[42]⟩ : ByteArray)] from rfl) (Reps.one (show Kd.M Kd.string _ _ _ (⟨#[43]⟩ : ByteArray) [.string (⟨#[43]⟩ : ByteArray)] from rfl) (Reps.one (show Kd.M Kd.string _ _ _ (⟨#[63]⟩ : ByteArray) [.string (⟨#[63]⟩ : ByteArray)] from rfl) (Reps.one (show Kd.M Kd.string _ _ _ (⟨#[64]⟩ : ByteArray) [.string (⟨#[64]⟩ : ByteArray)] from rfl) (Reps.one (show Kd.M Kd.string _ _ _ (⟨#[36]⟩ : ByteArray) [.string (⟨#[36]⟩ : ByteArray)] from rfl) (Reps.one (show Kd.M Kd.string _ _ _ (⟨#[92]⟩ : ByteArray) [.string (⟨#[92]⟩ : ByteArray)] from rfl) (Reps.one (show Kd.M Kd.string _ _ _ (⟨#[0]⟩ : ByteArray) [.string (⟨#[0]⟩ : ByteArray)] from rfl) (Reps.one (show Kd.M Kd.string _ _ _ (⟨#[127]⟩ : ByteArray) [.string (⟨#[127]⟩ : ByteArray)] from rfl) (Reps.one (show Kd.M Kd.string _ _ _ (⟨#[255]⟩ : ByteArray) [.string (⟨#[255]⟩ : ByteArray)] from rfl) (Reps.one (show Kd.M Kd.string _ _ _ (⟨#[58]⟩ : ByteArray) [.string (⟨#[58]⟩ : ByteArray)] from rfl) (Reps.one (show Kd.M Kd.string _ _ _ (⟨#[33]⟩ : ByteArray) [.string (⟨#[33]⟩ : ByteArray)] from rfl) (Reps.one (show Kd.M Kd.string _ _ _ (⟨#[37]⟩ : ByteArray) [.string (⟨#[37]⟩ : ByteArray)] from rfl) (Reps.one (show Kd.M Kd.string _ _ _ (⟨#[38]⟩ : ByteArray) [.string (⟨#[38]⟩ : ByteArray)] from rfl) (Reps.one (show Kd.M Kd.string _ _ _ (⟨#[124]⟩ : ByteArray) [.string (⟨#[124]⟩ : ByteArray)] from rfl) (Reps.one (show Kd.M Kd.string _ _ _ (⟨#[94]⟩ : ByteArray) [.string (⟨#[94]⟩ : ByteArray)] from rfl) (Reps.one (show Kd.M Kd.string _ _ _ (⟨#[126]⟩ : ByteArray) [.string (⟨#[126]⟩ : ByteArray)] from rfl) (Reps.one (show Kd.M Kd.string _ _ _ (⟨#[48, 57]⟩ : ByteArray) [.string (⟨#[48, 57]⟩ : ByteArray)] from rfl) (Reps.one (show Kd.M Kd.string _ _ _ (⟨#[48, 120]⟩ : ByteArray) [.string (⟨#[48, 120]⟩ : ByteArray)] from rfl) (Reps.one (show Kd.M Kd.string _ _ _ (⟨#[48, 120, 103]⟩ : ByteArray) [.string (⟨#[48, 120, 103]⟩ : ByteArray)] from rfl) (Reps.one (show Kd.M Kd.string _ _ _ (⟨#[55, 97]⟩ : ByteArray) [.string (⟨#[55, 97]⟩ : ByteArray)] from rfl) (Reps.one (show Kd.M Kd.string _ _ _ (⟨#[97, 98, 99, 100, 101, 102, 103, 104, 105, 106, 107, 108, 109, 110, 111, 112, 113, 114, 115, 116, 117, 118, 119, 120, 121, 122, 97, 98, 99, 100, 101, 102, 103]⟩ : ByteArray) [.string (⟨#[97, 98, 99, 100, 101, 102, 103, 104, 105, 106, 107, 108, 109, 110, 111, 112, 113, 114, 115, 116, 117, 118, 119, 120, 121, 122, 97, 98, 99, 100, 101, 102, 103]⟩ : ByteArray)] from rfl) (Reps.one (show Kd.M Kd.string _ _ _ (⟨#[50, 49, 52, 55, 52, 56, 51, 54, 52, 57]⟩ : ByteArray) [.string (⟨#[50, 49, 52, 55, 52, 56, 51, 54, 52, 57]⟩ : ByteArray)] from rfl) (Reps.one (show Kd.M Kd.string _ _ _ (⟨#[48, 50, 48, 48, 48, 48, 48, 48, 48, 48, 48, 49]⟩ : ByteArray) [.string (⟨#[48, 50, 48, 48, 48, 48, 48, 48, 48, 48, 48, 49]⟩ : ByteArray)] from rfl) (Reps.one (show Kd.M Kd.string _ _ _ (⟨#[39, 97]⟩ : ByteArray) [.string (⟨#[39, 97]⟩ : ByteArray)] from rfl) (Reps.one (show Kd.M Kd.string _ _ _ (⟨#[34, 92, 113, 34]⟩ : ByteArray) [.string (⟨#[34, 92, 113, 34]⟩ : ByteArray)] from rfl) (Reps.one (show Kd.M Kd.string _ _ _ (⟨#[47, 42, 32, 97]⟩ : ByteArray) [.string (⟨#[47, 42, 32, 97]⟩ : ByteArray)] from rfl) (Reps.none _ _)))))))))))))))))))))))))))))); intro v29 w29 ho hb hg_ hnew_; clear hg_ hnew_; obtain ⟨Ap, cAp, ep⟩ := Kd.R_slice ho; rw [show oddL.length = 28 from rfl] at ep; subst ep; have n3_ := Aside0.mk (Kd.R_lower ho (below_size (by repeat (first | exact HB.out | apply below_alloc | apply pw_below_drewN | apply below_drew1)))); clear ho; have m0_ := Aside0.mk (Kd.R_below (by (with_reducible repeat (first | apply Kd.R_alloc | apply Kd.R_drewN | apply Kd.R_drew)); exact HR.out) hb); have n1_ := Aside0.mk (below_step (by repeat (first | exact HB.out | apply below_alloc | apply pw_below_drewN | apply below_drew1)) hb); clear HR HB hb; have HR := m0_; have HB := n1_; clear m0_ n1_; have HP := n3_; clear n3_) | ((with_reducible refine gate_dst (N := 30) rfl ?_); refine Kd.R_lit (Kd.int .i64) _ 23 ?hg (N := 30) ?hd (xs := wantL) (inner := [.int .i64 30, .int .i64 9, .int .i64 21]) (ok := fun _ => True) (okp := fun _ => True) ?hr ?hp (fun _ hk => hk) trivial (Below.refl _ _) (Nat.le_refl _) (by simp [wantL]) ?_; (case hd => rfl); (case hg => rfl); (case hr => first | (go_simp; done) | (go_simp; rfl)); (case hp => exact (Reps.one (show Kd.M (Kd.int .i64) _ _ _ (30 : Int) [.int .i64 30] from rfl) (Reps.one (show Kd.M (Kd.int .i64) _ _ _ (9 : Int) [.int .i64 9] from rfl) (Reps.one (show Kd.M (Kd.int .i64) _ _ _ (21 : Int) [.int .i64 21] from rfl) (Reps.none _ _))))); intro v29 w29 ho hb hg_ hnew_; clear hg_ hnew_; obtain ⟨Aq, cAq, ep⟩ := Kd.R_slice ho; rw [show wantL.length = 3 from rfl] at ep; subst ep; have n3_ := Aside0.mk (Kd.R_lower ho (below_size (by repeat (first | exact HB.out | apply below_alloc | apply pw_below_drewN | apply below_drew1)))); clear ho; have m0_ := Aside0.mk (Kd.R_below (by (with_reducible repeat (first | apply Kd.R_alloc | apply Kd.R_drewN | apply Kd.R_drew)); exact HR.out) hb); have m1_ := Aside0.mk (Kd.R_below (by (with_reducible repeat (first | apply Kd.R_alloc | apply Kd.R_drewN | apply Kd.R_drew)); exact HP.out) hb); have n1_ := Aside0.mk (below_step (by repeat (first | exact HB.out | apply below_alloc | apply pw_below_drewN | apply below_drew1)) hb); clear HR HP HB hb; have HR := m0_; have HP := m1_; have HB := n1_; clear m0_ m1_ n1_; have HQ := n3_; clear n3_) | (go_at_call_of 10 (Value.int .i64 at_); (with_reducible refine (signetryref00_Bring.calls at_ ((ws.length : Int) + 1) (k : Int) _ HB1.out).mono ?_); rintro e w59 ⟨rfl, ⟨nd, rfl⟩⟩) | (go_at_call_of 10 (Value.int .i64 wh); (with_reducible refine (signetryref00_Bring.calls wh 28 (n : Int) _ HB2.out).mono ?_); rintro e w69 ⟨rfl, ⟨nd2, rfl⟩⟩) | (go_at_call 11; refine (join_n (ws.take k) k HTK.out _ _ sx _ ?side1 ?side2 HJ1.out).mono ?_; (case side1 => exact take_c (by repeat (first | exact (Kd.R_reads' HR.out).2.2 | (with_reducible refine Kd.C_alloc ?_ _) | (with_reducible refine Kd.C_drewN ?_ _) | (with_reducible refine Kd.C_drew ?_))) hk); (case side2 => exact hk1); rintro e w49 ⟨rfl, hb⟩; have m0_ := Aside0.mk (Kd.R_below (by (with_reducible repeat (first | apply Kd.R_alloc | apply Kd.R_drewN | apply Kd.R_drew)); exact HR.out) hb); have m1_ := Aside0.mk (Kd.R_below (by (with_reducible repeat (first | apply Kd.R_alloc | apply Kd.R_drewN | apply Kd.R_drew)); exact HP.out) hb); have m2_ := Aside0.mk (Kd.R_below (by (with_reducible repeat (first | apply Kd.R_alloc | apply Kd.R_drewN | apply Kd.R_drew)); exact HQ.out) hb); have n1_ := Aside0.mk (below_step (by repeat (first | exact HB.out | apply below_alloc | apply pw_below_drewN | apply below_drew1)) hb); clear HR HP HQ HB hb; have HR := m0_; have HP := m1_; have HQ := m2_; have HB := n1_; clear m0_ m1_ m2_ n1_))
  obtain ⟨ap, eap, hld⟩ := Kd.at_string (Kd.R_reads' HP.out).2.2 (n : Int) (by omega) (by show (n : Int) < (28 : Nat); omega)
  subst eap
  rw [HOD.out] at hld
  simp only [Int.toNat_natCast] at hld
  obtain ⟨A9, hA9⟩ : ∃ A9, A9 = (if co = k then Ao else Ao.map (·.add (k * 4))) := ⟨_, rfl⟩
  have HX : Aside0 (Kd.C k28 _ A9 (ws.length - k) (ws.drop k)) := ⟨by rw [hA9]; exact drop_c (Kd.R_reads' HR.out).2.2 hk hco⟩
  have hcut := words_from Ao ws.length co k hk hco A9 hA9
  have hk2 : ws.length - k ≤ co - k := by omega
  have hc1 : ¬ 9223372036854775807 < sx.size + 1 := by omega
  have hc2 : ¬ 9223372036854775807 < sx.size + 1 + od.size := by omega
  have hc3 : ¬ 9223372036854775807 < sx.size + 1 + od.size + 1 := by omega
  have hc4 : ¬ 9223372036854775807 < sx.size + 1 + od.size + 1 + tx.size := by omega
  have hs10 : (⟨#[10]⟩ : ByteArray).size = 1 := rfl
  have hc5 : ¬ 9223372036854775807 < (sx ++ ⟨#[10]⟩ : ByteArray).size + od.size := by rw [ByteArray.size_append, hs10]; omega
  have hc6 : ¬ 9223372036854775807 < ((sx ++ ⟨#[10]⟩) ++ od : ByteArray).size + 1 := by rw [ByteArray.size_append, ByteArray.size_append, hs10]; omega
  have hc7 : ¬ 9223372036854775807 < (((sx ++ ⟨#[10]⟩) ++ od) ++ ⟨#[10]⟩ : ByteArray).size + tx.size := by rw [ByteArray.size_append, ByteArray.size_append, ByteArray.size_append, hs10]; omega
  clear hA9
  have p9 : ((n : Int) < 28) = True := eq_true (by omega)
  have q9 : (0 ≤ (n : Int)) = True := eq_true (by omega)
  refine start_ (n := 14) (S := fun w' => w'.cell? (ap.add n) = some (.string od)) (ds := []) #[false, false, false, false, false, false, false, false, false, false, false, false, false, false] (by kernel_rfl) rfl rfl (hld) (fun hHeld => ?_)
  refine pure_ (i := 0) (N := some 51) (v := ?_) (a' := ?_) #[true, false, false, false, false, false, false, false, false, false, false, false, false, false] rfl rfl (by kernel_rfl) (fun _ _ _ h => h) (Or.inl ⟨by rfl, ?_⟩) ?_ ?_
  rotate_left
  · intro w'
    go_simp
    with_reducible rfl
  rotate_left
  · simp only [Act.put, List.setIfInBounds_toArray, List.set_cons_zero, List.set_cons_succ, i64_w, i32_w]
    rfl
  refine pure_ (i := 1) (N := some 52) (v := ?_) (a' := ?_) #[true, true, false, false, false, false, false, false, false, false, false, false, false, false] rfl rfl (by kernel_rfl) (fun _ _ _ h => h) (Or.inl ⟨by rfl, ?_⟩) ?_ ?_
  rotate_left
  · intro w'
    go_simp
    with_reducible rfl
  rotate_left
  · simp only [Act.put, List.setIfInBounds_toArray, List.set_cons_zero, List.set_cons_succ, i64_w, i32_w]
    rfl
  refine pure_ (i := 2) (N := some 53) (v := ?_) (a' := ?_) #[true, true, true, false, false, false, false, false, false, false, false, false, false, false] rfl rfl (by kernel_rfl) (fun _ _ _ h => h) (Or.inl ⟨by rfl, ?_⟩) ?_ ?_
  rotate_left
  · intro w'
    go_simp
    with_reducible rfl
  rotate_left
  · simp only [Act.put, List.setIfInBounds_toArray, List.set_cons_zero, List.set_cons_succ, i64_w, i32_w]
    rfl
  refine pure_ (i := 3) (N := some 54) (v := ?_) (a' := ?_) #[true, true, true, true, false, false, false, false, false, false, false, false, false, false] rfl rfl (by kernel_rfl) (fun _ _ _ h => h) (Or.inl ⟨by rfl, ?_⟩) ?_ ?_
  rotate_left
  · intro w'
    go_simp
    with_reducible rfl
  rotate_left
  · simp only [Act.put, List.setIfInBounds_toArray, List.set_cons_zero, List.set_cons_succ, i64_w, i32_w]
    rfl
  refine pure_ (i := 4) (N := some 55) (v := ?_) (a' := ?_) #[true, true, true, true, true, false, false, false, false, false, false, false, false, false] rfl rfl (by kernel_rfl) (fun _ _ _ h => h) (Or.inl ⟨by rfl, ?_⟩) ?_ ?_
  rotate_left
  · intro w'
    go_simp
    with_reducible rfl
  rotate_left
  · simp only [Act.put, List.setIfInBounds_toArray, List.set_cons_zero, List.set_cons_succ, i64_w, i32_w]
    rfl
  refine pure_ (i := 8) (N := some 59) (v := ?_) (a' := ?_) #[true, true, true, true, true, false, false, false, true, false, false, false, false, false] rfl rfl (by kernel_rfl) (fun _ _ _ h => h) (Or.inl ⟨by rfl, ?_⟩) ?_ ?_
  rotate_left
  · intro w'
    go_simp
    with_reducible rfl
  rotate_left
  · simp only [Act.put, List.setIfInBounds_toArray, List.set_cons_zero, List.set_cons_succ, i64_w, i32_w]
    rfl
  refine pure_ (i := 9) (N := some 60) (v := ?_) (a' := ?_) #[true, true, true, true, true, false, false, false, true, true, false, false, false, false] rfl rfl (by kernel_rfl) (fun _ _ _ h => h) (Or.inl ⟨by rfl, ?_⟩) ?_ ?_
  rotate_left
  · intro w'
    go_simp
    with_reducible rfl
  rotate_left
  · simp only [Act.put, List.setIfInBounds_toArray, List.set_cons_zero, List.set_cons_succ, i64_w, i32_w]
    rfl
  refine pure_ (i := 10) (N := some 61) (v := ?_) (a' := ?_) #[true, true, true, true, true, false, false, false, true, true, true, false, false, false] rfl rfl (by kernel_rfl) (fun _ _ _ h => h) (Or.inl ⟨by rfl, ?_⟩) ?_ ?_
  rotate_left
  · intro w'
    go_simp
    with_reducible rfl
  rotate_left
  · simp only [Act.put, List.setIfInBounds_toArray, List.set_cons_zero, List.set_cons_succ, i64_w, i32_w]
    rfl
  refine take_ (i := 5) (N := some 56) (v := ?_) (a' := ?_) #[true, true, true, true, true, true, false, false, true, true, true, false, false, false] rfl rfl (by kernel_rfl) (fun _ _ _ h => h) (Or.inl ⟨by rfl, ?_⟩) hHeld ?_ ?_
  rotate_left
  · intro w' s0
    go_simp
    with_reducible rfl
  rotate_left
  · simp only [Act.put, List.setIfInBounds_toArray, List.set_cons_zero, List.set_cons_succ, i64_w, i32_w]
    rfl
  refine pure_ (i := 6) (N := some 57) (v := ?_) (a' := ?_) #[true, true, true, true, true, true, true, false, true, true, true, false, false, false] rfl rfl (by kernel_rfl) (fun _ _ _ h => h) (Or.inl ⟨by rfl, ?_⟩) ?_ ?_
  rotate_left
  · intro w'
    go_simp
    with_reducible rfl
  rotate_left
  · simp only [Act.put, List.setIfInBounds_toArray, List.set_cons_zero, List.set_cons_succ, i64_w, i32_w]
    rfl
  refine pure_ (i := 7) (N := some 58) (v := ?_) (a' := ?_) #[true, true, true, true, true, true, true, true, true, true, true, false, false, false] rfl rfl (by kernel_rfl) (fun _ _ _ h => h) (Or.inl ⟨by rfl, ?_⟩) ?_ ?_
  rotate_left
  · intro w'
    go_simp
    with_reducible rfl
  rotate_left
  · simp only [Act.put, List.setIfInBounds_toArray, List.set_cons_zero, List.set_cons_succ, i64_w, i32_w]
    rfl
  refine one_ (i := 11) (N := some 62) #[true, true, true, true, true, true, true, true, true, true, true, true, false, false] rfl rfl (by kernel_rfl) (by decide) (fun K hK => ?_)
  refine goes_ Tryd.func11 (by kernel_rfl) rfl #[.slice A9 (ws.length - k) (co - k)] (by rfl) rfl rfl (by simp only [List.map_toArray, List.map_cons, List.map_nil]; rfl) ?_
  with_reducible refine (join_n (ws.drop k) (ws.length - k) HDK.out A9 (co - k) tx _ (by repeat (first | exact HX.out | (with_reducible refine Kd.C_alloc ?_ _) | (with_reducible refine Kd.C_drewN ?_ _) | (with_reducible refine Kd.C_drew ?_))) hk2 HJ2.out).mono ?_
  rintro e W3 ⟨rfl, hb⟩
  refine ⟨_, rfl, ?_⟩
  (have m0_ := Aside0.mk (Kd.R_below (by (with_reducible repeat (first | apply Kd.R_alloc | apply Kd.R_drewN | apply Kd.R_drew)); exact HR.out) hb); have m1_ := Aside0.mk (Kd.R_below (by (with_reducible repeat (first | apply Kd.R_alloc | apply Kd.R_drewN | apply Kd.R_drew)); exact HP.out) hb); have m2_ := Aside0.mk (Kd.R_below (by (with_reducible repeat (first | apply Kd.R_alloc | apply Kd.R_drewN | apply Kd.R_drew)); exact HQ.out) hb); have n1_ := Aside0.mk (below_step (by repeat (first | exact HB.out | apply below_alloc | apply pw_below_drewN | apply below_drew1)) hb); clear HR HP HQ HB hb; have HR := m0_; have HP := m1_; have HQ := m2_; have HB := n1_; clear m0_ m1_ m2_ n1_)
  refine hK.out _ _ ((by obtain ⟨ap2, e2, h2⟩ := Kd.at_string (Kd.R_reads' HP.out).2.2 (n : Int) (by omega) (by show (n : Int) < (28 : Nat); omega); cases e2; rw [HOD.out] at h2; simpa using h2)) (fun hHeld => ?_)
  clear hK K
  refine norm_ (a' := ?_) ?_ ?_
  rotate_left
  · show Act.put _ (some 62) _ = _
    simp only [Act.put, List.setIfInBounds_toArray, List.set_cons_zero, List.set_cons_succ, i64_w, i32_w]
    rfl
  refine pure_ (i := 12) (N := some 63) (v := ?_) (a' := ?_) #[true, true, true, true, true, true, true, true, true, true, true, true, true, false] rfl rfl (by kernel_rfl) (fun _ _ _ h => h) (Or.inl ⟨by rfl, ?_⟩) ?_ ?_
  rotate_left
  · intro w'
    go_simp
    with_reducible rfl
  rotate_left
  · simp only [Act.put, List.setIfInBounds_toArray, List.set_cons_zero, List.set_cons_succ, i64_w, i32_w]
    rfl
  refine pure_ (i := 13) (N := some 14) (v := ?_) (a' := ?_) #[true, true, true, true, true, true, true, true, true, true, true, true, true, true] rfl rfl (by kernel_rfl) (fun _ _ _ h => h) (Or.inl ⟨by rfl, ?_⟩) ?_ ?_
  rotate_left
  · intro w'
    go_simp
    with_reducible rfl
  rotate_left
  · simp only [Act.put, List.setIfInBounds_toArray, List.set_cons_zero, List.set_cons_succ, i64_w, i32_w]
    rfl
  refine done_ (by kernel_rfl) ?_
  have hTT := HT.out
  obtain ⟨aq, eaq, hqd⟩ := Kd.at_int (Kd.R_reads' HQ.out).2.2 (0 : Int) (by decide) (by decide)
  subst eaq
  clear hqd
  clear hc1 hc2 hc3 hc4 hc5 hc6 hc7 hcut hld HX
  go_wp2_with (first | (go_at_call 8; (with_reducible refine (lex_Words.calls T [] ((sx.size : Int) + 1) 30 _ HW.out ?sideg).mono ?_); (case sideg => exact GV.below HG.out (by repeat (first | exact HB.out | apply below_alloc | apply pw_below_drewN | apply below_drew1))); rintro e w79 ⟨v39, rfl, ho, hb⟩; obtain ⟨Ax, cx, eo⟩ := Kd.R_slice ho; subst eo; clear ho; have m0_ := Aside0.mk (Kd.R_below (by (with_reducible repeat (first | apply Kd.R_alloc | apply Kd.R_drewN | apply Kd.R_drew)); exact HQ.out) hb); have n1_ := Aside0.mk (below_step (by repeat (first | exact HB.out | apply below_alloc | apply pw_below_drewN | apply below_drew1)) hb); obtain ⟨aq2, eaq2, hqd2⟩ := Kd.at_int (Kd.R_reads' m0_.out).2.2 (0 : Int) (by decide) (by decide); cases eaq2; replace hqd2 : World.cell? w79 aq = some (Value.int .i64 30) := (by rw [show aq.add (Int.toNat 0) = aq from by simp [Addr.add]] at hqd2; exact hqd2); clear HQ HB hb; have HQ := m0_; have HB := n1_; clear m0_ n1_) | (go_at_call 9; (with_reducible refine (works_true _ (GV.below HG.out (by repeat (first | exact HB.out | apply below_alloc | apply pw_below_drewN | apply below_drew1)))).mono ?_); rintro e w99 ⟨rfl, hb⟩; have n1_ := Aside0.mk (below_step (by repeat (first | exact HB.out | apply below_alloc | apply pw_below_drewN | apply below_drew1)) hb); clear HB hb; have HB := n1_; clear n1_))
  go_ret
  exact ⟨rfl, HB.out⟩
set_option maxRecDepth 100000 in
set_option maxHeartbeats 6400000 in
theorem LexOdd_E23 (l : List S56) (A0 : Option Addr) (c0 : Nat) (at_ wh : Int) (w : World) (m : Nat) (hm2 : (if (40 : Int) < (l.length : Int) then (40 : Int) else (l.length : Int)) = (m : Int)) (hml : m ≤ l.length) (hlm : (l.take m).length = m) (hr0 : Kd.C k56 w A0 m (l.take m)) (hc0 : m ≤ c0) (hg : GV w) (K : Nat)
    (ws : List S28) (hws : ws.length ≤ 60) (hrow : signetrylaw03_row.f K (l.take m) = some ws) (k : Nat) (hk : k ≤ ws.length)  (hb1 : signetryref00_Bring.f at_ ((ws.length : Int) + 1) = some (k : Int)) (hb2 : signetryref00_Bring.f wh 28 = some 23)
    (sx tx od T : ByteArray) (hj1 : lex_Join.f (ws.take k) = some sx) (hj2 : lex_Join.f (ws.drop k) = some tx) (hod : rdOf ByteArray.empty oddL 23 = od) (hT : (((sx ++ ⟨#[10]⟩) ++ od) ++ ⟨#[10]⟩) ++ tx = T) (hsx : sx.size ≤ 20000) (htx : tx.size ≤ 20000) (hos : od.size ≤ 100)
    (hw : lex_Words.f T = some ([], (sx.size : Int) + 1, 9)) :
    Calls Tryd.prog 7 #[.slice A0 l.length c0, .int .i64 at_, .int .i64 wh] w fun e w' => e = .returned (.bool true) ∧ Below w.heap.size w w' := by
  have HR0 := Aside0.mk hr0
  have HC0 := Aside0.mk hc0
  have HLM := Aside0.mk hlm
  have HG := Aside0.mk hg
  have HB := Aside0.mk (Below.refl w.heap.size w)
  have HROW := Aside0.mk hrow
  have HB1 := Aside0.mk hb1
  have HB2 := Aside0.mk hb2
  have HJ1 := Aside0.mk hj1
  have HJ2 := Aside0.mk hj2
  have HOD := Aside0.mk hod
  have HT := Aside0.mk hT
  have HW := Aside0.mk hw
  have HTK : Aside0 ((ws.take k).length = k) := ⟨by rw [List.length_take]; omega⟩
  have HDK : Aside0 ((ws.drop k).length = ws.length - k) := ⟨List.length_drop⟩
  have hm0 : (0 : Int) ≤ (m : Int) := by omega
  have hm1 : (m : Int) ≤ (c0 : Int) := by omega
  have hm3 : (m : Int) ≤ (l.length : Int) := by omega
  have d1 : (0 : Int) ≤ (k : Int) := by omega
  have d2 : (k : Int) ≤ (ws.length : Int) := by omega
  clear hr0 hc0 hg hrow hb1 hb2 hj1 hj2 hod hT hw hlm
  go_enter Tryd.func7, Tryd.ntmps7
  go_upto_region 12 with (first | (go_at_call 14; (with_reducible refine (row_n K A0 c0 (l.take m) m HLM.out ws _ ?side1 ?side2 HROW.out).mono ?_); (case side1 => exact Kd.C_below HR0.out (by repeat (first | exact HB.out | apply below_alloc | apply pw_below_drewN | apply below_drew1))); (case side2 => exact HC0.out); rintro e w19 ⟨v19, rfl, ho, hb⟩; obtain ⟨Ao, co, eo⟩ := Kd.R_slice ho; subst eo; have hco := (Kd.R_reads' ho).2.1; have d4 : (k : Int) ≤ (co : Int) := (by omega); have hk1 : k ≤ co := (by omega); have n0_ := Aside0.mk (Kd.R_lower ho (below_size (by repeat (first | exact HB.out | apply below_alloc | apply pw_below_drewN | apply below_drew1)))); have n1_ := Aside0.mk (below_step (by repeat (first | exact HB.out | apply below_alloc | apply pw_below_drewN | apply below_drew1)) hb); clear HB ho hb; have HB := n1_; have HR := n0_; clear n1_ n0_) | ((with_reducible refine gate_dst (N := 29) rfl ?_); refine Kd.R_lit Kd.string _ 9 ?hg (N := 29) ?hd (xs := oddL) (inner := [.string (⟨#[35]⟩ : ByteArray), .string (⟨#[47]⟩ : ByteArray), .string (⟨#[42]⟩ : ByteArray), .string (⟨#[43]⟩ : ByteArray), .string (⟨#[63]⟩ : ByteArray), .string (⟨#[64]⟩ : ByteArray), .string (⟨#[36]⟩ : ByteArray), .string (⟨#[92]⟩ : ByteArray), .string (⟨#[0]⟩ : ByteArray), .string (⟨#[127]⟩ : ByteArray), .string (⟨#[255]⟩ : ByteArray), .string (⟨#[58]⟩ : ByteArray), .string (⟨#[33]⟩ : ByteArray), .string (⟨#[37]⟩ : ByteArray), .string (⟨#[38]⟩ : ByteArray), .string (⟨#[124]⟩ : ByteArray), .string (⟨#[94]⟩ : ByteArray), .string (⟨#[126]⟩ : ByteArray), .string (⟨#[48, 57]⟩ : ByteArray), .string (⟨#[48, 120]⟩ : ByteArray), .string (⟨#[48, 120, 103]⟩ : ByteArray), .string (⟨#[55, 97]⟩ : ByteArray), .string (⟨#[97, 98, 99, 100, 101, 102, 103, 104, 105, 106, 107, 108, 109, 110, 111, 112, 113, 114, 115, 116, 117, 118, 119, 120, 121, 122, 97, 98, 99, 100, 101, 102, 103]⟩ : ByteArray), .string (⟨#[50, 49, 52, 55, 52, 56, 51, 54, 52, 57]⟩ : ByteArray), .string (⟨#[48, 50, 48, 48, 48, 48, 48, 48, 48, 48, 48, 49]⟩ : ByteArray), .string (⟨#[39, 97]⟩ : ByteArray), .string (⟨#[34, 92, 113, 34]⟩ : ByteArray), .string (⟨#[47, 42, 32, 97]⟩ : ByteArray)]) (ok := fun _ => True) (okp := fun _ => True) ?hr ?hp (fun _ hk => hk) trivial (Below.refl _ _) (Nat.le_refl _) (by simp [oddL]) ?_; (case hd => rfl); (case hg => rfl); (case hr => first | (go_simp; done) | (go_simp; rfl)); (case hp => exact (Reps.one (show Kd.M Kd.string _ _ _ (⟨#[35]⟩ : ByteArray) [.string (⟨#[35]⟩ : ByteArray)] from rfl) (Reps.one (show Kd.M Kd.string _ _ _ (⟨#[47]⟩ : ByteArray) [.string (⟨#[47]⟩ : ByteArray)] from rfl) (Reps.one (show Kd.M Kd.string _ _ _ (⟨#[42]⟩ : ByteArray) [.string (⟨#[42]⟩ : ByteArray)] from rfl) (Reps.one (show Kd.M Kd.string _ _ _ (⟨#[43]⟩ : ByteArray) [.string (⟨#[43]⟩ : ByteArray)] from rfl) (Reps.one (show Kd.M Kd.string _ _ _ (⟨#[63]⟩ : ByteArray) [.string (⟨#[63]⟩ : ByteArray)] from rfl) (Reps.one (show Kd.M Kd.string _ _ _ (⟨#[64]⟩ : ByteArray) [.string (⟨#[64]⟩ : ByteArray)] from rfl) (Reps.one (show Kd.M Kd.string _ _ _ (⟨#[36]⟩ : ByteArray) [.string (⟨#[36]⟩ : ByteArray)] from rfl) (Reps.one (show Kd.M Kd.string _ _ _ (⟨#[92]⟩ : ByteArray) [.string (⟨#[92]⟩ : ByteArray)] from rfl) (Reps.one (show Kd.M Kd.string _ _ _ (⟨#[0]⟩ : ByteArray) [.string (⟨#[0]⟩ : ByteArray)] from rfl) (Reps.one (show Kd.M Kd.string _ _ _ (⟨#[127]⟩ : ByteArray) [.string (⟨#[127]⟩ : ByteArray)] from rfl) (Reps.one (show Kd.M Kd.string _ _ _ (⟨#[255]⟩ : ByteArray) [.string (⟨#[255]⟩ : ByteArray)] from rfl) (Reps.one (show Kd.M Kd.string _ _ _ (⟨#[58]⟩ : ByteArray) [.string (⟨#[58]⟩ : ByteArray)] from rfl) (Reps.one (show Kd.M Kd.string _ _ _ (⟨#[33]⟩ : ByteArray) [.string (⟨#[33]⟩ : ByteArray)] from rfl) (Reps.one (show Kd.M Kd.string _ _ _ (⟨#[37]⟩ : ByteArray) [.string (⟨#[37]⟩ : ByteArray)] from rfl) (Reps.one (show Kd.M Kd.string _ _ _ (⟨#[38]⟩ : ByteArray) [.string (⟨#[38]⟩ : ByteArray)] from rfl) (Reps.one (show Kd.M Kd.string _ _ _ (⟨#[124]⟩ : ByteArray) [.string (⟨#[124]⟩ : ByteArray)] from rfl) (Reps.one (show Kd.M Kd.string _ _ _ (⟨#[94]⟩ : ByteArray) [.string (⟨#[94]⟩ : ByteArray)] from rfl) (Reps.one (show Kd.M Kd.string _ _ _ (⟨#[126]⟩ : ByteArray) [.string (⟨#[126]⟩ : ByteArray)] from rfl) (Reps.one (show Kd.M Kd.string _ _ _ (⟨#[48, 57]⟩ : ByteArray) [.string (⟨#[48, 57]⟩ : ByteArray)] from rfl) (Reps.one (show Kd.M Kd.string _ _ _ (⟨#[48, 120]⟩ : ByteArray) [.string (⟨#[48, 120]⟩ : ByteArray)] from rfl) (Reps.one (show Kd.M Kd.string _ _ _ (⟨#[48, 120, 103]⟩ : ByteArray) [.string (⟨#[48, 120, 103]⟩ : ByteArray)] from rfl) (Reps.one (show Kd.M Kd.string _ _ _ (⟨#[55, 97]⟩ : ByteArray) [.string (⟨#[55, 97]⟩ : ByteArray)] from rfl) (Reps.one (show Kd.M Kd.string _ _ _ (⟨#[97, 98, 99, 100, 101, 102, 103, 104, 105, 106, 107, 108, 109, 110, 111, 112, 113, 114, 115, 116, 117, 118, 119, 120, 121, 122, 97, 98, 99, 100, 101, 102, 103]⟩ : ByteArray) [.string (⟨#[97, 98, 99, 100, 101, 102, 103, 104, 105, 106, 107, 108, 109, 110, 111, 112, 113, 114, 115, 116, 117, 118, 119, 120, 121, 122, 97, 98, 99, 100, 101, 102, 103]⟩ : ByteArray)] from rfl) (Reps.one (show Kd.M Kd.string _ _ _ (⟨#[50, 49, 52, 55, 52, 56, 51, 54, 52, 57]⟩ : ByteArray) [.string (⟨#[50, 49, 52, 55, 52, 56, 51, 54, 52, 57]⟩ : ByteArray)] from rfl) (Reps.one (show Kd.M Kd.string _ _ _ (⟨#[48, 50, 48, 48, 48, 48, 48, 48, 48, 48, 48, 49]⟩ : ByteArray) [.string (⟨#[48, 50, 48, 48, 48, 48, 48, 48, 48, 48, 48, 49]⟩ : ByteArray)] from rfl) (Reps.one (show Kd.M Kd.string _ _ _ (⟨#[39, 97]⟩ : ByteArray) [.string (⟨#[39, 97]⟩ : ByteArray)] from rfl) (Reps.one (show Kd.M Kd.string _ _ _ (⟨#[34, 92, 113, 34]⟩ : ByteArray) [.string (⟨#[34, 92, 113, 34]⟩ : ByteArray)] from rfl) (Reps.one (show Kd.M Kd.string _ _ _ (⟨#[47, 42, 32, 97]⟩ : ByteArray) [.string (⟨#[47, 42, 32, 97]⟩ : ByteArray)] from rfl) (Reps.none _ _)))))))))))))))))))))))))))))); intro v29 w29 ho hb hg_ hnew_; clear hg_ hnew_; obtain ⟨Ap, cAp, ep⟩ := Kd.R_slice ho; rw [show oddL.length = 28 from rfl] at ep; subst ep; have n3_ := Aside0.mk (Kd.R_lower ho (below_size (by repeat (first | exact HB.out | apply below_alloc | apply pw_below_drewN | apply below_drew1)))); clear ho; have m0_ := Aside0.mk (Kd.R_below (by (with_reducible repeat (first | apply Kd.R_alloc | apply Kd.R_drewN | apply Kd.R_drew)); exact HR.out) hb); have n1_ := Aside0.mk (below_step (by repeat (first | exact HB.out | apply below_alloc | apply pw_below_drewN | apply below_drew1)) hb); clear HR HB hb; have HR := m0_; have HB := n1_; clear m0_ n1_; have HP := n3_; clear n3_) | ((with_reducible refine gate_dst (N := 30) rfl ?_); refine Kd.R_lit (Kd.int .i64) _ 23 ?hg (N := 30) ?hd (xs := wantL) (inner := [.int .i64 30, .int .i64 9, .int .i64 21]) (ok := fun _ => True) (okp := fun _ => True) ?hr ?hp (fun _ hk => hk) trivial (Below.refl _ _) (Nat.le_refl _) (by simp [wantL]) ?_; (case hd => rfl); (case hg => rfl); (case hr => first | (go_simp; done) | (go_simp; rfl)); (case hp => exact (Reps.one (show Kd.M (Kd.int .i64) _ _ _ (30 : Int) [.int .i64 30] from rfl) (Reps.one (show Kd.M (Kd.int .i64) _ _ _ (9 : Int) [.int .i64 9] from rfl) (Reps.one (show Kd.M (Kd.int .i64) _ _ _ (21 : Int) [.int .i64 21] from rfl) (Reps.none _ _))))); intro v29 w29 ho hb hg_ hnew_; clear hg_ hnew_; obtain ⟨Aq, cAq, ep⟩ := Kd.R_slice ho; rw [show wantL.length = 3 from rfl] at ep; subst ep; have n3_ := Aside0.mk (Kd.R_lower ho (below_size (by repeat (first | exact HB.out | apply below_alloc | apply pw_below_drewN | apply below_drew1)))); clear ho; have m0_ := Aside0.mk (Kd.R_below (by (with_reducible repeat (first | apply Kd.R_alloc | apply Kd.R_drewN | apply Kd.R_drew)); exact HR.out) hb); have m1_ := Aside0.mk (Kd.R_below (by (with_reducible repeat (first | apply Kd.R_alloc | apply Kd.R_drewN | apply Kd.R_drew)); exact HP.out) hb); have n1_ := Aside0.mk (below_step (by repeat (first | exact HB.out | apply below_alloc | apply pw_below_drewN | apply below_drew1)) hb); clear HR HP HB hb; have HR := m0_; have HP := m1_; have HB := n1_; clear m0_ m1_ n1_; have HQ := n3_; clear n3_) | (go_at_call_of 10 (Value.int .i64 at_); (with_reducible refine (signetryref00_Bring.calls at_ ((ws.length : Int) + 1) (k : Int) _ HB1.out).mono ?_); rintro e w59 ⟨rfl, ⟨nd, rfl⟩⟩) | (go_at_call_of 10 (Value.int .i64 wh); (with_reducible refine (signetryref00_Bring.calls wh 28 (23 : Int) _ HB2.out).mono ?_); rintro e w69 ⟨rfl, ⟨nd2, rfl⟩⟩) | (go_at_call 11; refine (join_n (ws.take k) k HTK.out _ _ sx _ ?side1 ?side2 HJ1.out).mono ?_; (case side1 => exact take_c (by repeat (first | exact (Kd.R_reads' HR.out).2.2 | (with_reducible refine Kd.C_alloc ?_ _) | (with_reducible refine Kd.C_drewN ?_ _) | (with_reducible refine Kd.C_drew ?_))) hk); (case side2 => exact hk1); rintro e w49 ⟨rfl, hb⟩; have m0_ := Aside0.mk (Kd.R_below (by (with_reducible repeat (first | apply Kd.R_alloc | apply Kd.R_drewN | apply Kd.R_drew)); exact HR.out) hb); have m1_ := Aside0.mk (Kd.R_below (by (with_reducible repeat (first | apply Kd.R_alloc | apply Kd.R_drewN | apply Kd.R_drew)); exact HP.out) hb); have m2_ := Aside0.mk (Kd.R_below (by (with_reducible repeat (first | apply Kd.R_alloc | apply Kd.R_drewN | apply Kd.R_drew)); exact HQ.out) hb); have n1_ := Aside0.mk (below_step (by repeat (first | exact HB.out | apply below_alloc | apply pw_below_drewN | apply below_drew1)) hb); clear HR HP HQ HB hb; have HR := m0_; have HP := m1_; have HQ := m2_; have HB := n1_; clear m0_ m1_ m2_ n1_))
  obtain ⟨ap, eap, hld⟩ := Kd.at_string (Kd.R_reads' HP.out).2.2 (23 : Int) (by omega) (by show (23 : Int) < (28 : Nat); omega)
  subst eap
  rw [HOD.out] at hld
  replace hld : World.cell? _ ⟨ap.block, ap.off + 23, none⟩ = some (.string od) := hld
  obtain ⟨A9, hA9⟩ : ∃ A9, A9 = (if co = k then Ao else Ao.map (·.add (k * 4))) := ⟨_, rfl⟩
  have HX : Aside0 (Kd.C k28 _ A9 (ws.length - k) (ws.drop k)) := ⟨by rw [hA9]; exact drop_c (Kd.R_reads' HR.out).2.2 hk hco⟩
  have hcut := words_from Ao ws.length co k hk hco A9 hA9
  have hk2 : ws.length - k ≤ co - k := by omega
  have hc1 : ¬ 9223372036854775807 < sx.size + 1 := by omega
  have hc2 : ¬ 9223372036854775807 < sx.size + 1 + od.size := by omega
  have hc3 : ¬ 9223372036854775807 < sx.size + 1 + od.size + 1 := by omega
  have hc4 : ¬ 9223372036854775807 < sx.size + 1 + od.size + 1 + tx.size := by omega
  have hs10 : (⟨#[10]⟩ : ByteArray).size = 1 := rfl
  have hc5 : ¬ 9223372036854775807 < (sx ++ ⟨#[10]⟩ : ByteArray).size + od.size := by rw [ByteArray.size_append, hs10]; omega
  have hc6 : ¬ 9223372036854775807 < ((sx ++ ⟨#[10]⟩) ++ od : ByteArray).size + 1 := by rw [ByteArray.size_append, ByteArray.size_append, hs10]; omega
  have hc7 : ¬ 9223372036854775807 < (((sx ++ ⟨#[10]⟩) ++ od) ++ ⟨#[10]⟩ : ByteArray).size + tx.size := by rw [ByteArray.size_append, ByteArray.size_append, ByteArray.size_append, hs10]; omega
  clear hA9
  refine start_ (n := 14) (S := fun w' => w'.cell? ⟨ap.block, ap.off + 23, none⟩ = some (.string od)) (ds := []) #[false, false, false, false, false, false, false, false, false, false, false, false, false, false] (by kernel_rfl) rfl rfl (hld) (fun hHeld => ?_)
  refine pure_ (i := 0) (N := some 51) (v := ?_) (a' := ?_) #[true, false, false, false, false, false, false, false, false, false, false, false, false, false] rfl rfl (by kernel_rfl) (fun _ _ _ h => h) (Or.inl ⟨by rfl, ?_⟩) ?_ ?_
  rotate_left
  · intro w'
    go_simp
    with_reducible rfl
  rotate_left
  · simp only [Act.put, List.setIfInBounds_toArray, List.set_cons_zero, List.set_cons_succ, i64_w, i32_w]
    rfl
  refine pure_ (i := 1) (N := some 52) (v := ?_) (a' := ?_) #[true, true, false, false, false, false, false, false, false, false, false, false, false, false] rfl rfl (by kernel_rfl) (fun _ _ _ h => h) (Or.inl ⟨by rfl, ?_⟩) ?_ ?_
  rotate_left
  · intro w'
    go_simp
    with_reducible rfl
  rotate_left
  · simp only [Act.put, List.setIfInBounds_toArray, List.set_cons_zero, List.set_cons_succ, i64_w, i32_w]
    rfl
  refine pure_ (i := 2) (N := some 53) (v := ?_) (a' := ?_) #[true, true, true, false, false, false, false, false, false, false, false, false, false, false] rfl rfl (by kernel_rfl) (fun _ _ _ h => h) (Or.inl ⟨by rfl, ?_⟩) ?_ ?_
  rotate_left
  · intro w'
    go_simp
    with_reducible rfl
  rotate_left
  · simp only [Act.put, List.setIfInBounds_toArray, List.set_cons_zero, List.set_cons_succ, i64_w, i32_w]
    rfl
  refine pure_ (i := 3) (N := some 54) (v := ?_) (a' := ?_) #[true, true, true, true, false, false, false, false, false, false, false, false, false, false] rfl rfl (by kernel_rfl) (fun _ _ _ h => h) (Or.inl ⟨by rfl, ?_⟩) ?_ ?_
  rotate_left
  · intro w'
    go_simp
    with_reducible rfl
  rotate_left
  · simp only [Act.put, List.setIfInBounds_toArray, List.set_cons_zero, List.set_cons_succ, i64_w, i32_w]
    rfl
  refine pure_ (i := 4) (N := some 55) (v := ?_) (a' := ?_) #[true, true, true, true, true, false, false, false, false, false, false, false, false, false] rfl rfl (by kernel_rfl) (fun _ _ _ h => h) (Or.inl ⟨by rfl, ?_⟩) ?_ ?_
  rotate_left
  · intro w'
    go_simp
    with_reducible rfl
  rotate_left
  · simp only [Act.put, List.setIfInBounds_toArray, List.set_cons_zero, List.set_cons_succ, i64_w, i32_w]
    rfl
  refine pure_ (i := 8) (N := some 59) (v := ?_) (a' := ?_) #[true, true, true, true, true, false, false, false, true, false, false, false, false, false] rfl rfl (by kernel_rfl) (fun _ _ _ h => h) (Or.inl ⟨by rfl, ?_⟩) ?_ ?_
  rotate_left
  · intro w'
    go_simp
    with_reducible rfl
  rotate_left
  · simp only [Act.put, List.setIfInBounds_toArray, List.set_cons_zero, List.set_cons_succ, i64_w, i32_w]
    rfl
  refine pure_ (i := 9) (N := some 60) (v := ?_) (a' := ?_) #[true, true, true, true, true, false, false, false, true, true, false, false, false, false] rfl rfl (by kernel_rfl) (fun _ _ _ h => h) (Or.inl ⟨by rfl, ?_⟩) ?_ ?_
  rotate_left
  · intro w'
    go_simp
    with_reducible rfl
  rotate_left
  · simp only [Act.put, List.setIfInBounds_toArray, List.set_cons_zero, List.set_cons_succ, i64_w, i32_w]
    rfl
  refine pure_ (i := 10) (N := some 61) (v := ?_) (a' := ?_) #[true, true, true, true, true, false, false, false, true, true, true, false, false, false] rfl rfl (by kernel_rfl) (fun _ _ _ h => h) (Or.inl ⟨by rfl, ?_⟩) ?_ ?_
  rotate_left
  · intro w'
    go_simp
    with_reducible rfl
  rotate_left
  · simp only [Act.put, List.setIfInBounds_toArray, List.set_cons_zero, List.set_cons_succ, i64_w, i32_w]
    rfl
  refine take_ (i := 5) (N := some 56) (v := ?_) (a' := ?_) #[true, true, true, true, true, true, false, false, true, true, true, false, false, false] rfl rfl (by kernel_rfl) (fun _ _ _ h => h) (Or.inl ⟨by rfl, ?_⟩) hHeld ?_ ?_
  rotate_left
  · intro w' s0
    go_simp
    with_reducible rfl
  rotate_left
  · simp only [Act.put, List.setIfInBounds_toArray, List.set_cons_zero, List.set_cons_succ, i64_w, i32_w]
    rfl
  refine pure_ (i := 6) (N := some 57) (v := ?_) (a' := ?_) #[true, true, true, true, true, true, true, false, true, true, true, false, false, false] rfl rfl (by kernel_rfl) (fun _ _ _ h => h) (Or.inl ⟨by rfl, ?_⟩) ?_ ?_
  rotate_left
  · intro w'
    go_simp
    with_reducible rfl
  rotate_left
  · simp only [Act.put, List.setIfInBounds_toArray, List.set_cons_zero, List.set_cons_succ, i64_w, i32_w]
    rfl
  refine pure_ (i := 7) (N := some 58) (v := ?_) (a' := ?_) #[true, true, true, true, true, true, true, true, true, true, true, false, false, false] rfl rfl (by kernel_rfl) (fun _ _ _ h => h) (Or.inl ⟨by rfl, ?_⟩) ?_ ?_
  rotate_left
  · intro w'
    go_simp
    with_reducible rfl
  rotate_left
  · simp only [Act.put, List.setIfInBounds_toArray, List.set_cons_zero, List.set_cons_succ, i64_w, i32_w]
    rfl
  refine one_ (i := 11) (N := some 62) #[true, true, true, true, true, true, true, true, true, true, true, true, false, false] rfl rfl (by kernel_rfl) (by decide) (fun K hK => ?_)
  refine goes_ Tryd.func11 (by kernel_rfl) rfl #[.slice A9 (ws.length - k) (co - k)] (by rfl) rfl rfl (by simp only [List.map_toArray, List.map_cons, List.map_nil]; rfl) ?_
  with_reducible refine (join_n (ws.drop k) (ws.length - k) HDK.out A9 (co - k) tx _ (by repeat (first | exact HX.out | (with_reducible refine Kd.C_alloc ?_ _) | (with_reducible refine Kd.C_drewN ?_ _) | (with_reducible refine Kd.C_drew ?_))) hk2 HJ2.out).mono ?_
  rintro e W3 ⟨rfl, hb⟩
  refine ⟨_, rfl, ?_⟩
  (have m0_ := Aside0.mk (Kd.R_below (by (with_reducible repeat (first | apply Kd.R_alloc | apply Kd.R_drewN | apply Kd.R_drew)); exact HR.out) hb); have m1_ := Aside0.mk (Kd.R_below (by (with_reducible repeat (first | apply Kd.R_alloc | apply Kd.R_drewN | apply Kd.R_drew)); exact HP.out) hb); have m2_ := Aside0.mk (Kd.R_below (by (with_reducible repeat (first | apply Kd.R_alloc | apply Kd.R_drewN | apply Kd.R_drew)); exact HQ.out) hb); have n1_ := Aside0.mk (below_step (by repeat (first | exact HB.out | apply below_alloc | apply pw_below_drewN | apply below_drew1)) hb); clear HR HP HQ HB hb; have HR := m0_; have HP := m1_; have HQ := m2_; have HB := n1_; clear m0_ m1_ m2_ n1_)
  refine hK.out _ _ ((by obtain ⟨ap2, e2, h2⟩ := Kd.at_string (Kd.R_reads' HP.out).2.2 (23 : Int) (by omega) (by show (23 : Int) < (28 : Nat); omega); cases e2; rw [HOD.out] at h2; exact h2)) (fun hHeld => ?_)
  clear hK K
  refine norm_ (a' := ?_) ?_ ?_
  rotate_left
  · show Act.put _ (some 62) _ = _
    simp only [Act.put, List.setIfInBounds_toArray, List.set_cons_zero, List.set_cons_succ, i64_w, i32_w]
    rfl
  refine pure_ (i := 12) (N := some 63) (v := ?_) (a' := ?_) #[true, true, true, true, true, true, true, true, true, true, true, true, true, false] rfl rfl (by kernel_rfl) (fun _ _ _ h => h) (Or.inl ⟨by rfl, ?_⟩) ?_ ?_
  rotate_left
  · intro w'
    go_simp
    with_reducible rfl
  rotate_left
  · simp only [Act.put, List.setIfInBounds_toArray, List.set_cons_zero, List.set_cons_succ, i64_w, i32_w]
    rfl
  refine pure_ (i := 13) (N := some 14) (v := ?_) (a' := ?_) #[true, true, true, true, true, true, true, true, true, true, true, true, true, true] rfl rfl (by kernel_rfl) (fun _ _ _ h => h) (Or.inl ⟨by rfl, ?_⟩) ?_ ?_
  rotate_left
  · intro w'
    go_simp
    with_reducible rfl
  rotate_left
  · simp only [Act.put, List.setIfInBounds_toArray, List.set_cons_zero, List.set_cons_succ, i64_w, i32_w]
    rfl
  refine done_ (by kernel_rfl) ?_
  have hTT := HT.out
  obtain ⟨aq, eaq, hqd⟩ := Kd.at_int (Kd.R_reads' HQ.out).2.2 (1 : Int) (by decide) (by decide)
  subst eaq
  clear hqd
  clear hc1 hc2 hc3 hc4 hc5 hc6 hc7 hcut hld HX
  go_wp2_with (first | (go_at_call 8; (with_reducible refine (lex_Words.calls T [] ((sx.size : Int) + 1) 9 _ HW.out ?sideg).mono ?_); (case sideg => exact GV.below HG.out (by repeat (first | exact HB.out | apply below_alloc | apply pw_below_drewN | apply below_drew1))); rintro e w79 ⟨v39, rfl, ho, hb⟩; obtain ⟨Ax, cx, eo⟩ := Kd.R_slice ho; subst eo; clear ho; have m0_ := Aside0.mk (Kd.R_below (by (with_reducible repeat (first | apply Kd.R_alloc | apply Kd.R_drewN | apply Kd.R_drew)); exact HQ.out) hb); have n1_ := Aside0.mk (below_step (by repeat (first | exact HB.out | apply below_alloc | apply pw_below_drewN | apply below_drew1)) hb); obtain ⟨aq2, eaq2, hqd2⟩ := Kd.at_int (Kd.R_reads' m0_.out).2.2 (1 : Int) (by decide) (by decide); cases eaq2; replace hqd2 : World.cell? w79 ⟨aq.block, aq.off + 1, none⟩ = some (Value.int .i64 9) := hqd2; clear HQ HB hb; have HQ := m0_; have HB := n1_; clear m0_ n1_) | (go_at_call 9; (with_reducible refine (works_true _ (GV.below HG.out (by repeat (first | exact HB.out | apply below_alloc | apply pw_below_drewN | apply below_drew1)))).mono ?_); rintro e w99 ⟨rfl, hb⟩; have n1_ := Aside0.mk (below_step (by repeat (first | exact HB.out | apply below_alloc | apply pw_below_drewN | apply below_drew1)) hb); clear HB hb; have HB := n1_; clear n1_))
  go_ret
  exact ⟨rfl, HB.out⟩
set_option maxRecDepth 100000 in
set_option maxHeartbeats 6400000 in
theorem LexOdd_E24 (l : List S56) (A0 : Option Addr) (c0 : Nat) (at_ wh : Int) (w : World) (m : Nat) (hm2 : (if (40 : Int) < (l.length : Int) then (40 : Int) else (l.length : Int)) = (m : Int)) (hml : m ≤ l.length) (hlm : (l.take m).length = m) (hr0 : Kd.C k56 w A0 m (l.take m)) (hc0 : m ≤ c0) (hg : GV w) (K : Nat)
    (ws : List S28) (hws : ws.length ≤ 60) (hrow : signetrylaw03_row.f K (l.take m) = some ws) (k : Nat) (hk : k ≤ ws.length)  (hb1 : signetryref00_Bring.f at_ ((ws.length : Int) + 1) = some (k : Int)) (hb2 : signetryref00_Bring.f wh 28 = some 24)
    (sx tx od T : ByteArray) (hj1 : lex_Join.f (ws.take k) = some sx) (hj2 : lex_Join.f (ws.drop k) = some tx) (hod : rdOf ByteArray.empty oddL 24 = od) (hT : (((sx ++ ⟨#[10]⟩) ++ od) ++ ⟨#[10]⟩) ++ tx = T) (hsx : sx.size ≤ 20000) (htx : tx.size ≤ 20000) (hos : od.size ≤ 100)
    (hw : lex_Words.f T = some ([], (sx.size : Int) + 1, 9)) :
    Calls Tryd.prog 7 #[.slice A0 l.length c0, .int .i64 at_, .int .i64 wh] w fun e w' => e = .returned (.bool true) ∧ Below w.heap.size w w' := by
  have HR0 := Aside0.mk hr0
  have HC0 := Aside0.mk hc0
  have HLM := Aside0.mk hlm
  have HG := Aside0.mk hg
  have HB := Aside0.mk (Below.refl w.heap.size w)
  have HROW := Aside0.mk hrow
  have HB1 := Aside0.mk hb1
  have HB2 := Aside0.mk hb2
  have HJ1 := Aside0.mk hj1
  have HJ2 := Aside0.mk hj2
  have HOD := Aside0.mk hod
  have HT := Aside0.mk hT
  have HW := Aside0.mk hw
  have HTK : Aside0 ((ws.take k).length = k) := ⟨by rw [List.length_take]; omega⟩
  have HDK : Aside0 ((ws.drop k).length = ws.length - k) := ⟨List.length_drop⟩
  have hm0 : (0 : Int) ≤ (m : Int) := by omega
  have hm1 : (m : Int) ≤ (c0 : Int) := by omega
  have hm3 : (m : Int) ≤ (l.length : Int) := by omega
  have d1 : (0 : Int) ≤ (k : Int) := by omega
  have d2 : (k : Int) ≤ (ws.length : Int) := by omega
  clear hr0 hc0 hg hrow hb1 hb2 hj1 hj2 hod hT hw hlm
  go_enter Tryd.func7, Tryd.ntmps7
  go_upto_region 12 with (first | (go_at_call 14; (with_reducible refine (row_n K A0 c0 (l.take m) m HLM.out ws _ ?side1 ?side2 HROW.out).mono ?_); (case side1 => exact Kd.C_below HR0.out (by repeat (first | exact HB.out | apply below_alloc | apply pw_below_drewN | apply below_drew1))); (case side2 => exact HC0.out); rintro e w19 ⟨v19, rfl, ho, hb⟩; obtain ⟨Ao, co, eo⟩ := Kd.R_slice ho; subst eo; have hco := (Kd.R_reads' ho).2.1; have d4 : (k : Int) ≤ (co : Int) := (by omega); have hk1 : k ≤ co := (by omega); have n0_ := Aside0.mk (Kd.R_lower ho (below_size (by repeat (first | exact HB.out | apply below_alloc | apply pw_below_drewN | apply below_drew1)))); have n1_ := Aside0.mk (below_step (by repeat (first | exact HB.out | apply below_alloc | apply pw_below_drewN | apply below_drew1)) hb); clear HB ho hb; have HB := n1_; have HR := n0_; clear n1_ n0_) | ((with_reducible refine gate_dst (N := 29) rfl ?_); refine Kd.R_lit Kd.string _ 9 ?hg (N := 29) ?hd (xs := oddL) (inner := [.string (⟨#[35]⟩ : ByteArray), .string (⟨#[47]⟩ : ByteArray), .string (⟨#[42]⟩ : ByteArray), .string (⟨#[43]⟩ : ByteArray), .string (⟨#[63]⟩ : ByteArray), .string (⟨#[64]⟩ : ByteArray), .string (⟨#[36]⟩ : ByteArray), .string (⟨#[92]⟩ : ByteArray), .string (⟨#[0]⟩ : ByteArray), .string (⟨#[127]⟩ : ByteArray), .string (⟨#[255]⟩ : ByteArray), .string (⟨#[58]⟩ : ByteArray), .string (⟨#[33]⟩ : ByteArray), .string (⟨#[37]⟩ : ByteArray), .string (⟨#[38]⟩ : ByteArray), .string (⟨#[124]⟩ : ByteArray), .string (⟨#[94]⟩ : ByteArray), .string (⟨#[126]⟩ : ByteArray), .string (⟨#[48, 57]⟩ : ByteArray), .string (⟨#[48, 120]⟩ : ByteArray), .string (⟨#[48, 120, 103]⟩ : ByteArray), .string (⟨#[55, 97]⟩ : ByteArray), .string (⟨#[97, 98, 99, 100, 101, 102, 103, 104, 105, 106, 107, 108, 109, 110, 111, 112, 113, 114, 115, 116, 117, 118, 119, 120, 121, 122, 97, 98, 99, 100, 101, 102, 103]⟩ : ByteArray), .string (⟨#[50, 49, 52, 55, 52, 56, 51, 54, 52, 57]⟩ : ByteArray), .string (⟨#[48, 50, 48, 48, 48, 48, 48, 48, 48, 48, 48, 49]⟩ : ByteArray), .string (⟨#[39, 97]⟩ : ByteArray), .string (⟨#[34, 92, 113, 34]⟩ : ByteArray), .string (⟨#[47, 42, 32, 97]⟩ : ByteArray)]) (ok := fun _ => True) (okp := fun _ => True) ?hr ?hp (fun _ hk => hk) trivial (Below.refl _ _) (Nat.le_refl _) (by simp [oddL]) ?_; (case hd => rfl); (case hg => rfl); (case hr => first | (go_simp; done) | (go_simp; rfl)); (case hp => exact (Reps.one (show Kd.M Kd.string _ _ _ (⟨#[35]⟩ : ByteArray) [.string (⟨#[35]⟩ : ByteArray)] from rfl) (Reps.one (show Kd.M Kd.string _ _ _ (⟨#[47]⟩ : ByteArray) [.string (⟨#[47]⟩ : ByteArray)] from rfl) (Reps.one (show Kd.M Kd.string _ _ _ (⟨#[42]⟩ : ByteArray) [.string (⟨#[42]⟩ : ByteArray)] from rfl) (Reps.one (show Kd.M Kd.string _ _ _ (⟨#[43]⟩ : ByteArray) [.string (⟨#[43]⟩ : ByteArray)] from rfl) (Reps.one (show Kd.M Kd.string _ _ _ (⟨#[63]⟩ : ByteArray) [.string (⟨#[63]⟩ : ByteArray)] from rfl) (Reps.one (show Kd.M Kd.string _ _ _ (⟨#[64]⟩ : ByteArray) [.string (⟨#[64]⟩ : ByteArray)] from rfl) (Reps.one (show Kd.M Kd.string _ _ _ (⟨#[36]⟩ : ByteArray) [.string (⟨#[36]⟩ : ByteArray)] from rfl) (Reps.one (show Kd.M Kd.string _ _ _ (⟨#[92]⟩ : ByteArray) [.string (⟨#[92]⟩ : ByteArray)] from rfl) (Reps.one (show Kd.M Kd.string _ _ _ (⟨#[0]⟩ : ByteArray) [.string (⟨#[0]⟩ : ByteArray)] from rfl) (Reps.one (show Kd.M Kd.string _ _ _ (⟨#[127]⟩ : ByteArray) [.string (⟨#[127]⟩ : ByteArray)] from rfl) (Reps.one (show Kd.M Kd.string _ _ _ (⟨#[255]⟩ : ByteArray) [.string (⟨#[255]⟩ : ByteArray)] from rfl) (Reps.one (show Kd.M Kd.string _ _ _ (⟨#[58]⟩ : ByteArray) [.string (⟨#[58]⟩ : ByteArray)] from rfl) (Reps.one (show Kd.M Kd.string _ _ _ (⟨#[33]⟩ : ByteArray) [.string (⟨#[33]⟩ : ByteArray)] from rfl) (Reps.one (show Kd.M Kd.string _ _ _ (⟨#[37]⟩ : ByteArray) [.string (⟨#[37]⟩ : ByteArray)] from rfl) (Reps.one (show Kd.M Kd.string _ _ _ (⟨#[38]⟩ : ByteArray) [.string (⟨#[38]⟩ : ByteArray)] from rfl) (Reps.one (show Kd.M Kd.string _ _ _ (⟨#[124]⟩ : ByteArray) [.string (⟨#[124]⟩ : ByteArray)] from rfl) (Reps.one (show Kd.M Kd.string _ _ _ (⟨#[94]⟩ : ByteArray) [.string (⟨#[94]⟩ : ByteArray)] from rfl) (Reps.one (show Kd.M Kd.string _ _ _ (⟨#[126]⟩ : ByteArray) [.string (⟨#[126]⟩ : ByteArray)] from rfl) (Reps.one (show Kd.M Kd.string _ _ _ (⟨#[48, 57]⟩ : ByteArray) [.string (⟨#[48, 57]⟩ : ByteArray)] from rfl) (Reps.one (show Kd.M Kd.string _ _ _ (⟨#[48, 120]⟩ : ByteArray) [.string (⟨#[48, 120]⟩ : ByteArray)] from rfl) (Reps.one (show Kd.M Kd.string _ _ _ (⟨#[48, 120, 103]⟩ : ByteArray) [.string (⟨#[48, 120, 103]⟩ : ByteArray)] from rfl) (Reps.one (show Kd.M Kd.string _ _ _ (⟨#[55, 97]⟩ : ByteArray) [.string (⟨#[55, 97]⟩ : ByteArray)] from rfl) (Reps.one (show Kd.M Kd.string _ _ _ (⟨#[97, 98, 99, 100, 101, 102, 103, 104, 105, 106, 107, 108, 109, 110, 111, 112, 113, 114, 115, 116, 117, 118, 119, 120, 121, 122, 97, 98, 99, 100, 101, 102, 103]⟩ : ByteArray) [.string (⟨#[97, 98, 99, 100, 101, 102, 103, 104, 105, 106, 107, 108, 109, 110, 111, 112, 113, 114, 115, 116, 117, 118, 119, 120, 121, 122, 97, 98, 99, 100, 101, 102, 103]⟩ : ByteArray)] from rfl) (Reps.one (show Kd.M Kd.string _ _ _ (⟨#[50, 49, 52, 55, 52, 56, 51, 54, 52, 57]⟩ : ByteArray) [.string (⟨#[50, 49, 52, 55, 52, 56, 51, 54, 52, 57]⟩ : ByteArray)] from rfl) (Reps.one (show Kd.M Kd.string _ _ _ (⟨#[48, 50, 48, 48, 48, 48, 48, 48, 48, 48, 48, 49]⟩ : ByteArray) [.string (⟨#[48, 50, 48, 48, 48, 48, 48, 48, 48, 48, 48, 49]⟩ : ByteArray)] from rfl) (Reps.one (show Kd.M Kd.string _ _ _ (⟨#[39, 97]⟩ : ByteArray) [.string (⟨#[39, 97]⟩ : ByteArray)] from rfl) (Reps.one (show Kd.M Kd.string _ _ _ (⟨#[34, 92, 113, 34]⟩ : ByteArray) [.string (⟨#[34, 92, 113, 34]⟩ : ByteArray)] from rfl) (Reps.one (show Kd.M Kd.string _ _ _ (⟨#[47, 42, 32, 97]⟩ : ByteArray) [.string (⟨#[47, 42, 32, 97]⟩ : ByteArray)] from rfl) (Reps.none _ _)))))))))))))))))))))))))))))); intro v29 w29 ho hb hg_ hnew_; clear hg_ hnew_; obtain ⟨Ap, cAp, ep⟩ := Kd.R_slice ho; rw [show oddL.length = 28 from rfl] at ep; subst ep; have n3_ := Aside0.mk (Kd.R_lower ho (below_size (by repeat (first | exact HB.out | apply below_alloc | apply pw_below_drewN | apply below_drew1)))); clear ho; have m0_ := Aside0.mk (Kd.R_below (by (with_reducible repeat (first | apply Kd.R_alloc | apply Kd.R_drewN | apply Kd.R_drew)); exact HR.out) hb); have n1_ := Aside0.mk (below_step (by repeat (first | exact HB.out | apply below_alloc | apply pw_below_drewN | apply below_drew1)) hb); clear HR HB hb; have HR := m0_; have HB := n1_; clear m0_ n1_; have HP := n3_; clear n3_) | ((with_reducible refine gate_dst (N := 30) rfl ?_); refine Kd.R_lit (Kd.int .i64) _ 23 ?hg (N := 30) ?hd (xs := wantL) (inner := [.int .i64 30, .int .i64 9, .int .i64 21]) (ok := fun _ => True) (okp := fun _ => True) ?hr ?hp (fun _ hk => hk) trivial (Below.refl _ _) (Nat.le_refl _) (by simp [wantL]) ?_; (case hd => rfl); (case hg => rfl); (case hr => first | (go_simp; done) | (go_simp; rfl)); (case hp => exact (Reps.one (show Kd.M (Kd.int .i64) _ _ _ (30 : Int) [.int .i64 30] from rfl) (Reps.one (show Kd.M (Kd.int .i64) _ _ _ (9 : Int) [.int .i64 9] from rfl) (Reps.one (show Kd.M (Kd.int .i64) _ _ _ (21 : Int) [.int .i64 21] from rfl) (Reps.none _ _))))); intro v29 w29 ho hb hg_ hnew_; clear hg_ hnew_; obtain ⟨Aq, cAq, ep⟩ := Kd.R_slice ho; rw [show wantL.length = 3 from rfl] at ep; subst ep; have n3_ := Aside0.mk (Kd.R_lower ho (below_size (by repeat (first | exact HB.out | apply below_alloc | apply pw_below_drewN | apply below_drew1)))); clear ho; have m0_ := Aside0.mk (Kd.R_below (by (with_reducible repeat (first | apply Kd.R_alloc | apply Kd.R_drewN | apply Kd.R_drew)); exact HR.out) hb); have m1_ := Aside0.mk (Kd.R_below (by (with_reducible repeat (first | apply Kd.R_alloc | apply Kd.R_drewN | apply Kd.R_drew)); exact HP.out) hb); have n1_ := Aside0.mk (below_step (by repeat (first | exact HB.out | apply below_alloc | apply pw_below_drewN | apply below_drew1)) hb); clear HR HP HB hb; have HR := m0_; have HP := m1_; have HB := n1_; clear m0_ m1_ n1_; have HQ := n3_; clear n3_) | (go_at_call_of 10 (Value.int .i64 at_); (with_reducible refine (signetryref00_Bring.calls at_ ((ws.length : Int) + 1) (k : Int) _ HB1.out).mono ?_); rintro e w59 ⟨rfl, ⟨nd, rfl⟩⟩) | (go_at_call_of 10 (Value.int .i64 wh); (with_reducible refine (signetryref00_Bring.calls wh 28 (24 : Int) _ HB2.out).mono ?_); rintro e w69 ⟨rfl, ⟨nd2, rfl⟩⟩) | (go_at_call 11; refine (join_n (ws.take k) k HTK.out _ _ sx _ ?side1 ?side2 HJ1.out).mono ?_; (case side1 => exact take_c (by repeat (first | exact (Kd.R_reads' HR.out).2.2 | (with_reducible refine Kd.C_alloc ?_ _) | (with_reducible refine Kd.C_drewN ?_ _) | (with_reducible refine Kd.C_drew ?_))) hk); (case side2 => exact hk1); rintro e w49 ⟨rfl, hb⟩; have m0_ := Aside0.mk (Kd.R_below (by (with_reducible repeat (first | apply Kd.R_alloc | apply Kd.R_drewN | apply Kd.R_drew)); exact HR.out) hb); have m1_ := Aside0.mk (Kd.R_below (by (with_reducible repeat (first | apply Kd.R_alloc | apply Kd.R_drewN | apply Kd.R_drew)); exact HP.out) hb); have m2_ := Aside0.mk (Kd.R_below (by (with_reducible repeat (first | apply Kd.R_alloc | apply Kd.R_drewN | apply Kd.R_drew)); exact HQ.out) hb); have n1_ := Aside0.mk (below_step (by repeat (first | exact HB.out | apply below_alloc | apply pw_below_drewN | apply below_drew1)) hb); clear HR HP HQ HB hb; have HR := m0_; have HP := m1_; have HQ := m2_; have HB := n1_; clear m0_ m1_ m2_ n1_))
  obtain ⟨ap, eap, hld⟩ := Kd.at_string (Kd.R_reads' HP.out).2.2 (24 : Int) (by omega) (by show (24 : Int) < (28 : Nat); omega)
  subst eap
  rw [HOD.out] at hld
  replace hld : World.cell? _ ⟨ap.block, ap.off + 24, none⟩ = some (.string od) := hld
  obtain ⟨A9, hA9⟩ : ∃ A9, A9 = (if co = k then Ao else Ao.map (·.add (k * 4))) := ⟨_, rfl⟩
  have HX : Aside0 (Kd.C k28 _ A9 (ws.length - k) (ws.drop k)) := ⟨by rw [hA9]; exact drop_c (Kd.R_reads' HR.out).2.2 hk hco⟩
  have hcut := words_from Ao ws.length co k hk hco A9 hA9
  have hk2 : ws.length - k ≤ co - k := by omega
  have hc1 : ¬ 9223372036854775807 < sx.size + 1 := by omega
  have hc2 : ¬ 9223372036854775807 < sx.size + 1 + od.size := by omega
  have hc3 : ¬ 9223372036854775807 < sx.size + 1 + od.size + 1 := by omega
  have hc4 : ¬ 9223372036854775807 < sx.size + 1 + od.size + 1 + tx.size := by omega
  have hs10 : (⟨#[10]⟩ : ByteArray).size = 1 := rfl
  have hc5 : ¬ 9223372036854775807 < (sx ++ ⟨#[10]⟩ : ByteArray).size + od.size := by rw [ByteArray.size_append, hs10]; omega
  have hc6 : ¬ 9223372036854775807 < ((sx ++ ⟨#[10]⟩) ++ od : ByteArray).size + 1 := by rw [ByteArray.size_append, ByteArray.size_append, hs10]; omega
  have hc7 : ¬ 9223372036854775807 < (((sx ++ ⟨#[10]⟩) ++ od) ++ ⟨#[10]⟩ : ByteArray).size + tx.size := by rw [ByteArray.size_append, ByteArray.size_append, ByteArray.size_append, hs10]; omega
  clear hA9
  refine start_ (n := 14) (S := fun w' => w'.cell? ⟨ap.block, ap.off + 24, none⟩ = some (.string od)) (ds := []) #[false, false, false, false, false, false, false, false, false, false, false, false, false, false] (by kernel_rfl) rfl rfl (hld) (fun hHeld => ?_)
  refine pure_ (i := 0) (N := some 51) (v := ?_) (a' := ?_) #[true, false, false, false, false, false, false, false, false, false, false, false, false, false] rfl rfl (by kernel_rfl) (fun _ _ _ h => h) (Or.inl ⟨by rfl, ?_⟩) ?_ ?_
  rotate_left
  · intro w'
    go_simp
    with_reducible rfl
  rotate_left
  · simp only [Act.put, List.setIfInBounds_toArray, List.set_cons_zero, List.set_cons_succ, i64_w, i32_w]
    rfl
  refine pure_ (i := 1) (N := some 52) (v := ?_) (a' := ?_) #[true, true, false, false, false, false, false, false, false, false, false, false, false, false] rfl rfl (by kernel_rfl) (fun _ _ _ h => h) (Or.inl ⟨by rfl, ?_⟩) ?_ ?_
  rotate_left
  · intro w'
    go_simp
    with_reducible rfl
  rotate_left
  · simp only [Act.put, List.setIfInBounds_toArray, List.set_cons_zero, List.set_cons_succ, i64_w, i32_w]
    rfl
  refine pure_ (i := 2) (N := some 53) (v := ?_) (a' := ?_) #[true, true, true, false, false, false, false, false, false, false, false, false, false, false] rfl rfl (by kernel_rfl) (fun _ _ _ h => h) (Or.inl ⟨by rfl, ?_⟩) ?_ ?_
  rotate_left
  · intro w'
    go_simp
    with_reducible rfl
  rotate_left
  · simp only [Act.put, List.setIfInBounds_toArray, List.set_cons_zero, List.set_cons_succ, i64_w, i32_w]
    rfl
  refine pure_ (i := 3) (N := some 54) (v := ?_) (a' := ?_) #[true, true, true, true, false, false, false, false, false, false, false, false, false, false] rfl rfl (by kernel_rfl) (fun _ _ _ h => h) (Or.inl ⟨by rfl, ?_⟩) ?_ ?_
  rotate_left
  · intro w'
    go_simp
    with_reducible rfl
  rotate_left
  · simp only [Act.put, List.setIfInBounds_toArray, List.set_cons_zero, List.set_cons_succ, i64_w, i32_w]
    rfl
  refine pure_ (i := 4) (N := some 55) (v := ?_) (a' := ?_) #[true, true, true, true, true, false, false, false, false, false, false, false, false, false] rfl rfl (by kernel_rfl) (fun _ _ _ h => h) (Or.inl ⟨by rfl, ?_⟩) ?_ ?_
  rotate_left
  · intro w'
    go_simp
    with_reducible rfl
  rotate_left
  · simp only [Act.put, List.setIfInBounds_toArray, List.set_cons_zero, List.set_cons_succ, i64_w, i32_w]
    rfl
  refine pure_ (i := 8) (N := some 59) (v := ?_) (a' := ?_) #[true, true, true, true, true, false, false, false, true, false, false, false, false, false] rfl rfl (by kernel_rfl) (fun _ _ _ h => h) (Or.inl ⟨by rfl, ?_⟩) ?_ ?_
  rotate_left
  · intro w'
    go_simp
    with_reducible rfl
  rotate_left
  · simp only [Act.put, List.setIfInBounds_toArray, List.set_cons_zero, List.set_cons_succ, i64_w, i32_w]
    rfl
  refine pure_ (i := 9) (N := some 60) (v := ?_) (a' := ?_) #[true, true, true, true, true, false, false, false, true, true, false, false, false, false] rfl rfl (by kernel_rfl) (fun _ _ _ h => h) (Or.inl ⟨by rfl, ?_⟩) ?_ ?_
  rotate_left
  · intro w'
    go_simp
    with_reducible rfl
  rotate_left
  · simp only [Act.put, List.setIfInBounds_toArray, List.set_cons_zero, List.set_cons_succ, i64_w, i32_w]
    rfl
  refine pure_ (i := 10) (N := some 61) (v := ?_) (a' := ?_) #[true, true, true, true, true, false, false, false, true, true, true, false, false, false] rfl rfl (by kernel_rfl) (fun _ _ _ h => h) (Or.inl ⟨by rfl, ?_⟩) ?_ ?_
  rotate_left
  · intro w'
    go_simp
    with_reducible rfl
  rotate_left
  · simp only [Act.put, List.setIfInBounds_toArray, List.set_cons_zero, List.set_cons_succ, i64_w, i32_w]
    rfl
  refine take_ (i := 5) (N := some 56) (v := ?_) (a' := ?_) #[true, true, true, true, true, true, false, false, true, true, true, false, false, false] rfl rfl (by kernel_rfl) (fun _ _ _ h => h) (Or.inl ⟨by rfl, ?_⟩) hHeld ?_ ?_
  rotate_left
  · intro w' s0
    go_simp
    with_reducible rfl
  rotate_left
  · simp only [Act.put, List.setIfInBounds_toArray, List.set_cons_zero, List.set_cons_succ, i64_w, i32_w]
    rfl
  refine pure_ (i := 6) (N := some 57) (v := ?_) (a' := ?_) #[true, true, true, true, true, true, true, false, true, true, true, false, false, false] rfl rfl (by kernel_rfl) (fun _ _ _ h => h) (Or.inl ⟨by rfl, ?_⟩) ?_ ?_
  rotate_left
  · intro w'
    go_simp
    with_reducible rfl
  rotate_left
  · simp only [Act.put, List.setIfInBounds_toArray, List.set_cons_zero, List.set_cons_succ, i64_w, i32_w]
    rfl
  refine pure_ (i := 7) (N := some 58) (v := ?_) (a' := ?_) #[true, true, true, true, true, true, true, true, true, true, true, false, false, false] rfl rfl (by kernel_rfl) (fun _ _ _ h => h) (Or.inl ⟨by rfl, ?_⟩) ?_ ?_
  rotate_left
  · intro w'
    go_simp
    with_reducible rfl
  rotate_left
  · simp only [Act.put, List.setIfInBounds_toArray, List.set_cons_zero, List.set_cons_succ, i64_w, i32_w]
    rfl
  refine one_ (i := 11) (N := some 62) #[true, true, true, true, true, true, true, true, true, true, true, true, false, false] rfl rfl (by kernel_rfl) (by decide) (fun K hK => ?_)
  refine goes_ Tryd.func11 (by kernel_rfl) rfl #[.slice A9 (ws.length - k) (co - k)] (by rfl) rfl rfl (by simp only [List.map_toArray, List.map_cons, List.map_nil]; rfl) ?_
  with_reducible refine (join_n (ws.drop k) (ws.length - k) HDK.out A9 (co - k) tx _ (by repeat (first | exact HX.out | (with_reducible refine Kd.C_alloc ?_ _) | (with_reducible refine Kd.C_drewN ?_ _) | (with_reducible refine Kd.C_drew ?_))) hk2 HJ2.out).mono ?_
  rintro e W3 ⟨rfl, hb⟩
  refine ⟨_, rfl, ?_⟩
  (have m0_ := Aside0.mk (Kd.R_below (by (with_reducible repeat (first | apply Kd.R_alloc | apply Kd.R_drewN | apply Kd.R_drew)); exact HR.out) hb); have m1_ := Aside0.mk (Kd.R_below (by (with_reducible repeat (first | apply Kd.R_alloc | apply Kd.R_drewN | apply Kd.R_drew)); exact HP.out) hb); have m2_ := Aside0.mk (Kd.R_below (by (with_reducible repeat (first | apply Kd.R_alloc | apply Kd.R_drewN | apply Kd.R_drew)); exact HQ.out) hb); have n1_ := Aside0.mk (below_step (by repeat (first | exact HB.out | apply below_alloc | apply pw_below_drewN | apply below_drew1)) hb); clear HR HP HQ HB hb; have HR := m0_; have HP := m1_; have HQ := m2_; have HB := n1_; clear m0_ m1_ m2_ n1_)
  refine hK.out _ _ ((by obtain ⟨ap2, e2, h2⟩ := Kd.at_string (Kd.R_reads' HP.out).2.2 (24 : Int) (by omega) (by show (24 : Int) < (28 : Nat); omega); cases e2; rw [HOD.out] at h2; exact h2)) (fun hHeld => ?_)
  clear hK K
  refine norm_ (a' := ?_) ?_ ?_
  rotate_left
  · show Act.put _ (some 62) _ = _
    simp only [Act.put, List.setIfInBounds_toArray, List.set_cons_zero, List.set_cons_succ, i64_w, i32_w]
    rfl
  refine pure_ (i := 12) (N := some 63) (v := ?_) (a' := ?_) #[true, true, true, true, true, true, true, true, true, true, true, true, true, false] rfl rfl (by kernel_rfl) (fun _ _ _ h => h) (Or.inl ⟨by rfl, ?_⟩) ?_ ?_
  rotate_left
  · intro w'
    go_simp
    with_reducible rfl
  rotate_left
  · simp only [Act.put, List.setIfInBounds_toArray, List.set_cons_zero, List.set_cons_succ, i64_w, i32_w]
    rfl
  refine pure_ (i := 13) (N := some 14) (v := ?_) (a' := ?_) #[true, true, true, true, true, true, true, true, true, true, true, true, true, true] rfl rfl (by kernel_rfl) (fun _ _ _ h => h) (Or.inl ⟨by rfl, ?_⟩) ?_ ?_
  rotate_left
  · intro w'
    go_simp
    with_reducible rfl
  rotate_left
  · simp only [Act.put, List.setIfInBounds_toArray, List.set_cons_zero, List.set_cons_succ, i64_w, i32_w]
    rfl
  refine done_ (by kernel_rfl) ?_
  have hTT := HT.out
  obtain ⟨aq, eaq, hqd⟩ := Kd.at_int (Kd.R_reads' HQ.out).2.2 (1 : Int) (by decide) (by decide)
  subst eaq
  clear hqd
  clear hc1 hc2 hc3 hc4 hc5 hc6 hc7 hcut hld HX
  go_wp2_with (first | (go_at_call 8; (with_reducible refine (lex_Words.calls T [] ((sx.size : Int) + 1) 9 _ HW.out ?sideg).mono ?_); (case sideg => exact GV.below HG.out (by repeat (first | exact HB.out | apply below_alloc | apply pw_below_drewN | apply below_drew1))); rintro e w79 ⟨v39, rfl, ho, hb⟩; obtain ⟨Ax, cx, eo⟩ := Kd.R_slice ho; subst eo; clear ho; have m0_ := Aside0.mk (Kd.R_below (by (with_reducible repeat (first | apply Kd.R_alloc | apply Kd.R_drewN | apply Kd.R_drew)); exact HQ.out) hb); have n1_ := Aside0.mk (below_step (by repeat (first | exact HB.out | apply below_alloc | apply pw_below_drewN | apply below_drew1)) hb); obtain ⟨aq2, eaq2, hqd2⟩ := Kd.at_int (Kd.R_reads' m0_.out).2.2 (1 : Int) (by decide) (by decide); cases eaq2; replace hqd2 : World.cell? w79 ⟨aq.block, aq.off + 1, none⟩ = some (Value.int .i64 9) := hqd2; clear HQ HB hb; have HQ := m0_; have HB := n1_; clear m0_ n1_) | (go_at_call 9; (with_reducible refine (works_true _ (GV.below HG.out (by repeat (first | exact HB.out | apply below_alloc | apply pw_below_drewN | apply below_drew1)))).mono ?_); rintro e w99 ⟨rfl, hb⟩; have n1_ := Aside0.mk (below_step (by repeat (first | exact HB.out | apply below_alloc | apply pw_below_drewN | apply below_drew1)) hb); clear HB hb; have HB := n1_; clear n1_))
  go_ret
  exact ⟨rfl, HB.out⟩
set_option maxRecDepth 100000 in
set_option maxHeartbeats 6400000 in
theorem LexOdd_E25 (l : List S56) (A0 : Option Addr) (c0 : Nat) (at_ wh : Int) (w : World) (m : Nat) (hm2 : (if (40 : Int) < (l.length : Int) then (40 : Int) else (l.length : Int)) = (m : Int)) (hml : m ≤ l.length) (hlm : (l.take m).length = m) (hr0 : Kd.C k56 w A0 m (l.take m)) (hc0 : m ≤ c0) (hg : GV w) (K : Nat)
    (ws : List S28) (hws : ws.length ≤ 60) (hrow : signetrylaw03_row.f K (l.take m) = some ws) (k : Nat) (hk : k ≤ ws.length)  (hb1 : signetryref00_Bring.f at_ ((ws.length : Int) + 1) = some (k : Int)) (hb2 : signetryref00_Bring.f wh 28 = some 25)
    (sx tx od T : ByteArray) (hj1 : lex_Join.f (ws.take k) = some sx) (hj2 : lex_Join.f (ws.drop k) = some tx) (hod : rdOf ByteArray.empty oddL 25 = od) (hT : (((sx ++ ⟨#[10]⟩) ++ od) ++ ⟨#[10]⟩) ++ tx = T) (hsx : sx.size ≤ 20000) (htx : tx.size ≤ 20000) (hos : od.size ≤ 100)
    (hw : lex_Words.f T = some ([], (sx.size : Int) + 1, 21)) :
    Calls Tryd.prog 7 #[.slice A0 l.length c0, .int .i64 at_, .int .i64 wh] w fun e w' => e = .returned (.bool true) ∧ Below w.heap.size w w' := by
  have HR0 := Aside0.mk hr0
  have HC0 := Aside0.mk hc0
  have HLM := Aside0.mk hlm
  have HG := Aside0.mk hg
  have HB := Aside0.mk (Below.refl w.heap.size w)
  have HROW := Aside0.mk hrow
  have HB1 := Aside0.mk hb1
  have HB2 := Aside0.mk hb2
  have HJ1 := Aside0.mk hj1
  have HJ2 := Aside0.mk hj2
  have HOD := Aside0.mk hod
  have HT := Aside0.mk hT
  have HW := Aside0.mk hw
  have HTK : Aside0 ((ws.take k).length = k) := ⟨by rw [List.length_take]; omega⟩
  have HDK : Aside0 ((ws.drop k).length = ws.length - k) := ⟨List.length_drop⟩
  have hm0 : (0 : Int) ≤ (m : Int) := by omega
  have hm1 : (m : Int) ≤ (c0 : Int) := by omega
  have hm3 : (m : Int) ≤ (l.length : Int) := by omega
  have d1 : (0 : Int) ≤ (k : Int) := by omega
  have d2 : (k : Int) ≤ (ws.length : Int) := by omega
  clear hr0 hc0 hg hrow hb1 hb2 hj1 hj2 hod hT hw hlm
  go_enter Tryd.func7, Tryd.ntmps7
  go_upto_region 12 with (first | (go_at_call 14; (with_reducible refine (row_n K A0 c0 (l.take m) m HLM.out ws _ ?side1 ?side2 HROW.out).mono ?_); (case side1 => exact Kd.C_below HR0.out (by repeat (first | exact HB.out | apply below_alloc | apply pw_below_drewN | apply below_drew1))); (case side2 => exact HC0.out); rintro e w19 ⟨v19, rfl, ho, hb⟩; obtain ⟨Ao, co, eo⟩ := Kd.R_slice ho; subst eo; have hco := (Kd.R_reads' ho).2.1; have d4 : (k : Int) ≤ (co : Int) := (by omega); have hk1 : k ≤ co := (by omega); have n0_ := Aside0.mk (Kd.R_lower ho (below_size (by repeat (first | exact HB.out | apply below_alloc | apply pw_below_drewN | apply below_drew1)))); have n1_ := Aside0.mk (below_step (by repeat (first | exact HB.out | apply below_alloc | apply pw_below_drewN | apply below_drew1)) hb); clear HB ho hb; have HB := n1_; have HR := n0_; clear n1_ n0_) | ((with_reducible refine gate_dst (N := 29) rfl ?_); refine Kd.R_lit Kd.string _ 9 ?hg (N := 29) ?hd (xs := oddL) (inner := [.string (⟨#[35]⟩ : ByteArray), .string (⟨#[47]⟩ : ByteArray), .string (⟨#[42]⟩ : ByteArray), .string (⟨#[43]⟩ : ByteArray), .string (⟨#[63]⟩ : ByteArray), .string (⟨#[64]⟩ : ByteArray), .string (⟨#[36]⟩ : ByteArray), .string (⟨#[92]⟩ : ByteArray), .string (⟨#[0]⟩ : ByteArray), .string (⟨#[127]⟩ : ByteArray), .string (⟨#[255]⟩ : ByteArray), .string (⟨#[58]⟩ : ByteArray), .string (⟨#[33]⟩ : ByteArray), .string (⟨#[37]⟩ : ByteArray), .string (⟨#[38]⟩ : ByteArray), .string (⟨#[124]⟩ : ByteArray), .string (⟨#[94]⟩ : ByteArray), .string (⟨#[126]⟩ : ByteArray), .string (⟨#[48, 57]⟩ : ByteArray), .string (⟨#[48, 120]⟩ : ByteArray), .string (⟨#[48, 120, 103]⟩ : ByteArray), .string (⟨#[55, 97]⟩ : ByteArray), .string (⟨#[97, 98, 99, 100, 101, 102, 103, 104, 105, 106, 107, 108, 109, 110, 111, 112, 113, 114, 115, 116, 117, 118, 119, 120, 121, 122, 97, 98, 99, 100, 101, 102, 103]⟩ : ByteArray), .string (⟨#[50, 49, 52, 55, 52, 56, 51, 54, 52, 57]⟩ : ByteArray), .string (⟨#[48, 50, 48, 48, 48, 48, 48, 48, 48, 48, 48, 49]⟩ : ByteArray), .string (⟨#[39, 97]⟩ : ByteArray), .string (⟨#[34, 92, 113, 34]⟩ : ByteArray), .string (⟨#[47, 42, 32, 97]⟩ : ByteArray)]) (ok := fun _ => True) (okp := fun _ => True) ?hr ?hp (fun _ hk => hk) trivial (Below.refl _ _) (Nat.le_refl _) (by simp [oddL]) ?_; (case hd => rfl); (case hg => rfl); (case hr => first | (go_simp; done) | (go_simp; rfl)); (case hp => exact (Reps.one (show Kd.M Kd.string _ _ _ (⟨#[35]⟩ : ByteArray) [.string (⟨#[35]⟩ : ByteArray)] from rfl) (Reps.one (show Kd.M Kd.string _ _ _ (⟨#[47]⟩ : ByteArray) [.string (⟨#[47]⟩ : ByteArray)] from rfl) (Reps.one (show Kd.M Kd.string _ _ _ (⟨#[42]⟩ : ByteArray) [.string (⟨#[42]⟩ : ByteArray)] from rfl) (Reps.one (show Kd.M Kd.string _ _ _ (⟨#[43]⟩ : ByteArray) [.string (⟨#[43]⟩ : ByteArray)] from rfl) (Reps.one (show Kd.M Kd.string _ _ _ (⟨#[63]⟩ : ByteArray) [.string (⟨#[63]⟩ : ByteArray)] from rfl) (Reps.one (show Kd.M Kd.string _ _ _ (⟨#[64]⟩ : ByteArray) [.string (⟨#[64]⟩ : ByteArray)] from rfl) (Reps.one (show Kd.M Kd.string _ _ _ (⟨#[36]⟩ : ByteArray) [.string (⟨#[36]⟩ : ByteArray)] from rfl) (Reps.one (show Kd.M Kd.string _ _ _ (⟨#[92]⟩ : ByteArray) [.string (⟨#[92]⟩ : ByteArray)] from rfl) (Reps.one (show Kd.M Kd.string _ _ _ (⟨#[0]⟩ : ByteArray) [.string (⟨#[0]⟩ : ByteArray)] from rfl) (Reps.one (show Kd.M Kd.string _ _ _ (⟨#[127]⟩ : ByteArray) [.string (⟨#[127]⟩ : ByteArray)] from rfl) (Reps.one (show Kd.M Kd.string _ _ _ (⟨#[255]⟩ : ByteArray) [.string (⟨#[255]⟩ : ByteArray)] from rfl) (Reps.one (show Kd.M Kd.string _ _ _ (⟨#[58]⟩ : ByteArray) [.string (⟨#[58]⟩ : ByteArray)] from rfl) (Reps.one (show Kd.M Kd.string _ _ _ (⟨#[33]⟩ : ByteArray) [.string (⟨#[33]⟩ : ByteArray)] from rfl) (Reps.one (show Kd.M Kd.string _ _ _ (⟨#[37]⟩ : ByteArray) [.string (⟨#[37]⟩ : ByteArray)] from rfl) (Reps.one (show Kd.M Kd.string _ _ _ (⟨#[38]⟩ : ByteArray) [.string (⟨#[38]⟩ : ByteArray)] from rfl) (Reps.one (show Kd.M Kd.string _ _ _ (⟨#[124]⟩ : ByteArray) [.string (⟨#[124]⟩ : ByteArray)] from rfl) (Reps.one (show Kd.M Kd.string _ _ _ (⟨#[94]⟩ : ByteArray) [.string (⟨#[94]⟩ : ByteArray)] from rfl) (Reps.one (show Kd.M Kd.string _ _ _ (⟨#[126]⟩ : ByteArray) [.string (⟨#[126]⟩ : ByteArray)] from rfl) (Reps.one (show Kd.M Kd.string _ _ _ (⟨#[48, 57]⟩ : ByteArray) [.string (⟨#[48, 57]⟩ : ByteArray)] from rfl) (Reps.one (show Kd.M Kd.string _ _ _ (⟨#[48, 120]⟩ : ByteArray) [.string (⟨#[48, 120]⟩ : ByteArray)] from rfl) (Reps.one (show Kd.M Kd.string _ _ _ (⟨#[48, 120, 103]⟩ : ByteArray) [.string (⟨#[48, 120, 103]⟩ : ByteArray)] from rfl) (Reps.one (show Kd.M Kd.string _ _ _ (⟨#[55, 97]⟩ : ByteArray) [.string (⟨#[55, 97]⟩ : ByteArray)] from rfl) (Reps.one (show Kd.M Kd.string _ _ _ (⟨#[97, 98, 99, 100, 101, 102, 103, 104, 105, 106, 107, 108, 109, 110, 111, 112, 113, 114, 115, 116, 117, 118, 119, 120, 121, 122, 97, 98, 99, 100, 101, 102, 103]⟩ : ByteArray) [.string (⟨#[97, 98, 99, 100, 101, 102, 103, 104, 105, 106, 107, 108, 109, 110, 111, 112, 113, 114, 115, 116, 117, 118, 119, 120, 121, 122, 97, 98, 99, 100, 101, 102, 103]⟩ : ByteArray)] from rfl) (Reps.one (show Kd.M Kd.string _ _ _ (⟨#[50, 49, 52, 55, 52, 56, 51, 54, 52, 57]⟩ : ByteArray) [.string (⟨#[50, 49, 52, 55, 52, 56, 51, 54, 52, 57]⟩ : ByteArray)] from rfl) (Reps.one (show Kd.M Kd.string _ _ _ (⟨#[48, 50, 48, 48, 48, 48, 48, 48, 48, 48, 48, 49]⟩ : ByteArray) [.string (⟨#[48, 50, 48, 48, 48, 48, 48, 48, 48, 48, 48, 49]⟩ : ByteArray)] from rfl) (Reps.one (show Kd.M Kd.string _ _ _ (⟨#[39, 97]⟩ : ByteArray) [.string (⟨#[39, 97]⟩ : ByteArray)] from rfl) (Reps.one (show Kd.M Kd.string _ _ _ (⟨#[34, 92, 113, 34]⟩ : ByteArray) [.string (⟨#[34, 92, 113, 34]⟩ : ByteArray)] from rfl) (Reps.one (show Kd.M Kd.string _ _ _ (⟨#[47, 42, 32, 97]⟩ : ByteArray) [.string (⟨#[47, 42, 32, 97]⟩ : ByteArray)] from rfl) (Reps.none _ _)))))))))))))))))))))))))))))); intro v29 w29 ho hb hg_ hnew_; clear hg_ hnew_; obtain ⟨Ap, cAp, ep⟩ := Kd.R_slice ho; rw [show oddL.length = 28 from rfl] at ep; subst ep; have n3_ := Aside0.mk (Kd.R_lower ho (below_size (by repeat (first | exact HB.out | apply below_alloc | apply pw_below_drewN | apply below_drew1)))); clear ho; have m0_ := Aside0.mk (Kd.R_below (by (with_reducible repeat (first | apply Kd.R_alloc | apply Kd.R_drewN | apply Kd.R_drew)); exact HR.out) hb); have n1_ := Aside0.mk (below_step (by repeat (first | exact HB.out | apply below_alloc | apply pw_below_drewN | apply below_drew1)) hb); clear HR HB hb; have HR := m0_; have HB := n1_; clear m0_ n1_; have HP := n3_; clear n3_) | ((with_reducible refine gate_dst (N := 30) rfl ?_); refine Kd.R_lit (Kd.int .i64) _ 23 ?hg (N := 30) ?hd (xs := wantL) (inner := [.int .i64 30, .int .i64 9, .int .i64 21]) (ok := fun _ => True) (okp := fun _ => True) ?hr ?hp (fun _ hk => hk) trivial (Below.refl _ _) (Nat.le_refl _) (by simp [wantL]) ?_; (case hd => rfl); (case hg => rfl); (case hr => first | (go_simp; done) | (go_simp; rfl)); (case hp => exact (Reps.one (show Kd.M (Kd.int .i64) _ _ _ (30 : Int) [.int .i64 30] from rfl) (Reps.one (show Kd.M (Kd.int .i64) _ _ _ (9 : Int) [.int .i64 9] from rfl) (Reps.one (show Kd.M (Kd.int .i64) _ _ _ (21 : Int) [.int .i64 21] from rfl) (Reps.none _ _))))); intro v29 w29 ho hb hg_ hnew_; clear hg_ hnew_; obtain ⟨Aq, cAq, ep⟩ := Kd.R_slice ho; rw [show wantL.length = 3 from rfl] at ep; subst ep; have n3_ := Aside0.mk (Kd.R_lower ho (below_size (by repeat (first | exact HB.out | apply below_alloc | apply pw_below_drewN | apply below_drew1)))); clear ho; have m0_ := Aside0.mk (Kd.R_below (by (with_reducible repeat (first | apply Kd.R_alloc | apply Kd.R_drewN | apply Kd.R_drew)); exact HR.out) hb); have m1_ := Aside0.mk (Kd.R_below (by (with_reducible repeat (first | apply Kd.R_alloc | apply Kd.R_drewN | apply Kd.R_drew)); exact HP.out) hb); have n1_ := Aside0.mk (below_step (by repeat (first | exact HB.out | apply below_alloc | apply pw_below_drewN | apply below_drew1)) hb); clear HR HP HB hb; have HR := m0_; have HP := m1_; have HB := n1_; clear m0_ m1_ n1_; have HQ := n3_; clear n3_) | (go_at_call_of 10 (Value.int .i64 at_); (with_reducible refine (signetryref00_Bring.calls at_ ((ws.length : Int) + 1) (k : Int) _ HB1.out).mono ?_); rintro e w59 ⟨rfl, ⟨nd, rfl⟩⟩) | (go_at_call_of 10 (Value.int .i64 wh); (with_reducible refine (signetryref00_Bring.calls wh 28 (25 : Int) _ HB2.out).mono ?_); rintro e w69 ⟨rfl, ⟨nd2, rfl⟩⟩) | (go_at_call 11; refine (join_n (ws.take k) k HTK.out _ _ sx _ ?side1 ?side2 HJ1.out).mono ?_; (case side1 => exact take_c (by repeat (first | exact (Kd.R_reads' HR.out).2.2 | (with_reducible refine Kd.C_alloc ?_ _) | (with_reducible refine Kd.C_drewN ?_ _) | (with_reducible refine Kd.C_drew ?_))) hk); (case side2 => exact hk1); rintro e w49 ⟨rfl, hb⟩; have m0_ := Aside0.mk (Kd.R_below (by (with_reducible repeat (first | apply Kd.R_alloc | apply Kd.R_drewN | apply Kd.R_drew)); exact HR.out) hb); have m1_ := Aside0.mk (Kd.R_below (by (with_reducible repeat (first | apply Kd.R_alloc | apply Kd.R_drewN | apply Kd.R_drew)); exact HP.out) hb); have m2_ := Aside0.mk (Kd.R_below (by (with_reducible repeat (first | apply Kd.R_alloc | apply Kd.R_drewN | apply Kd.R_drew)); exact HQ.out) hb); have n1_ := Aside0.mk (below_step (by repeat (first | exact HB.out | apply below_alloc | apply pw_below_drewN | apply below_drew1)) hb); clear HR HP HQ HB hb; have HR := m0_; have HP := m1_; have HQ := m2_; have HB := n1_; clear m0_ m1_ m2_ n1_))
  obtain ⟨ap, eap, hld⟩ := Kd.at_string (Kd.R_reads' HP.out).2.2 (25 : Int) (by omega) (by show (25 : Int) < (28 : Nat); omega)
  subst eap
  rw [HOD.out] at hld
  replace hld : World.cell? _ ⟨ap.block, ap.off + 25, none⟩ = some (.string od) := hld
  obtain ⟨A9, hA9⟩ : ∃ A9, A9 = (if co = k then Ao else Ao.map (·.add (k * 4))) := ⟨_, rfl⟩
  have HX : Aside0 (Kd.C k28 _ A9 (ws.length - k) (ws.drop k)) := ⟨by rw [hA9]; exact drop_c (Kd.R_reads' HR.out).2.2 hk hco⟩
  have hcut := words_from Ao ws.length co k hk hco A9 hA9
  have hk2 : ws.length - k ≤ co - k := by omega
  have hc1 : ¬ 9223372036854775807 < sx.size + 1 := by omega
  have hc2 : ¬ 9223372036854775807 < sx.size + 1 + od.size := by omega
  have hc3 : ¬ 9223372036854775807 < sx.size + 1 + od.size + 1 := by omega
  have hc4 : ¬ 9223372036854775807 < sx.size + 1 + od.size + 1 + tx.size := by omega
  have hs10 : (⟨#[10]⟩ : ByteArray).size = 1 := rfl
  have hc5 : ¬ 9223372036854775807 < (sx ++ ⟨#[10]⟩ : ByteArray).size + od.size := by rw [ByteArray.size_append, hs10]; omega
  have hc6 : ¬ 9223372036854775807 < ((sx ++ ⟨#[10]⟩) ++ od : ByteArray).size + 1 := by rw [ByteArray.size_append, ByteArray.size_append, hs10]; omega
  have hc7 : ¬ 9223372036854775807 < (((sx ++ ⟨#[10]⟩) ++ od) ++ ⟨#[10]⟩ : ByteArray).size + tx.size := by rw [ByteArray.size_append, ByteArray.size_append, ByteArray.size_append, hs10]; omega
  clear hA9
  refine start_ (n := 14) (S := fun w' => w'.cell? ⟨ap.block, ap.off + 25, none⟩ = some (.string od)) (ds := []) #[false, false, false, false, false, false, false, false, false, false, false, false, false, false] (by kernel_rfl) rfl rfl (hld) (fun hHeld => ?_)
  refine pure_ (i := 0) (N := some 51) (v := ?_) (a' := ?_) #[true, false, false, false, false, false, false, false, false, false, false, false, false, false] rfl rfl (by kernel_rfl) (fun _ _ _ h => h) (Or.inl ⟨by rfl, ?_⟩) ?_ ?_
  rotate_left
  · intro w'
    go_simp
    with_reducible rfl
  rotate_left
  · simp only [Act.put, List.setIfInBounds_toArray, List.set_cons_zero, List.set_cons_succ, i64_w, i32_w]
    rfl
  refine pure_ (i := 1) (N := some 52) (v := ?_) (a' := ?_) #[true, true, false, false, false, false, false, false, false, false, false, false, false, false] rfl rfl (by kernel_rfl) (fun _ _ _ h => h) (Or.inl ⟨by rfl, ?_⟩) ?_ ?_
  rotate_left
  · intro w'
    go_simp
    with_reducible rfl
  rotate_left
  · simp only [Act.put, List.setIfInBounds_toArray, List.set_cons_zero, List.set_cons_succ, i64_w, i32_w]
    rfl
  refine pure_ (i := 2) (N := some 53) (v := ?_) (a' := ?_) #[true, true, true, false, false, false, false, false, false, false, false, false, false, false] rfl rfl (by kernel_rfl) (fun _ _ _ h => h) (Or.inl ⟨by rfl, ?_⟩) ?_ ?_
  rotate_left
  · intro w'
    go_simp
    with_reducible rfl
  rotate_left
  · simp only [Act.put, List.setIfInBounds_toArray, List.set_cons_zero, List.set_cons_succ, i64_w, i32_w]
    rfl
  refine pure_ (i := 3) (N := some 54) (v := ?_) (a' := ?_) #[true, true, true, true, false, false, false, false, false, false, false, false, false, false] rfl rfl (by kernel_rfl) (fun _ _ _ h => h) (Or.inl ⟨by rfl, ?_⟩) ?_ ?_
  rotate_left
  · intro w'
    go_simp
    with_reducible rfl
  rotate_left
  · simp only [Act.put, List.setIfInBounds_toArray, List.set_cons_zero, List.set_cons_succ, i64_w, i32_w]
    rfl
  refine pure_ (i := 4) (N := some 55) (v := ?_) (a' := ?_) #[true, true, true, true, true, false, false, false, false, false, false, false, false, false] rfl rfl (by kernel_rfl) (fun _ _ _ h => h) (Or.inl ⟨by rfl, ?_⟩) ?_ ?_
  rotate_left
  · intro w'
    go_simp
    with_reducible rfl
  rotate_left
  · simp only [Act.put, List.setIfInBounds_toArray, List.set_cons_zero, List.set_cons_succ, i64_w, i32_w]
    rfl
  refine pure_ (i := 8) (N := some 59) (v := ?_) (a' := ?_) #[true, true, true, true, true, false, false, false, true, false, false, false, false, false] rfl rfl (by kernel_rfl) (fun _ _ _ h => h) (Or.inl ⟨by rfl, ?_⟩) ?_ ?_
  rotate_left
  · intro w'
    go_simp
    with_reducible rfl
  rotate_left
  · simp only [Act.put, List.setIfInBounds_toArray, List.set_cons_zero, List.set_cons_succ, i64_w, i32_w]
    rfl
  refine pure_ (i := 9) (N := some 60) (v := ?_) (a' := ?_) #[true, true, true, true, true, false, false, false, true, true, false, false, false, false] rfl rfl (by kernel_rfl) (fun _ _ _ h => h) (Or.inl ⟨by rfl, ?_⟩) ?_ ?_
  rotate_left
  · intro w'
    go_simp
    with_reducible rfl
  rotate_left
  · simp only [Act.put, List.setIfInBounds_toArray, List.set_cons_zero, List.set_cons_succ, i64_w, i32_w]
    rfl
  refine pure_ (i := 10) (N := some 61) (v := ?_) (a' := ?_) #[true, true, true, true, true, false, false, false, true, true, true, false, false, false] rfl rfl (by kernel_rfl) (fun _ _ _ h => h) (Or.inl ⟨by rfl, ?_⟩) ?_ ?_
  rotate_left
  · intro w'
    go_simp
    with_reducible rfl
  rotate_left
  · simp only [Act.put, List.setIfInBounds_toArray, List.set_cons_zero, List.set_cons_succ, i64_w, i32_w]
    rfl
  refine take_ (i := 5) (N := some 56) (v := ?_) (a' := ?_) #[true, true, true, true, true, true, false, false, true, true, true, false, false, false] rfl rfl (by kernel_rfl) (fun _ _ _ h => h) (Or.inl ⟨by rfl, ?_⟩) hHeld ?_ ?_
  rotate_left
  · intro w' s0
    go_simp
    with_reducible rfl
  rotate_left
  · simp only [Act.put, List.setIfInBounds_toArray, List.set_cons_zero, List.set_cons_succ, i64_w, i32_w]
    rfl
  refine pure_ (i := 6) (N := some 57) (v := ?_) (a' := ?_) #[true, true, true, true, true, true, true, false, true, true, true, false, false, false] rfl rfl (by kernel_rfl) (fun _ _ _ h => h) (Or.inl ⟨by rfl, ?_⟩) ?_ ?_
  rotate_left
  · intro w'
    go_simp
    with_reducible rfl
  rotate_left
  · simp only [Act.put, List.setIfInBounds_toArray, List.set_cons_zero, List.set_cons_succ, i64_w, i32_w]
    rfl
  refine pure_ (i := 7) (N := some 58) (v := ?_) (a' := ?_) #[true, true, true, true, true, true, true, true, true, true, true, false, false, false] rfl rfl (by kernel_rfl) (fun _ _ _ h => h) (Or.inl ⟨by rfl, ?_⟩) ?_ ?_
  rotate_left
  · intro w'
    go_simp
    with_reducible rfl
  rotate_left
  · simp only [Act.put, List.setIfInBounds_toArray, List.set_cons_zero, List.set_cons_succ, i64_w, i32_w]
    rfl
  refine one_ (i := 11) (N := some 62) #[true, true, true, true, true, true, true, true, true, true, true, true, false, false] rfl rfl (by kernel_rfl) (by decide) (fun K hK => ?_)
  refine goes_ Tryd.func11 (by kernel_rfl) rfl #[.slice A9 (ws.length - k) (co - k)] (by rfl) rfl rfl (by simp only [List.map_toArray, List.map_cons, List.map_nil]; rfl) ?_
  with_reducible refine (join_n (ws.drop k) (ws.length - k) HDK.out A9 (co - k) tx _ (by repeat (first | exact HX.out | (with_reducible refine Kd.C_alloc ?_ _) | (with_reducible refine Kd.C_drewN ?_ _) | (with_reducible refine Kd.C_drew ?_))) hk2 HJ2.out).mono ?_
  rintro e W3 ⟨rfl, hb⟩
  refine ⟨_, rfl, ?_⟩
  (have m0_ := Aside0.mk (Kd.R_below (by (with_reducible repeat (first | apply Kd.R_alloc | apply Kd.R_drewN | apply Kd.R_drew)); exact HR.out) hb); have m1_ := Aside0.mk (Kd.R_below (by (with_reducible repeat (first | apply Kd.R_alloc | apply Kd.R_drewN | apply Kd.R_drew)); exact HP.out) hb); have m2_ := Aside0.mk (Kd.R_below (by (with_reducible repeat (first | apply Kd.R_alloc | apply Kd.R_drewN | apply Kd.R_drew)); exact HQ.out) hb); have n1_ := Aside0.mk (below_step (by repeat (first | exact HB.out | apply below_alloc | apply pw_below_drewN | apply below_drew1)) hb); clear HR HP HQ HB hb; have HR := m0_; have HP := m1_; have HQ := m2_; have HB := n1_; clear m0_ m1_ m2_ n1_)
  refine hK.out _ _ ((by obtain ⟨ap2, e2, h2⟩ := Kd.at_string (Kd.R_reads' HP.out).2.2 (25 : Int) (by omega) (by show (25 : Int) < (28 : Nat); omega); cases e2; rw [HOD.out] at h2; exact h2)) (fun hHeld => ?_)
  clear hK K
  refine norm_ (a' := ?_) ?_ ?_
  rotate_left
  · show Act.put _ (some 62) _ = _
    simp only [Act.put, List.setIfInBounds_toArray, List.set_cons_zero, List.set_cons_succ, i64_w, i32_w]
    rfl
  refine pure_ (i := 12) (N := some 63) (v := ?_) (a' := ?_) #[true, true, true, true, true, true, true, true, true, true, true, true, true, false] rfl rfl (by kernel_rfl) (fun _ _ _ h => h) (Or.inl ⟨by rfl, ?_⟩) ?_ ?_
  rotate_left
  · intro w'
    go_simp
    with_reducible rfl
  rotate_left
  · simp only [Act.put, List.setIfInBounds_toArray, List.set_cons_zero, List.set_cons_succ, i64_w, i32_w]
    rfl
  refine pure_ (i := 13) (N := some 14) (v := ?_) (a' := ?_) #[true, true, true, true, true, true, true, true, true, true, true, true, true, true] rfl rfl (by kernel_rfl) (fun _ _ _ h => h) (Or.inl ⟨by rfl, ?_⟩) ?_ ?_
  rotate_left
  · intro w'
    go_simp
    with_reducible rfl
  rotate_left
  · simp only [Act.put, List.setIfInBounds_toArray, List.set_cons_zero, List.set_cons_succ, i64_w, i32_w]
    rfl
  refine done_ (by kernel_rfl) ?_
  have hTT := HT.out
  obtain ⟨aq, eaq, hqd⟩ := Kd.at_int (Kd.R_reads' HQ.out).2.2 (2 : Int) (by decide) (by decide)
  subst eaq
  clear hqd
  clear hc1 hc2 hc3 hc4 hc5 hc6 hc7 hcut hld HX
  go_wp2_with (first | (go_at_call 8; (with_reducible refine (lex_Words.calls T [] ((sx.size : Int) + 1) 21 _ HW.out ?sideg).mono ?_); (case sideg => exact GV.below HG.out (by repeat (first | exact HB.out | apply below_alloc | apply pw_below_drewN | apply below_drew1))); rintro e w79 ⟨v39, rfl, ho, hb⟩; obtain ⟨Ax, cx, eo⟩ := Kd.R_slice ho; subst eo; clear ho; have m0_ := Aside0.mk (Kd.R_below (by (with_reducible repeat (first | apply Kd.R_alloc | apply Kd.R_drewN | apply Kd.R_drew)); exact HQ.out) hb); have n1_ := Aside0.mk (below_step (by repeat (first | exact HB.out | apply below_alloc | apply pw_below_drewN | apply below_drew1)) hb); obtain ⟨aq2, eaq2, hqd2⟩ := Kd.at_int (Kd.R_reads' m0_.out).2.2 (2 : Int) (by decide) (by decide); cases eaq2; replace hqd2 : World.cell? w79 ⟨aq.block, aq.off + 2, none⟩ = some (Value.int .i64 21) := hqd2; clear HQ HB hb; have HQ := m0_; have HB := n1_; clear m0_ n1_) | (go_at_call 9; (with_reducible refine (works_true _ (GV.below HG.out (by repeat (first | exact HB.out | apply below_alloc | apply pw_below_drewN | apply below_drew1)))).mono ?_); rintro e w99 ⟨rfl, hb⟩; have n1_ := Aside0.mk (below_step (by repeat (first | exact HB.out | apply below_alloc | apply pw_below_drewN | apply below_drew1)) hb); clear HB hb; have HB := n1_; clear n1_))
  go_ret
  exact ⟨rfl, HB.out⟩
set_option maxRecDepth 100000 in
set_option maxHeartbeats 6400000 in
theorem LexOdd_E26 (l : List S56) (A0 : Option Addr) (c0 : Nat) (at_ wh : Int) (w : World) (m : Nat) (hm2 : (if (40 : Int) < (l.length : Int) then (40 : Int) else (l.length : Int)) = (m : Int)) (hml : m ≤ l.length) (hlm : (l.take m).length = m) (hr0 : Kd.C k56 w A0 m (l.take m)) (hc0 : m ≤ c0) (hg : GV w) (K : Nat)
    (ws : List S28) (hws : ws.length ≤ 60) (hrow : signetrylaw03_row.f K (l.take m) = some ws) (k : Nat) (hk : k ≤ ws.length)  (hb1 : signetryref00_Bring.f at_ ((ws.length : Int) + 1) = some (k : Int)) (hb2 : signetryref00_Bring.f wh 28 = some 26)
    (sx tx od T : ByteArray) (hj1 : lex_Join.f (ws.take k) = some sx) (hj2 : lex_Join.f (ws.drop k) = some tx) (hod : rdOf ByteArray.empty oddL 26 = od) (hT : (((sx ++ ⟨#[10]⟩) ++ od) ++ ⟨#[10]⟩) ++ tx = T) (hsx : sx.size ≤ 20000) (htx : tx.size ≤ 20000) (hos : od.size ≤ 100)
    (hw : lex_Words.f T = some ([], (sx.size : Int) + 1, 21)) :
    Calls Tryd.prog 7 #[.slice A0 l.length c0, .int .i64 at_, .int .i64 wh] w fun e w' => e = .returned (.bool true) ∧ Below w.heap.size w w' := by
  have HR0 := Aside0.mk hr0
  have HC0 := Aside0.mk hc0
  have HLM := Aside0.mk hlm
  have HG := Aside0.mk hg
  have HB := Aside0.mk (Below.refl w.heap.size w)
  have HROW := Aside0.mk hrow
  have HB1 := Aside0.mk hb1
  have HB2 := Aside0.mk hb2
  have HJ1 := Aside0.mk hj1
  have HJ2 := Aside0.mk hj2
  have HOD := Aside0.mk hod
  have HT := Aside0.mk hT
  have HW := Aside0.mk hw
  have HTK : Aside0 ((ws.take k).length = k) := ⟨by rw [List.length_take]; omega⟩
  have HDK : Aside0 ((ws.drop k).length = ws.length - k) := ⟨List.length_drop⟩
  have hm0 : (0 : Int) ≤ (m : Int) := by omega
  have hm1 : (m : Int) ≤ (c0 : Int) := by omega
  have hm3 : (m : Int) ≤ (l.length : Int) := by omega
  have d1 : (0 : Int) ≤ (k : Int) := by omega
  have d2 : (k : Int) ≤ (ws.length : Int) := by omega
  clear hr0 hc0 hg hrow hb1 hb2 hj1 hj2 hod hT hw hlm
  go_enter Tryd.func7, Tryd.ntmps7
  go_upto_region 12 with (first | (go_at_call 14; (with_reducible refine (row_n K A0 c0 (l.take m) m HLM.out ws _ ?side1 ?side2 HROW.out).mono ?_); (case side1 => exact Kd.C_below HR0.out (by repeat (first | exact HB.out | apply below_alloc | apply pw_below_drewN | apply below_drew1))); (case side2 => exact HC0.out); rintro e w19 ⟨v19, rfl, ho, hb⟩; obtain ⟨Ao, co, eo⟩ := Kd.R_slice ho; subst eo; have hco := (Kd.R_reads' ho).2.1; have d4 : (k : Int) ≤ (co : Int) := (by omega); have hk1 : k ≤ co := (by omega); have n0_ := Aside0.mk (Kd.R_lower ho (below_size (by repeat (first | exact HB.out | apply below_alloc | apply pw_below_drewN | apply below_drew1)))); have n1_ := Aside0.mk (below_step (by repeat (first | exact HB.out | apply below_alloc | apply pw_below_drewN | apply below_drew1)) hb); clear HB ho hb; have HB := n1_; have HR := n0_; clear n1_ n0_) | ((with_reducible refine gate_dst (N := 29) rfl ?_); refine Kd.R_lit Kd.string _ 9 ?hg (N := 29) ?hd (xs := oddL) (inner := [.string (⟨#[35]⟩ : ByteArray), .string (⟨#[47]⟩ : ByteArray), .string (⟨#[42]⟩ : ByteArray), .string (⟨#[43]⟩ : ByteArray), .string (⟨#[63]⟩ : ByteArray), .string (⟨#[64]⟩ : ByteArray), .string (⟨#[36]⟩ : ByteArray), .string (⟨#[92]⟩ : ByteArray), .string (⟨#[0]⟩ : ByteArray), .string (⟨#[127]⟩ : ByteArray), .string (⟨#[255]⟩ : ByteArray), .string (⟨#[58]⟩ : ByteArray), .string (⟨#[33]⟩ : ByteArray), .string (⟨#[37]⟩ : ByteArray), .string (⟨#[38]⟩ : ByteArray), .string (⟨#[124]⟩ : ByteArray), .string (⟨#[94]⟩ : ByteArray), .string (⟨#[126]⟩ : ByteArray), .string (⟨#[48, 57]⟩ : ByteArray), .string (⟨#[48, 120]⟩ : ByteArray), .string (⟨#[48, 120, 103]⟩ : ByteArray), .string (⟨#[55, 97]⟩ : ByteArray), .string (⟨#[97, 98, 99, 100, 101, 102, 103, 104, 105, 106, 107, 108, 109, 110, 111, 112, 113, 114, 115, 116, 117, 118, 119, 120, 121, 122, 97, 98, 99, 100, 101, 102, 103]⟩ : ByteArray), .string (⟨#[50, 49, 52, 55, 52, 56, 51, 54, 52, 57]⟩ : ByteArray), .string (⟨#[48, 50, 48, 48, 48, 48, 48, 48, 48, 48, 48, 49]⟩ : ByteArray), .string (⟨#[39, 97]⟩ : ByteArray), .string (⟨#[34, 92, 113, 34]⟩ : ByteArray), .string (⟨#[47, 42, 32, 97]⟩ : ByteArray)]) (ok := fun _ => True) (okp := fun _ => True) ?hr ?hp (fun _ hk => hk) trivial (Below.refl _ _) (Nat.le_refl _) (by simp [oddL]) ?_; (case hd => rfl); (case hg => rfl); (case hr => first | (go_simp; done) | (go_simp; rfl)); (case hp => exact (Reps.one (show Kd.M Kd.string _ _ _ (⟨#[35]⟩ : ByteArray) [.string (⟨#[35]⟩ : ByteArray)] from rfl) (Reps.one (show Kd.M Kd.string _ _ _ (⟨#[47]⟩ : ByteArray) [.string (⟨#[47]⟩ : ByteArray)] from rfl) (Reps.one (show Kd.M Kd.string _ _ _ (⟨#[42]⟩ : ByteArray) [.string (⟨#[42]⟩ : ByteArray)] from rfl) (Reps.one (show Kd.M Kd.string _ _ _ (⟨#[43]⟩ : ByteArray) [.string (⟨#[43]⟩ : ByteArray)] from rfl) (Reps.one (show Kd.M Kd.string _ _ _ (⟨#[63]⟩ : ByteArray) [.string (⟨#[63]⟩ : ByteArray)] from rfl) (Reps.one (show Kd.M Kd.string _ _ _ (⟨#[64]⟩ : ByteArray) [.string (⟨#[64]⟩ : ByteArray)] from rfl) (Reps.one (show Kd.M Kd.string _ _ _ (⟨#[36]⟩ : ByteArray) [.string (⟨#[36]⟩ : ByteArray)] from rfl) (Reps.one (show Kd.M Kd.string _ _ _ (⟨#[92]⟩ : ByteArray) [.string (⟨#[92]⟩ : ByteArray)] from rfl) (Reps.one (show Kd.M Kd.string _ _ _ (⟨#[0]⟩ : ByteArray) [.string (⟨#[0]⟩ : ByteArray)] from rfl) (Reps.one (show Kd.M Kd.string _ _ _ (⟨#[127]⟩ : ByteArray) [.string (⟨#[127]⟩ : ByteArray)] from rfl) (Reps.one (show Kd.M Kd.string _ _ _ (⟨#[255]⟩ : ByteArray) [.string (⟨#[255]⟩ : ByteArray)] from rfl) (Reps.one (show Kd.M Kd.string _ _ _ (⟨#[58]⟩ : ByteArray) [.string (⟨#[58]⟩ : ByteArray)] from rfl) (Reps.one (show Kd.M Kd.string _ _ _ (⟨#[33]⟩ : ByteArray) [.string (⟨#[33]⟩ : ByteArray)] from rfl) (Reps.one (show Kd.M Kd.string _ _ _ (⟨#[37]⟩ : ByteArray) [.string (⟨#[37]⟩ : ByteArray)] from rfl) (Reps.one (show Kd.M Kd.string _ _ _ (⟨#[38]⟩ : ByteArray) [.string (⟨#[38]⟩ : ByteArray)] from rfl) (Reps.one (show Kd.M Kd.string _ _ _ (⟨#[124]⟩ : ByteArray) [.string (⟨#[124]⟩ : ByteArray)] from rfl) (Reps.one (show Kd.M Kd.string _ _ _ (⟨#[94]⟩ : ByteArray) [.string (⟨#[94]⟩ : ByteArray)] from rfl) (Reps.one (show Kd.M Kd.string _ _ _ (⟨#[126]⟩ : ByteArray) [.string (⟨#[126]⟩ : ByteArray)] from rfl) (Reps.one (show Kd.M Kd.string _ _ _ (⟨#[48, 57]⟩ : ByteArray) [.string (⟨#[48, 57]⟩ : ByteArray)] from rfl) (Reps.one (show Kd.M Kd.string _ _ _ (⟨#[48, 120]⟩ : ByteArray) [.string (⟨#[48, 120]⟩ : ByteArray)] from rfl) (Reps.one (show Kd.M Kd.string _ _ _ (⟨#[48, 120, 103]⟩ : ByteArray) [.string (⟨#[48, 120, 103]⟩ : ByteArray)] from rfl) (Reps.one (show Kd.M Kd.string _ _ _ (⟨#[55, 97]⟩ : ByteArray) [.string (⟨#[55, 97]⟩ : ByteArray)] from rfl) (Reps.one (show Kd.M Kd.string _ _ _ (⟨#[97, 98, 99, 100, 101, 102, 103, 104, 105, 106, 107, 108, 109, 110, 111, 112, 113, 114, 115, 116, 117, 118, 119, 120, 121, 122, 97, 98, 99, 100, 101, 102, 103]⟩ : ByteArray) [.string (⟨#[97, 98, 99, 100, 101, 102, 103, 104, 105, 106, 107, 108, 109, 110, 111, 112, 113, 114, 115, 116, 117, 118, 119, 120, 121, 122, 97, 98, 99, 100, 101, 102, 103]⟩ : ByteArray)] from rfl) (Reps.one (show Kd.M Kd.string _ _ _ (⟨#[50, 49, 52, 55, 52, 56, 51, 54, 52, 57]⟩ : ByteArray) [.string (⟨#[50, 49, 52, 55, 52, 56, 51, 54, 52, 57]⟩ : ByteArray)] from rfl) (Reps.one (show Kd.M Kd.string _ _ _ (⟨#[48, 50, 48, 48, 48, 48, 48, 48, 48, 48, 48, 49]⟩ : ByteArray) [.string (⟨#[48, 50, 48, 48, 48, 48, 48, 48, 48, 48, 48, 49]⟩ : ByteArray)] from rfl) (Reps.one (show Kd.M Kd.string _ _ _ (⟨#[39, 97]⟩ : ByteArray) [.string (⟨#[39, 97]⟩ : ByteArray)] from rfl) (Reps.one (show Kd.M Kd.string _ _ _ (⟨#[34, 92, 113, 34]⟩ : ByteArray) [.string (⟨#[34, 92, 113, 34]⟩ : ByteArray)] from rfl) (Reps.one (show Kd.M Kd.string _ _ _ (⟨#[47, 42, 32, 97]⟩ : ByteArray) [.string (⟨#[47, 42, 32, 97]⟩ : ByteArray)] from rfl) (Reps.none _ _)))))))))))))))))))))))))))))); intro v29 w29 ho hb hg_ hnew_; clear hg_ hnew_; obtain ⟨Ap, cAp, ep⟩ := Kd.R_slice ho; rw [show oddL.length = 28 from rfl] at ep; subst ep; have n3_ := Aside0.mk (Kd.R_lower ho (below_size (by repeat (first | exact HB.out | apply below_alloc | apply pw_below_drewN | apply below_drew1)))); clear ho; have m0_ := Aside0.mk (Kd.R_below (by (with_reducible repeat (first | apply Kd.R_alloc | apply Kd.R_drewN | apply Kd.R_drew)); exact HR.out) hb); have n1_ := Aside0.mk (below_step (by repeat (first | exact HB.out | apply below_alloc | apply pw_below_drewN | apply below_drew1)) hb); clear HR HB hb; have HR := m0_; have HB := n1_; clear m0_ n1_; have HP := n3_; clear n3_) | ((with_reducible refine gate_dst (N := 30) rfl ?_); refine Kd.R_lit (Kd.int .i64) _ 23 ?hg (N := 30) ?hd (xs := wantL) (inner := [.int .i64 30, .int .i64 9, .int .i64 21]) (ok := fun _ => True) (okp := fun _ => True) ?hr ?hp (fun _ hk => hk) trivial (Below.refl _ _) (Nat.le_refl _) (by simp [wantL]) ?_; (case hd => rfl); (case hg => rfl); (case hr => first | (go_simp; done) | (go_simp; rfl)); (case hp => exact (Reps.one (show Kd.M (Kd.int .i64) _ _ _ (30 : Int) [.int .i64 30] from rfl) (Reps.one (show Kd.M (Kd.int .i64) _ _ _ (9 : Int) [.int .i64 9] from rfl) (Reps.one (show Kd.M (Kd.int .i64) _ _ _ (21 : Int) [.int .i64 21] from rfl) (Reps.none _ _))))); intro v29 w29 ho hb hg_ hnew_; clear hg_ hnew_; obtain ⟨Aq, cAq, ep⟩ := Kd.R_slice ho; rw [show wantL.length = 3 from rfl] at ep; subst ep; have n3_ := Aside0.mk (Kd.R_lower ho (below_size (by repeat (first | exact HB.out | apply below_alloc | apply pw_below_drewN | apply below_drew1)))); clear ho; have m0_ := Aside0.mk (Kd.R_below (by (with_reducible repeat (first | apply Kd.R_alloc | apply Kd.R_drewN | apply Kd.R_drew)); exact HR.out) hb); have m1_ := Aside0.mk (Kd.R_below (by (with_reducible repeat (first | apply Kd.R_alloc | apply Kd.R_drewN | apply Kd.R_drew)); exact HP.out) hb); have n1_ := Aside0.mk (below_step (by repeat (first | exact HB.out | apply below_alloc | apply pw_below_drewN | apply below_drew1)) hb); clear HR HP HB hb; have HR := m0_; have HP := m1_; have HB := n1_; clear m0_ m1_ n1_; have HQ := n3_; clear n3_) | (go_at_call_of 10 (Value.int .i64 at_); (with_reducible refine (signetryref00_Bring.calls at_ ((ws.length : Int) + 1) (k : Int) _ HB1.out).mono ?_); rintro e w59 ⟨rfl, ⟨nd, rfl⟩⟩) | (go_at_call_of 10 (Value.int .i64 wh); (with_reducible refine (signetryref00_Bring.calls wh 28 (26 : Int) _ HB2.out).mono ?_); rintro e w69 ⟨rfl, ⟨nd2, rfl⟩⟩) | (go_at_call 11; refine (join_n (ws.take k) k HTK.out _ _ sx _ ?side1 ?side2 HJ1.out).mono ?_; (case side1 => exact take_c (by repeat (first | exact (Kd.R_reads' HR.out).2.2 | (with_reducible refine Kd.C_alloc ?_ _) | (with_reducible refine Kd.C_drewN ?_ _) | (with_reducible refine Kd.C_drew ?_))) hk); (case side2 => exact hk1); rintro e w49 ⟨rfl, hb⟩; have m0_ := Aside0.mk (Kd.R_below (by (with_reducible repeat (first | apply Kd.R_alloc | apply Kd.R_drewN | apply Kd.R_drew)); exact HR.out) hb); have m1_ := Aside0.mk (Kd.R_below (by (with_reducible repeat (first | apply Kd.R_alloc | apply Kd.R_drewN | apply Kd.R_drew)); exact HP.out) hb); have m2_ := Aside0.mk (Kd.R_below (by (with_reducible repeat (first | apply Kd.R_alloc | apply Kd.R_drewN | apply Kd.R_drew)); exact HQ.out) hb); have n1_ := Aside0.mk (below_step (by repeat (first | exact HB.out | apply below_alloc | apply pw_below_drewN | apply below_drew1)) hb); clear HR HP HQ HB hb; have HR := m0_; have HP := m1_; have HQ := m2_; have HB := n1_; clear m0_ m1_ m2_ n1_))
  obtain ⟨ap, eap, hld⟩ := Kd.at_string (Kd.R_reads' HP.out).2.2 (26 : Int) (by omega) (by show (26 : Int) < (28 : Nat); omega)
  subst eap
  rw [HOD.out] at hld
  replace hld : World.cell? _ ⟨ap.block, ap.off + 26, none⟩ = some (.string od) := hld
  obtain ⟨A9, hA9⟩ : ∃ A9, A9 = (if co = k then Ao else Ao.map (·.add (k * 4))) := ⟨_, rfl⟩
  have HX : Aside0 (Kd.C k28 _ A9 (ws.length - k) (ws.drop k)) := ⟨by rw [hA9]; exact drop_c (Kd.R_reads' HR.out).2.2 hk hco⟩
  have hcut := words_from Ao ws.length co k hk hco A9 hA9
  have hk2 : ws.length - k ≤ co - k := by omega
  have hc1 : ¬ 9223372036854775807 < sx.size + 1 := by omega
  have hc2 : ¬ 9223372036854775807 < sx.size + 1 + od.size := by omega
  have hc3 : ¬ 9223372036854775807 < sx.size + 1 + od.size + 1 := by omega
  have hc4 : ¬ 9223372036854775807 < sx.size + 1 + od.size + 1 + tx.size := by omega
  have hs10 : (⟨#[10]⟩ : ByteArray).size = 1 := rfl
  have hc5 : ¬ 9223372036854775807 < (sx ++ ⟨#[10]⟩ : ByteArray).size + od.size := by rw [ByteArray.size_append, hs10]; omega
  have hc6 : ¬ 9223372036854775807 < ((sx ++ ⟨#[10]⟩) ++ od : ByteArray).size + 1 := by rw [ByteArray.size_append, ByteArray.size_append, hs10]; omega
  have hc7 : ¬ 9223372036854775807 < (((sx ++ ⟨#[10]⟩) ++ od) ++ ⟨#[10]⟩ : ByteArray).size + tx.size := by rw [ByteArray.size_append, ByteArray.size_append, ByteArray.size_append, hs10]; omega
  clear hA9
  refine start_ (n := 14) (S := fun w' => w'.cell? ⟨ap.block, ap.off + 26, none⟩ = some (.string od)) (ds := []) #[false, false, false, false, false, false, false, false, false, false, false, false, false, false] (by kernel_rfl) rfl rfl (hld) (fun hHeld => ?_)
  refine pure_ (i := 0) (N := some 51) (v := ?_) (a' := ?_) #[true, false, false, false, false, false, false, false, false, false, false, false, false, false] rfl rfl (by kernel_rfl) (fun _ _ _ h => h) (Or.inl ⟨by rfl, ?_⟩) ?_ ?_
  rotate_left
  · intro w'
    go_simp
    with_reducible rfl
  rotate_left
  · simp only [Act.put, List.setIfInBounds_toArray, List.set_cons_zero, List.set_cons_succ, i64_w, i32_w]
    rfl
  refine pure_ (i := 1) (N := some 52) (v := ?_) (a' := ?_) #[true, true, false, false, false, false, false, false, false, false, false, false, false, false] rfl rfl (by kernel_rfl) (fun _ _ _ h => h) (Or.inl ⟨by rfl, ?_⟩) ?_ ?_
  rotate_left
  · intro w'
    go_simp
    with_reducible rfl
  rotate_left
  · simp only [Act.put, List.setIfInBounds_toArray, List.set_cons_zero, List.set_cons_succ, i64_w, i32_w]
    rfl
  refine pure_ (i := 2) (N := some 53) (v := ?_) (a' := ?_) #[true, true, true, false, false, false, false, false, false, false, false, false, false, false] rfl rfl (by kernel_rfl) (fun _ _ _ h => h) (Or.inl ⟨by rfl, ?_⟩) ?_ ?_
  rotate_left
  · intro w'
    go_simp
    with_reducible rfl
  rotate_left
  · simp only [Act.put, List.setIfInBounds_toArray, List.set_cons_zero, List.set_cons_succ, i64_w, i32_w]
    rfl
  refine pure_ (i := 3) (N := some 54) (v := ?_) (a' := ?_) #[true, true, true, true, false, false, false, false, false, false, false, false, false, false] rfl rfl (by kernel_rfl) (fun _ _ _ h => h) (Or.inl ⟨by rfl, ?_⟩) ?_ ?_
  rotate_left
  · intro w'
    go_simp
    with_reducible rfl
  rotate_left
  · simp only [Act.put, List.setIfInBounds_toArray, List.set_cons_zero, List.set_cons_succ, i64_w, i32_w]
    rfl
  refine pure_ (i := 4) (N := some 55) (v := ?_) (a' := ?_) #[true, true, true, true, true, false, false, false, false, false, false, false, false, false] rfl rfl (by kernel_rfl) (fun _ _ _ h => h) (Or.inl ⟨by rfl, ?_⟩) ?_ ?_
  rotate_left
  · intro w'
    go_simp
    with_reducible rfl
  rotate_left
  · simp only [Act.put, List.setIfInBounds_toArray, List.set_cons_zero, List.set_cons_succ, i64_w, i32_w]
    rfl
  refine pure_ (i := 8) (N := some 59) (v := ?_) (a' := ?_) #[true, true, true, true, true, false, false, false, true, false, false, false, false, false] rfl rfl (by kernel_rfl) (fun _ _ _ h => h) (Or.inl ⟨by rfl, ?_⟩) ?_ ?_
  rotate_left
  · intro w'
    go_simp
    with_reducible rfl
  rotate_left
  · simp only [Act.put, List.setIfInBounds_toArray, List.set_cons_zero, List.set_cons_succ, i64_w, i32_w]
    rfl
  refine pure_ (i := 9) (N := some 60) (v := ?_) (a' := ?_) #[true, true, true, true, true, false, false, false, true, true, false, false, false, false] rfl rfl (by kernel_rfl) (fun _ _ _ h => h) (Or.inl ⟨by rfl, ?_⟩) ?_ ?_
  rotate_left
  · intro w'
    go_simp
    with_reducible rfl
  rotate_left
  · simp only [Act.put, List.setIfInBounds_toArray, List.set_cons_zero, List.set_cons_succ, i64_w, i32_w]
    rfl
  refine pure_ (i := 10) (N := some 61) (v := ?_) (a' := ?_) #[true, true, true, true, true, false, false, false, true, true, true, false, false, false] rfl rfl (by kernel_rfl) (fun _ _ _ h => h) (Or.inl ⟨by rfl, ?_⟩) ?_ ?_
  rotate_left
  · intro w'
    go_simp
    with_reducible rfl
  rotate_left
  · simp only [Act.put, List.setIfInBounds_toArray, List.set_cons_zero, List.set_cons_succ, i64_w, i32_w]
    rfl
  refine take_ (i := 5) (N := some 56) (v := ?_) (a' := ?_) #[true, true, true, true, true, true, false, false, true, true, true, false, false, false] rfl rfl (by kernel_rfl) (fun _ _ _ h => h) (Or.inl ⟨by rfl, ?_⟩) hHeld ?_ ?_
  rotate_left
  · intro w' s0
    go_simp
    with_reducible rfl
  rotate_left
  · simp only [Act.put, List.setIfInBounds_toArray, List.set_cons_zero, List.set_cons_succ, i64_w, i32_w]
    rfl
  refine pure_ (i := 6) (N := some 57) (v := ?_) (a' := ?_) #[true, true, true, true, true, true, true, false, true, true, true, false, false, false] rfl rfl (by kernel_rfl) (fun _ _ _ h => h) (Or.inl ⟨by rfl, ?_⟩) ?_ ?_
  rotate_left
  · intro w'
    go_simp
    with_reducible rfl
  rotate_left
  · simp only [Act.put, List.setIfInBounds_toArray, List.set_cons_zero, List.set_cons_succ, i64_w, i32_w]
    rfl
  refine pure_ (i := 7) (N := some 58) (v := ?_) (a' := ?_) #[true, true, true, true, true, true, true, true, true, true, true, false, false, false] rfl rfl (by kernel_rfl) (fun _ _ _ h => h) (Or.inl ⟨by rfl, ?_⟩) ?_ ?_
  rotate_left
  · intro w'
    go_simp
    with_reducible rfl
  rotate_left
  · simp only [Act.put, List.setIfInBounds_toArray, List.set_cons_zero, List.set_cons_succ, i64_w, i32_w]
    rfl
  refine one_ (i := 11) (N := some 62) #[true, true, true, true, true, true, true, true, true, true, true, true, false, false] rfl rfl (by kernel_rfl) (by decide) (fun K hK => ?_)
  refine goes_ Tryd.func11 (by kernel_rfl) rfl #[.slice A9 (ws.length - k) (co - k)] (by rfl) rfl rfl (by simp only [List.map_toArray, List.map_cons, List.map_nil]; rfl) ?_
  with_reducible refine (join_n (ws.drop k) (ws.length - k) HDK.out A9 (co - k) tx _ (by repeat (first | exact HX.out | (with_reducible refine Kd.C_alloc ?_ _) | (with_reducible refine Kd.C_drewN ?_ _) | (with_reducible refine Kd.C_drew ?_))) hk2 HJ2.out).mono ?_
  rintro e W3 ⟨rfl, hb⟩
  refine ⟨_, rfl, ?_⟩
  (have m0_ := Aside0.mk (Kd.R_below (by (with_reducible repeat (first | apply Kd.R_alloc | apply Kd.R_drewN | apply Kd.R_drew)); exact HR.out) hb); have m1_ := Aside0.mk (Kd.R_below (by (with_reducible repeat (first | apply Kd.R_alloc | apply Kd.R_drewN | apply Kd.R_drew)); exact HP.out) hb); have m2_ := Aside0.mk (Kd.R_below (by (with_reducible repeat (first | apply Kd.R_alloc | apply Kd.R_drewN | apply Kd.R_drew)); exact HQ.out) hb); have n1_ := Aside0.mk (below_step (by repeat (first | exact HB.out | apply below_alloc | apply pw_below_drewN | apply below_drew1)) hb); clear HR HP HQ HB hb; have HR := m0_; have HP := m1_; have HQ := m2_; have HB := n1_; clear m0_ m1_ m2_ n1_)
  refine hK.out _ _ ((by obtain ⟨ap2, e2, h2⟩ := Kd.at_string (Kd.R_reads' HP.out).2.2 (26 : Int) (by omega) (by show (26 : Int) < (28 : Nat); omega); cases e2; rw [HOD.out] at h2; exact h2)) (fun hHeld => ?_)
  clear hK K
  refine norm_ (a' := ?_) ?_ ?_
  rotate_left
  · show Act.put _ (some 62) _ = _
    simp only [Act.put, List.setIfInBounds_toArray, List.set_cons_zero, List.set_cons_succ, i64_w, i32_w]
    rfl
  refine pure_ (i := 12) (N := some 63) (v := ?_) (a' := ?_) #[true, true, true, true, true, true, true, true, true, true, true, true, true, false] rfl rfl (by kernel_rfl) (fun _ _ _ h => h) (Or.inl ⟨by rfl, ?_⟩) ?_ ?_
  rotate_left
  · intro w'
    go_simp
    with_reducible rfl
  rotate_left
  · simp only [Act.put, List.setIfInBounds_toArray, List.set_cons_zero, List.set_cons_succ, i64_w, i32_w]
    rfl
  refine pure_ (i := 13) (N := some 14) (v := ?_) (a' := ?_) #[true, true, true, true, true, true, true, true, true, true, true, true, true, true] rfl rfl (by kernel_rfl) (fun _ _ _ h => h) (Or.inl ⟨by rfl, ?_⟩) ?_ ?_
  rotate_left
  · intro w'
    go_simp
    with_reducible rfl
  rotate_left
  · simp only [Act.put, List.setIfInBounds_toArray, List.set_cons_zero, List.set_cons_succ, i64_w, i32_w]
    rfl
  refine done_ (by kernel_rfl) ?_
  have hTT := HT.out
  obtain ⟨aq, eaq, hqd⟩ := Kd.at_int (Kd.R_reads' HQ.out).2.2 (2 : Int) (by decide) (by decide)
  subst eaq
  clear hqd
  clear hc1 hc2 hc3 hc4 hc5 hc6 hc7 hcut hld HX
  go_wp2_with (first | (go_at_call 8; (with_reducible refine (lex_Words.calls T [] ((sx.size : Int) + 1) 21 _ HW.out ?sideg).mono ?_); (case sideg => exact GV.below HG.out (by repeat (first | exact HB.out | apply below_alloc | apply pw_below_drewN | apply below_drew1))); rintro e w79 ⟨v39, rfl, ho, hb⟩; obtain ⟨Ax, cx, eo⟩ := Kd.R_slice ho; subst eo; clear ho; have m0_ := Aside0.mk (Kd.R_below (by (with_reducible repeat (first | apply Kd.R_alloc | apply Kd.R_drewN | apply Kd.R_drew)); exact HQ.out) hb); have n1_ := Aside0.mk (below_step (by repeat (first | exact HB.out | apply below_alloc | apply pw_below_drewN | apply below_drew1)) hb); obtain ⟨aq2, eaq2, hqd2⟩ := Kd.at_int (Kd.R_reads' m0_.out).2.2 (2 : Int) (by decide) (by decide); cases eaq2; replace hqd2 : World.cell? w79 ⟨aq.block, aq.off + 2, none⟩ = some (Value.int .i64 21) := hqd2; clear HQ HB hb; have HQ := m0_; have HB := n1_; clear m0_ n1_) | (go_at_call 9; (with_reducible refine (works_true _ (GV.below HG.out (by repeat (first | exact HB.out | apply below_alloc | apply pw_below_drewN | apply below_drew1)))).mono ?_); rintro e w99 ⟨rfl, hb⟩; have n1_ := Aside0.mk (below_step (by repeat (first | exact HB.out | apply below_alloc | apply pw_below_drewN | apply below_drew1)) hb); clear HB hb; have HB := n1_; clear n1_))
  go_ret
  exact ⟨rfl, HB.out⟩
set_option maxRecDepth 100000 in
set_option maxHeartbeats 6400000 in
theorem LexOdd_E27a (l : List S56) (A0 : Option Addr) (c0 : Nat) (at_ wh : Int) (w : World) (m : Nat) (hm2 : (if (40 : Int) < (l.length : Int) then (40 : Int) else (l.length : Int)) = (m : Int)) (hml : m ≤ l.length) (hlm : (l.take m).length = m) (hr0 : Kd.C k56 w A0 m (l.take m)) (hc0 : m ≤ c0) (hg : GV w) (K : Nat)
    (ws : List S28) (hws : ws.length ≤ 60) (hrow : signetrylaw03_row.f K (l.take m) = some ws) (k : Nat) (hk : k ≤ ws.length)  (hb1 : signetryref00_Bring.f at_ ((ws.length : Int) + 1) = some (k : Int)) (hb2 : signetryref00_Bring.f wh 28 = some 27)
    (sx tx od T : ByteArray) (hj1 : lex_Join.f (ws.take k) = some sx) (hj2 : lex_Join.f (ws.drop k) = some tx) (hod : rdOf ByteArray.empty oddL 27 = od) (hT : (((sx ++ ⟨#[10]⟩) ++ od) ++ ⟨#[10]⟩) ++ tx = T) (hsx : sx.size ≤ 20000) (htx : tx.size ≤ 20000) (hos : od.size ≤ 100)
    (out : List S28) (hw : lex_Words.f T = some (out, (sx.size : Int) + 1, 30)) :
    Calls Tryd.prog 7 #[.slice A0 l.length c0, .int .i64 at_, .int .i64 wh] w fun e w' => e = .returned (.bool true) ∧ Below w.heap.size w w' := by
  have HR0 := Aside0.mk hr0
  have HC0 := Aside0.mk hc0
  have HLM := Aside0.mk hlm
  have HG := Aside0.mk hg
  have HB := Aside0.mk (Below.refl w.heap.size w)
  have HROW := Aside0.mk hrow
  have HB1 := Aside0.mk hb1
  have HB2 := Aside0.mk hb2
  have HJ1 := Aside0.mk hj1
  have HJ2 := Aside0.mk hj2
  have HOD := Aside0.mk hod
  have HT := Aside0.mk hT
  have HW := Aside0.mk hw
  have HTK : Aside0 ((ws.take k).length = k) := ⟨by rw [List.length_take]; omega⟩
  have HDK : Aside0 ((ws.drop k).length = ws.length - k) := ⟨List.length_drop⟩
  have hm0 : (0 : Int) ≤ (m : Int) := by omega
  have hm1 : (m : Int) ≤ (c0 : Int) := by omega
  have hm3 : (m : Int) ≤ (l.length : Int) := by omega
  have d1 : (0 : Int) ≤ (k : Int) := by omega
  have d2 : (k : Int) ≤ (ws.length : Int) := by omega
  clear hr0 hc0 hg hrow hb1 hb2 hj1 hj2 hod hT hw hlm
  go_enter Tryd.func7, Tryd.ntmps7
  go_upto_region 12 with (first | (go_at_call 14; (with_reducible refine (row_n K A0 c0 (l.take m) m HLM.out ws _ ?side1 ?side2 HROW.out).mono ?_); (case side1 => exact Kd.C_below HR0.out (by repeat (first | exact HB.out | apply below_alloc | apply pw_below_drewN | apply below_drew1))); (case side2 => exact HC0.out); rintro e w19 ⟨v19, rfl, ho, hb⟩; obtain ⟨Ao, co, eo⟩ := Kd.R_slice ho; subst eo; have hco := (Kd.R_reads' ho).2.1; have d4 : (k : Int) ≤ (co : Int) := (by omega); have hk1 : k ≤ co := (by omega); have n0_ := Aside0.mk (Kd.R_lower ho (below_size (by repeat (first | exact HB.out | apply below_alloc | apply pw_below_drewN | apply below_drew1)))); have n1_ := Aside0.mk (below_step (by repeat (first | exact HB.out | apply below_alloc | apply pw_below_drewN | apply below_drew1)) hb); clear HB ho hb; have HB := n1_; have HR := n0_; clear n1_ n0_) | ((with_reducible refine gate_dst (N := 29) rfl ?_); refine Kd.R_lit Kd.string _ 9 ?hg (N := 29) ?hd (xs := oddL) (inner := [.string (⟨#[35]⟩ : ByteArray), .string (⟨#[47]⟩ : ByteArray), .string (⟨#[42]⟩ : ByteArray), .string (⟨#[43]⟩ : ByteArray), .string (⟨#[63]⟩ : ByteArray), .string (⟨#[64]⟩ : ByteArray), .string (⟨#[36]⟩ : ByteArray), .string (⟨#[92]⟩ : ByteArray), .string (⟨#[0]⟩ : ByteArray), .string (⟨#[127]⟩ : ByteArray), .string (⟨#[255]⟩ : ByteArray), .string (⟨#[58]⟩ : ByteArray), .string (⟨#[33]⟩ : ByteArray), .string (⟨#[37]⟩ : ByteArray), .string (⟨#[38]⟩ : ByteArray), .string (⟨#[124]⟩ : ByteArray), .string (⟨#[94]⟩ : ByteArray), .string (⟨#[126]⟩ : ByteArray), .string (⟨#[48, 57]⟩ : ByteArray), .string (⟨#[48, 120]⟩ : ByteArray), .string (⟨#[48, 120, 103]⟩ : ByteArray), .string (⟨#[55, 97]⟩ : ByteArray), .string (⟨#[97, 98, 99, 100, 101, 102, 103, 104, 105, 106, 107, 108, 109, 110, 111, 112, 113, 114, 115, 116, 117, 118, 119, 120, 121, 122, 97, 98, 99, 100, 101, 102, 103]⟩ : ByteArray), .string (⟨#[50, 49, 52, 55, 52, 56, 51, 54, 52, 57]⟩ : ByteArray), .string (⟨#[48, 50, 48, 48, 48, 48, 48, 48, 48, 48, 48, 49]⟩ : ByteArray), .string (⟨#[39, 97]⟩ : ByteArray), .string (⟨#[34, 92, 113, 34]⟩ : ByteArray), .string (⟨#[47, 42, 32, 97]⟩ : ByteArray)]) (ok := fun _ => True) (okp := fun _ => True) ?hr ?hp (fun _ hk => hk) trivial (Below.refl _ _) (Nat.le_refl _) (by simp [oddL]) ?_; (case hd => rfl); (case hg => rfl); (case hr => first | (go_simp; done) | (go_simp; rfl)); (case hp => exact (Reps.one (show Kd.M Kd.string _ _ _ (⟨#[35]⟩ : ByteArray) [.string (⟨#[35]⟩ : ByteArray)] from rfl) (Reps.one (show Kd.M Kd.string _ _ _ (⟨#[47]⟩ : ByteArray) [.string (⟨#[47]⟩ : ByteArray)] from rfl) (Reps.one (show Kd.M Kd.string _ _ _ (⟨#[42]⟩ : ByteArray) [.string (⟨#[42]⟩ : ByteArray)] from rfl) (Reps.one (show Kd.M Kd.string _ _ _ (⟨#[43]⟩ : ByteArray) [.string (⟨#[43]⟩ : ByteArray)] from rfl) (Reps.one (show Kd.M Kd.string _ _ _ (⟨#[63]⟩ : ByteArray) [.string (⟨#[63]⟩ : ByteArray)] from rfl) (Reps.one (show Kd.M Kd.string _ _ _ (⟨#[64]⟩ : ByteArray) [.string (⟨#[64]⟩ : ByteArray)] from rfl) (Reps.one (show Kd.M Kd.string _ _ _ (⟨#[36]⟩ : ByteArray) [.string (⟨#[36]⟩ : ByteArray)] from rfl) (Reps.one (show Kd.M Kd.string _ _ _ (⟨#[92]⟩ : ByteArray) [.string (⟨#[92]⟩ : ByteArray)] from rfl) (Reps.one (show Kd.M Kd.string _ _ _ (⟨#[0]⟩ : ByteArray) [.string (⟨#[0]⟩ : ByteArray)] from rfl) (Reps.one (show Kd.M Kd.string _ _ _ (⟨#[127]⟩ : ByteArray) [.string (⟨#[127]⟩ : ByteArray)] from rfl) (Reps.one (show Kd.M Kd.string _ _ _ (⟨#[255]⟩ : ByteArray) [.string (⟨#[255]⟩ : ByteArray)] from rfl) (Reps.one (show Kd.M Kd.string _ _ _ (⟨#[58]⟩ : ByteArray) [.string (⟨#[58]⟩ : ByteArray)] from rfl) (Reps.one (show Kd.M Kd.string _ _ _ (⟨#[33]⟩ : ByteArray) [.string (⟨#[33]⟩ : ByteArray)] from rfl) (Reps.one (show Kd.M Kd.string _ _ _ (⟨#[37]⟩ : ByteArray) [.string (⟨#[37]⟩ : ByteArray)] from rfl) (Reps.one (show Kd.M Kd.string _ _ _ (⟨#[38]⟩ : ByteArray) [.string (⟨#[38]⟩ : ByteArray)] from rfl) (Reps.one (show Kd.M Kd.string _ _ _ (⟨#[124]⟩ : ByteArray) [.string (⟨#[124]⟩ : ByteArray)] from rfl) (Reps.one (show Kd.M Kd.string _ _ _ (⟨#[94]⟩ : ByteArray) [.string (⟨#[94]⟩ : ByteArray)] from rfl) (Reps.one (show Kd.M Kd.string _ _ _ (⟨#[126]⟩ : ByteArray) [.string (⟨#[126]⟩ : ByteArray)] from rfl) (Reps.one (show Kd.M Kd.string _ _ _ (⟨#[48, 57]⟩ : ByteArray) [.string (⟨#[48, 57]⟩ : ByteArray)] from rfl) (Reps.one (show Kd.M Kd.string _ _ _ (⟨#[48, 120]⟩ : ByteArray) [.string (⟨#[48, 120]⟩ : ByteArray)] from rfl) (Reps.one (show Kd.M Kd.string _ _ _ (⟨#[48, 120, 103]⟩ : ByteArray) [.string (⟨#[48, 120, 103]⟩ : ByteArray)] from rfl) (Reps.one (show Kd.M Kd.string _ _ _ (⟨#[55, 97]⟩ : ByteArray) [.string (⟨#[55, 97]⟩ : ByteArray)] from rfl) (Reps.one (show Kd.M Kd.string _ _ _ (⟨#[97, 98, 99, 100, 101, 102, 103, 104, 105, 106, 107, 108, 109, 110, 111, 112, 113, 114, 115, 116, 117, 118, 119, 120, 121, 122, 97, 98, 99, 100, 101, 102, 103]⟩ : ByteArray) [.string (⟨#[97, 98, 99, 100, 101, 102, 103, 104, 105, 106, 107, 108, 109, 110, 111, 112, 113, 114, 115, 116, 117, 118, 119, 120, 121, 122, 97, 98, 99, 100, 101, 102, 103]⟩ : ByteArray)] from rfl) (Reps.one (show Kd.M Kd.string _ _ _ (⟨#[50, 49, 52, 55, 52, 56, 51, 54, 52, 57]⟩ : ByteArray) [.string (⟨#[50, 49, 52, 55, 52, 56, 51, 54, 52, 57]⟩ : ByteArray)] from rfl) (Reps.one (show Kd.M Kd.string _ _ _ (⟨#[48, 50, 48, 48, 48, 48, 48, 48, 48, 48, 48, 49]⟩ : ByteArray) [.string (⟨#[48, 50, 48, 48, 48, 48, 48, 48, 48, 48, 48, 49]⟩ : ByteArray)] from rfl) (Reps.one (show Kd.M Kd.string _ _ _ (⟨#[39, 97]⟩ : ByteArray) [.string (⟨#[39, 97]⟩ : ByteArray)] from rfl) (Reps.one (show Kd.M Kd.string _ _ _ (⟨#[34, 92, 113, 34]⟩ : ByteArray) [.string (⟨#[34, 92, 113, 34]⟩ : ByteArray)] from rfl) (Reps.one (show Kd.M Kd.string _ _ _ (⟨#[47, 42, 32, 97]⟩ : ByteArray) [.string (⟨#[47, 42, 32, 97]⟩ : ByteArray)] from rfl) (Reps.none _ _)))))))))))))))))))))))))))))); intro v29 w29 ho hb hg_ hnew_; clear hg_ hnew_; obtain ⟨Ap, cAp, ep⟩ := Kd.R_slice ho; rw [show oddL.length = 28 from rfl] at ep; subst ep; have n3_ := Aside0.mk (Kd.R_lower ho (below_size (by repeat (first | exact HB.out | apply below_alloc | apply pw_below_drewN | apply below_drew1)))); clear ho; have m0_ := Aside0.mk (Kd.R_below (by (with_reducible repeat (first | apply Kd.R_alloc | apply Kd.R_drewN | apply Kd.R_drew)); exact HR.out) hb); have n1_ := Aside0.mk (below_step (by repeat (first | exact HB.out | apply below_alloc | apply pw_below_drewN | apply below_drew1)) hb); clear HR HB hb; have HR := m0_; have HB := n1_; clear m0_ n1_; have HP := n3_; clear n3_) | ((with_reducible refine gate_dst (N := 30) rfl ?_); refine Kd.R_lit (Kd.int .i64) _ 23 ?hg (N := 30) ?hd (xs := wantL) (inner := [.int .i64 30, .int .i64 9, .int .i64 21]) (ok := fun _ => True) (okp := fun _ => True) ?hr ?hp (fun _ hk => hk) trivial (Below.refl _ _) (Nat.le_refl _) (by simp [wantL]) ?_; (case hd => rfl); (case hg => rfl); (case hr => first | (go_simp; done) | (go_simp; rfl)); (case hp => exact (Reps.one (show Kd.M (Kd.int .i64) _ _ _ (30 : Int) [.int .i64 30] from rfl) (Reps.one (show Kd.M (Kd.int .i64) _ _ _ (9 : Int) [.int .i64 9] from rfl) (Reps.one (show Kd.M (Kd.int .i64) _ _ _ (21 : Int) [.int .i64 21] from rfl) (Reps.none _ _))))); intro v29 w29 ho hb hg_ hnew_; clear hg_ hnew_; obtain ⟨Aq, cAq, ep⟩ := Kd.R_slice ho; rw [show wantL.length = 3 from rfl] at ep; subst ep; have n3_ := Aside0.mk (Kd.R_lower ho (below_size (by repeat (first | exact HB.out | apply below_alloc | apply pw_below_drewN | apply below_drew1)))); clear ho; have m0_ := Aside0.mk (Kd.R_below (by (with_reducible repeat (first | apply Kd.R_alloc | apply Kd.R_drewN | apply Kd.R_drew)); exact HR.out) hb); have m1_ := Aside0.mk (Kd.R_below (by (with_reducible repeat (first | apply Kd.R_alloc | apply Kd.R_drewN | apply Kd.R_drew)); exact HP.out) hb); have n1_ := Aside0.mk (below_step (by repeat (first | exact HB.out | apply below_alloc | apply pw_below_drewN | apply below_drew1)) hb); clear HR HP HB hb; have HR := m0_; have HP := m1_; have HB := n1_; clear m0_ m1_ n1_; have HQ := n3_; clear n3_) | (go_at_call_of 10 (Value.int .i64 at_); (with_reducible refine (signetryref00_Bring.calls at_ ((ws.length : Int) + 1) (k : Int) _ HB1.out).mono ?_); rintro e w59 ⟨rfl, ⟨nd, rfl⟩⟩) | (go_at_call_of 10 (Value.int .i64 wh); (with_reducible refine (signetryref00_Bring.calls wh 28 (27 : Int) _ HB2.out).mono ?_); rintro e w69 ⟨rfl, ⟨nd2, rfl⟩⟩) | (go_at_call 11; refine (join_n (ws.take k) k HTK.out _ _ sx _ ?side1 ?side2 HJ1.out).mono ?_; (case side1 => exact take_c (by repeat (first | exact (Kd.R_reads' HR.out).2.2 | (with_reducible refine Kd.C_alloc ?_ _) | (with_reducible refine Kd.C_drewN ?_ _) | (with_reducible refine Kd.C_drew ?_))) hk); (case side2 => exact hk1); rintro e w49 ⟨rfl, hb⟩; have m0_ := Aside0.mk (Kd.R_below (by (with_reducible repeat (first | apply Kd.R_alloc | apply Kd.R_drewN | apply Kd.R_drew)); exact HR.out) hb); have m1_ := Aside0.mk (Kd.R_below (by (with_reducible repeat (first | apply Kd.R_alloc | apply Kd.R_drewN | apply Kd.R_drew)); exact HP.out) hb); have m2_ := Aside0.mk (Kd.R_below (by (with_reducible repeat (first | apply Kd.R_alloc | apply Kd.R_drewN | apply Kd.R_drew)); exact HQ.out) hb); have n1_ := Aside0.mk (below_step (by repeat (first | exact HB.out | apply below_alloc | apply pw_below_drewN | apply below_drew1)) hb); clear HR HP HQ HB hb; have HR := m0_; have HP := m1_; have HQ := m2_; have HB := n1_; clear m0_ m1_ m2_ n1_))
  obtain ⟨ap, eap, hld⟩ := Kd.at_string (Kd.R_reads' HP.out).2.2 (27 : Int) (by omega) (by show (27 : Int) < (28 : Nat); omega)
  subst eap
  rw [HOD.out] at hld
  replace hld : World.cell? _ ⟨ap.block, ap.off + 27, none⟩ = some (.string od) := hld
  obtain ⟨A9, hA9⟩ : ∃ A9, A9 = (if co = k then Ao else Ao.map (·.add (k * 4))) := ⟨_, rfl⟩
  have HX : Aside0 (Kd.C k28 _ A9 (ws.length - k) (ws.drop k)) := ⟨by rw [hA9]; exact drop_c (Kd.R_reads' HR.out).2.2 hk hco⟩
  have hcut := words_from Ao ws.length co k hk hco A9 hA9
  have hk2 : ws.length - k ≤ co - k := by omega
  have hc1 : ¬ 9223372036854775807 < sx.size + 1 := by omega
  have hc2 : ¬ 9223372036854775807 < sx.size + 1 + od.size := by omega
  have hc3 : ¬ 9223372036854775807 < sx.size + 1 + od.size + 1 := by omega
  have hc4 : ¬ 9223372036854775807 < sx.size + 1 + od.size + 1 + tx.size := by omega
  have hs10 : (⟨#[10]⟩ : ByteArray).size = 1 := rfl
  have hc5 : ¬ 9223372036854775807 < (sx ++ ⟨#[10]⟩ : ByteArray).size + od.size := by rw [ByteArray.size_append, hs10]; omega
  have hc6 : ¬ 9223372036854775807 < ((sx ++ ⟨#[10]⟩) ++ od : ByteArray).size + 1 := by rw [ByteArray.size_append, ByteArray.size_append, hs10]; omega
  have hc7 : ¬ 9223372036854775807 < (((sx ++ ⟨#[10]⟩) ++ od) ++ ⟨#[10]⟩ : ByteArray).size + tx.size := by rw [ByteArray.size_append, ByteArray.size_append, ByteArray.size_append, hs10]; omega
  clear hA9
  refine start_ (n := 14) (S := fun w' => w'.cell? ⟨ap.block, ap.off + 27, none⟩ = some (.string od)) (ds := []) #[false, false, false, false, false, false, false, false, false, false, false, false, false, false] (by kernel_rfl) rfl rfl (hld) (fun hHeld => ?_)
  refine pure_ (i := 0) (N := some 51) (v := ?_) (a' := ?_) #[true, false, false, false, false, false, false, false, false, false, false, false, false, false] rfl rfl (by kernel_rfl) (fun _ _ _ h => h) (Or.inl ⟨by rfl, ?_⟩) ?_ ?_
  rotate_left
  · intro w'
    go_simp
    with_reducible rfl
  rotate_left
  · simp only [Act.put, List.setIfInBounds_toArray, List.set_cons_zero, List.set_cons_succ, i64_w, i32_w]
    rfl
  refine pure_ (i := 1) (N := some 52) (v := ?_) (a' := ?_) #[true, true, false, false, false, false, false, false, false, false, false, false, false, false] rfl rfl (by kernel_rfl) (fun _ _ _ h => h) (Or.inl ⟨by rfl, ?_⟩) ?_ ?_
  rotate_left
  · intro w'
    go_simp
    with_reducible rfl
  rotate_left
  · simp only [Act.put, List.setIfInBounds_toArray, List.set_cons_zero, List.set_cons_succ, i64_w, i32_w]
    rfl
  refine pure_ (i := 2) (N := some 53) (v := ?_) (a' := ?_) #[true, true, true, false, false, false, false, false, false, false, false, false, false, false] rfl rfl (by kernel_rfl) (fun _ _ _ h => h) (Or.inl ⟨by rfl, ?_⟩) ?_ ?_
  rotate_left
  · intro w'
    go_simp
    with_reducible rfl
  rotate_left
  · simp only [Act.put, List.setIfInBounds_toArray, List.set_cons_zero, List.set_cons_succ, i64_w, i32_w]
    rfl
  refine pure_ (i := 3) (N := some 54) (v := ?_) (a' := ?_) #[true, true, true, true, false, false, false, false, false, false, false, false, false, false] rfl rfl (by kernel_rfl) (fun _ _ _ h => h) (Or.inl ⟨by rfl, ?_⟩) ?_ ?_
  rotate_left
  · intro w'
    go_simp
    with_reducible rfl
  rotate_left
  · simp only [Act.put, List.setIfInBounds_toArray, List.set_cons_zero, List.set_cons_succ, i64_w, i32_w]
    rfl
  refine pure_ (i := 4) (N := some 55) (v := ?_) (a' := ?_) #[true, true, true, true, true, false, false, false, false, false, false, false, false, false] rfl rfl (by kernel_rfl) (fun _ _ _ h => h) (Or.inl ⟨by rfl, ?_⟩) ?_ ?_
  rotate_left
  · intro w'
    go_simp
    with_reducible rfl
  rotate_left
  · simp only [Act.put, List.setIfInBounds_toArray, List.set_cons_zero, List.set_cons_succ, i64_w, i32_w]
    rfl
  refine pure_ (i := 8) (N := some 59) (v := ?_) (a' := ?_) #[true, true, true, true, true, false, false, false, true, false, false, false, false, false] rfl rfl (by kernel_rfl) (fun _ _ _ h => h) (Or.inl ⟨by rfl, ?_⟩) ?_ ?_
  rotate_left
  · intro w'
    go_simp
    with_reducible rfl
  rotate_left
  · simp only [Act.put, List.setIfInBounds_toArray, List.set_cons_zero, List.set_cons_succ, i64_w, i32_w]
    rfl
  refine pure_ (i := 9) (N := some 60) (v := ?_) (a' := ?_) #[true, true, true, true, true, false, false, false, true, true, false, false, false, false] rfl rfl (by kernel_rfl) (fun _ _ _ h => h) (Or.inl ⟨by rfl, ?_⟩) ?_ ?_
  rotate_left
  · intro w'
    go_simp
    with_reducible rfl
  rotate_left
  · simp only [Act.put, List.setIfInBounds_toArray, List.set_cons_zero, List.set_cons_succ, i64_w, i32_w]
    rfl
  refine pure_ (i := 10) (N := some 61) (v := ?_) (a' := ?_) #[true, true, true, true, true, false, false, false, true, true, true, false, false, false] rfl rfl (by kernel_rfl) (fun _ _ _ h => h) (Or.inl ⟨by rfl, ?_⟩) ?_ ?_
  rotate_left
  · intro w'
    go_simp
    with_reducible rfl
  rotate_left
  · simp only [Act.put, List.setIfInBounds_toArray, List.set_cons_zero, List.set_cons_succ, i64_w, i32_w]
    rfl
  refine take_ (i := 5) (N := some 56) (v := ?_) (a' := ?_) #[true, true, true, true, true, true, false, false, true, true, true, false, false, false] rfl rfl (by kernel_rfl) (fun _ _ _ h => h) (Or.inl ⟨by rfl, ?_⟩) hHeld ?_ ?_
  rotate_left
  · intro w' s0
    go_simp
    with_reducible rfl
  rotate_left
  · simp only [Act.put, List.setIfInBounds_toArray, List.set_cons_zero, List.set_cons_succ, i64_w, i32_w]
    rfl
  refine pure_ (i := 6) (N := some 57) (v := ?_) (a' := ?_) #[true, true, true, true, true, true, true, false, true, true, true, false, false, false] rfl rfl (by kernel_rfl) (fun _ _ _ h => h) (Or.inl ⟨by rfl, ?_⟩) ?_ ?_
  rotate_left
  · intro w'
    go_simp
    with_reducible rfl
  rotate_left
  · simp only [Act.put, List.setIfInBounds_toArray, List.set_cons_zero, List.set_cons_succ, i64_w, i32_w]
    rfl
  refine pure_ (i := 7) (N := some 58) (v := ?_) (a' := ?_) #[true, true, true, true, true, true, true, true, true, true, true, false, false, false] rfl rfl (by kernel_rfl) (fun _ _ _ h => h) (Or.inl ⟨by rfl, ?_⟩) ?_ ?_
  rotate_left
  · intro w'
    go_simp
    with_reducible rfl
  rotate_left
  · simp only [Act.put, List.setIfInBounds_toArray, List.set_cons_zero, List.set_cons_succ, i64_w, i32_w]
    rfl
  refine one_ (i := 11) (N := some 62) #[true, true, true, true, true, true, true, true, true, true, true, true, false, false] rfl rfl (by kernel_rfl) (by decide) (fun K hK => ?_)
  refine goes_ Tryd.func11 (by kernel_rfl) rfl #[.slice A9 (ws.length - k) (co - k)] (by rfl) rfl rfl (by simp only [List.map_toArray, List.map_cons, List.map_nil]; rfl) ?_
  with_reducible refine (join_n (ws.drop k) (ws.length - k) HDK.out A9 (co - k) tx _ (by repeat (first | exact HX.out | (with_reducible refine Kd.C_alloc ?_ _) | (with_reducible refine Kd.C_drewN ?_ _) | (with_reducible refine Kd.C_drew ?_))) hk2 HJ2.out).mono ?_
  rintro e W3 ⟨rfl, hb⟩
  refine ⟨_, rfl, ?_⟩
  (have m0_ := Aside0.mk (Kd.R_below (by (with_reducible repeat (first | apply Kd.R_alloc | apply Kd.R_drewN | apply Kd.R_drew)); exact HR.out) hb); have m1_ := Aside0.mk (Kd.R_below (by (with_reducible repeat (first | apply Kd.R_alloc | apply Kd.R_drewN | apply Kd.R_drew)); exact HP.out) hb); have m2_ := Aside0.mk (Kd.R_below (by (with_reducible repeat (first | apply Kd.R_alloc | apply Kd.R_drewN | apply Kd.R_drew)); exact HQ.out) hb); have n1_ := Aside0.mk (below_step (by repeat (first | exact HB.out | apply below_alloc | apply pw_below_drewN | apply below_drew1)) hb); clear HR HP HQ HB hb; have HR := m0_; have HP := m1_; have HQ := m2_; have HB := n1_; clear m0_ m1_ m2_ n1_)
  refine hK.out _ _ ((by obtain ⟨ap2, e2, h2⟩ := Kd.at_string (Kd.R_reads' HP.out).2.2 (27 : Int) (by omega) (by show (27 : Int) < (28 : Nat); omega); cases e2; rw [HOD.out] at h2; exact h2)) (fun hHeld => ?_)
  clear hK K
  refine norm_ (a' := ?_) ?_ ?_
  rotate_left
  · show Act.put _ (some 62) _ = _
    simp only [Act.put, List.setIfInBounds_toArray, List.set_cons_zero, List.set_cons_succ, i64_w, i32_w]
    rfl
  refine pure_ (i := 12) (N := some 63) (v := ?_) (a' := ?_) #[true, true, true, true, true, true, true, true, true, true, true, true, true, false] rfl rfl (by kernel_rfl) (fun _ _ _ h => h) (Or.inl ⟨by rfl, ?_⟩) ?_ ?_
  rotate_left
  · intro w'
    go_simp
    with_reducible rfl
  rotate_left
  · simp only [Act.put, List.setIfInBounds_toArray, List.set_cons_zero, List.set_cons_succ, i64_w, i32_w]
    rfl
  refine pure_ (i := 13) (N := some 14) (v := ?_) (a' := ?_) #[true, true, true, true, true, true, true, true, true, true, true, true, true, true] rfl rfl (by kernel_rfl) (fun _ _ _ h => h) (Or.inl ⟨by rfl, ?_⟩) ?_ ?_
  rotate_left
  · intro w'
    go_simp
    with_reducible rfl
  rotate_left
  · simp only [Act.put, List.setIfInBounds_toArray, List.set_cons_zero, List.set_cons_succ, i64_w, i32_w]
    rfl
  refine done_ (by kernel_rfl) ?_
  have hTT := HT.out
  clear hc1 hc2 hc3 hc4 hc5 hc6 hc7 hcut hld HX
  go_wp2_with (first | (go_at_call 8; (with_reducible refine (lex_Words.calls T out ((sx.size : Int) + 1) 30 _ HW.out ?sideg).mono ?_); (case sideg => exact GV.below HG.out (by repeat (first | exact HB.out | apply below_alloc | apply pw_below_drewN | apply below_drew1))); rintro e w79 ⟨v39, rfl, ho, hb⟩; obtain ⟨Ax, cx, eo⟩ := Kd.R_slice ho; subst eo; clear ho; have m0_ := Aside0.mk (Kd.R_below (by (with_reducible repeat (first | apply Kd.R_alloc | apply Kd.R_drewN | apply Kd.R_drew)); exact HQ.out) hb); have n1_ := Aside0.mk (below_step (by repeat (first | exact HB.out | apply below_alloc | apply pw_below_drewN | apply below_drew1)) hb); clear HQ HB hb; have HQ := m0_; have HB := n1_; clear m0_ n1_) | (go_at_call 9; (with_reducible refine (works_true _ (GV.below HG.out (by repeat (first | exact HB.out | apply below_alloc | apply pw_below_drewN | apply below_drew1)))).mono ?_); rintro e w99 ⟨rfl, hb⟩; have n1_ := Aside0.mk (below_step (by repeat (first | exact HB.out | apply below_alloc | apply pw_below_drewN | apply below_drew1)) hb); clear HB hb; have HB := n1_; clear n1_))
  go_ret
  exact ⟨rfl, HB.out⟩
set_option maxRecDepth 100000 in
set_option maxHeartbeats 6400000 in
theorem LexOdd_E27b (l : List S56) (A0 : Option Addr) (c0 : Nat) (at_ wh : Int) (w : World) (m : Nat) (hm2 : (if (40 : Int) < (l.length : Int) then (40 : Int) else (l.length : Int)) = (m : Int)) (hml : m ≤ l.length) (hlm : (l.take m).length = m) (hr0 : Kd.C k56 w A0 m (l.take m)) (hc0 : m ≤ c0) (hg : GV w) (K : Nat)
    (ws : List S28) (hws : ws.length ≤ 60) (hrow : signetrylaw03_row.f K (l.take m) = some ws) (k : Nat) (hk : k ≤ ws.length)  (hb1 : signetryref00_Bring.f at_ ((ws.length : Int) + 1) = some (k : Int)) (hb2 : signetryref00_Bring.f wh 28 = some 27)
    (sx tx od T : ByteArray) (hj1 : lex_Join.f (ws.take k) = some sx) (hj2 : lex_Join.f (ws.drop k) = some tx) (hod : rdOf ByteArray.empty oddL 27 = od) (hT : (((sx ++ ⟨#[10]⟩) ++ od) ++ ⟨#[10]⟩) ++ tx = T) (hsx : sx.size ≤ 20000) (htx : tx.size ≤ 20000) (hos : od.size ≤ 100)
    (out : List S28) (pl : Int) (hpl : pl ≠ (sx.size : Int) + 1) (hct : strings_Contains.f (T.extract (sx.size + 1) T.size) ⟨#[42, 47]⟩ = some true) (hw : lex_Words.f T = some (out, pl, 30)) :
    Calls Tryd.prog 7 #[.slice A0 l.length c0, .int .i64 at_, .int .i64 wh] w fun e w' => e = .returned (.bool true) ∧ Below w.heap.size w w' := by
  have HR0 := Aside0.mk hr0
  have HC0 := Aside0.mk hc0
  have HLM := Aside0.mk hlm
  have HG := Aside0.mk hg
  have HB := Aside0.mk (Below.refl w.heap.size w)
  have HROW := Aside0.mk hrow
  have HB1 := Aside0.mk hb1
  have HB2 := Aside0.mk hb2
  have HJ1 := Aside0.mk hj1
  have HJ2 := Aside0.mk hj2
  have HOD := Aside0.mk hod
  have HT := Aside0.mk hT
  have HW := Aside0.mk hw
  have HTK : Aside0 ((ws.take k).length = k) := ⟨by rw [List.length_take]; omega⟩
  have HDK : Aside0 ((ws.drop k).length = ws.length - k) := ⟨List.length_drop⟩
  have hm0 : (0 : Int) ≤ (m : Int) := by omega
  have hm1 : (m : Int) ≤ (c0 : Int) := by omega
  have hm3 : (m : Int) ≤ (l.length : Int) := by omega
  have d1 : (0 : Int) ≤ (k : Int) := by omega
  have d2 : (k : Int) ≤ (ws.length : Int) := by omega
  have p0 : (pl == (sx.size : Int) + 1) = false := by simpa using hpl
  clear hr0 hc0 hg hrow hb1 hb2 hj1 hj2 hod hT hw hlm
  go_enter Tryd.func7, Tryd.ntmps7
  go_upto_region 12 with (first | (go_at_call 14; (with_reducible refine (row_n K A0 c0 (l.take m) m HLM.out ws _ ?side1 ?side2 HROW.out).mono ?_); (case side1 => exact Kd.C_below HR0.out (by repeat (first | exact HB.out | apply below_alloc | apply pw_below_drewN | apply below_drew1))); (case side2 => exact HC0.out); rintro e w19 ⟨v19, rfl, ho, hb⟩; obtain ⟨Ao, co, eo⟩ := Kd.R_slice ho; subst eo; have hco := (Kd.R_reads' ho).2.1; have d4 : (k : Int) ≤ (co : Int) := (by omega); have hk1 : k ≤ co := (by omega); have n0_ := Aside0.mk (Kd.R_lower ho (below_size (by repeat (first | exact HB.out | apply below_alloc | apply pw_below_drewN | apply below_drew1)))); have n1_ := Aside0.mk (below_step (by repeat (first | exact HB.out | apply below_alloc | apply pw_below_drewN | apply below_drew1)) hb); clear HB ho hb; have HB := n1_; have HR := n0_; clear n1_ n0_) | ((with_reducible refine gate_dst (N := 29) rfl ?_); refine Kd.R_lit Kd.string _ 9 ?hg (N := 29) ?hd (xs := oddL) (inner := [.string (⟨#[35]⟩ : ByteArray), .string (⟨#[47]⟩ : ByteArray), .string (⟨#[42]⟩ : ByteArray), .string (⟨#[43]⟩ : ByteArray), .string (⟨#[63]⟩ : ByteArray), .string (⟨#[64]⟩ : ByteArray), .string (⟨#[36]⟩ : ByteArray), .string (⟨#[92]⟩ : ByteArray), .string (⟨#[0]⟩ : ByteArray), .string (⟨#[127]⟩ : ByteArray), .string (⟨#[255]⟩ : ByteArray), .string (⟨#[58]⟩ : ByteArray), .string (⟨#[33]⟩ : ByteArray), .string (⟨#[37]⟩ : ByteArray), .string (⟨#[38]⟩ : ByteArray), .string (⟨#[124]⟩ : ByteArray), .string (⟨#[94]⟩ : ByteArray), .string (⟨#[126]⟩ : ByteArray), .string (⟨#[48, 57]⟩ : ByteArray), .string (⟨#[48, 120]⟩ : ByteArray), .string (⟨#[48, 120, 103]⟩ : ByteArray), .string (⟨#[55, 97]⟩ : ByteArray), .string (⟨#[97, 98, 99, 100, 101, 102, 103, 104, 105, 106, 107, 108, 109, 110, 111, 112, 113, 114, 115, 116, 117, 118, 119, 120, 121, 122, 97, 98, 99, 100, 101, 102, 103]⟩ : ByteArray), .string (⟨#[50, 49, 52, 55, 52, 56, 51, 54, 52, 57]⟩ : ByteArray), .string (⟨#[48, 50, 48, 48, 48, 48, 48, 48, 48, 48, 48, 49]⟩ : ByteArray), .string (⟨#[39, 97]⟩ : ByteArray), .string (⟨#[34, 92, 113, 34]⟩ : ByteArray), .string (⟨#[47, 42, 32, 97]⟩ : ByteArray)]) (ok := fun _ => True) (okp := fun _ => True) ?hr ?hp (fun _ hk => hk) trivial (Below.refl _ _) (Nat.le_refl _) (by simp [oddL]) ?_; (case hd => rfl); (case hg => rfl); (case hr => first | (go_simp; done) | (go_simp; rfl)); (case hp => exact (Reps.one (show Kd.M Kd.string _ _ _ (⟨#[35]⟩ : ByteArray) [.string (⟨#[35]⟩ : ByteArray)] from rfl) (Reps.one (show Kd.M Kd.string _ _ _ (⟨#[47]⟩ : ByteArray) [.string (⟨#[47]⟩ : ByteArray)] from rfl) (Reps.one (show Kd.M Kd.string _ _ _ (⟨#[42]⟩ : ByteArray) [.string (⟨#[42]⟩ : ByteArray)] from rfl) (Reps.one (show Kd.M Kd.string _ _ _ (⟨#[43]⟩ : ByteArray) [.string (⟨#[43]⟩ : ByteArray)] from rfl) (Reps.one (show Kd.M Kd.string _ _ _ (⟨#[63]⟩ : ByteArray) [.string (⟨#[63]⟩ : ByteArray)] from rfl) (Reps.one (show Kd.M Kd.string _ _ _ (⟨#[64]⟩ : ByteArray) [.string (⟨#[64]⟩ : ByteArray)] from rfl) (Reps.one (show Kd.M Kd.string _ _ _ (⟨#[36]⟩ : ByteArray) [.string (⟨#[36]⟩ : ByteArray)] from rfl) (Reps.one (show Kd.M Kd.string _ _ _ (⟨#[92]⟩ : ByteArray) [.string (⟨#[92]⟩ : ByteArray)] from rfl) (Reps.one (show Kd.M Kd.string _ _ _ (⟨#[0]⟩ : ByteArray) [.string (⟨#[0]⟩ : ByteArray)] from rfl) (Reps.one (show Kd.M Kd.string _ _ _ (⟨#[127]⟩ : ByteArray) [.string (⟨#[127]⟩ : ByteArray)] from rfl) (Reps.one (show Kd.M Kd.string _ _ _ (⟨#[255]⟩ : ByteArray) [.string (⟨#[255]⟩ : ByteArray)] from rfl) (Reps.one (show Kd.M Kd.string _ _ _ (⟨#[58]⟩ : ByteArray) [.string (⟨#[58]⟩ : ByteArray)] from rfl) (Reps.one (show Kd.M Kd.string _ _ _ (⟨#[33]⟩ : ByteArray) [.string (⟨#[33]⟩ : ByteArray)] from rfl) (Reps.one (show Kd.M Kd.string _ _ _ (⟨#[37]⟩ : ByteArray) [.string (⟨#[37]⟩ : ByteArray)] from rfl) (Reps.one (show Kd.M Kd.string _ _ _ (⟨#[38]⟩ : ByteArray) [.string (⟨#[38]⟩ : ByteArray)] from rfl) (Reps.one (show Kd.M Kd.string _ _ _ (⟨#[124]⟩ : ByteArray) [.string (⟨#[124]⟩ : ByteArray)] from rfl) (Reps.one (show Kd.M Kd.string _ _ _ (⟨#[94]⟩ : ByteArray) [.string (⟨#[94]⟩ : ByteArray)] from rfl) (Reps.one (show Kd.M Kd.string _ _ _ (⟨#[126]⟩ : ByteArray) [.string (⟨#[126]⟩ : ByteArray)] from rfl) (Reps.one (show Kd.M Kd.string _ _ _ (⟨#[48, 57]⟩ : ByteArray) [.string (⟨#[48, 57]⟩ : ByteArray)] from rfl) (Reps.one (show Kd.M Kd.string _ _ _ (⟨#[48, 120]⟩ : ByteArray) [.string (⟨#[48, 120]⟩ : ByteArray)] from rfl) (Reps.one (show Kd.M Kd.string _ _ _ (⟨#[48, 120, 103]⟩ : ByteArray) [.string (⟨#[48, 120, 103]⟩ : ByteArray)] from rfl) (Reps.one (show Kd.M Kd.string _ _ _ (⟨#[55, 97]⟩ : ByteArray) [.string (⟨#[55, 97]⟩ : ByteArray)] from rfl) (Reps.one (show Kd.M Kd.string _ _ _ (⟨#[97, 98, 99, 100, 101, 102, 103, 104, 105, 106, 107, 108, 109, 110, 111, 112, 113, 114, 115, 116, 117, 118, 119, 120, 121, 122, 97, 98, 99, 100, 101, 102, 103]⟩ : ByteArray) [.string (⟨#[97, 98, 99, 100, 101, 102, 103, 104, 105, 106, 107, 108, 109, 110, 111, 112, 113, 114, 115, 116, 117, 118, 119, 120, 121, 122, 97, 98, 99, 100, 101, 102, 103]⟩ : ByteArray)] from rfl) (Reps.one (show Kd.M Kd.string _ _ _ (⟨#[50, 49, 52, 55, 52, 56, 51, 54, 52, 57]⟩ : ByteArray) [.string (⟨#[50, 49, 52, 55, 52, 56, 51, 54, 52, 57]⟩ : ByteArray)] from rfl) (Reps.one (show Kd.M Kd.string _ _ _ (⟨#[48, 50, 48, 48, 48, 48, 48, 48, 48, 48, 48, 49]⟩ : ByteArray) [.string (⟨#[48, 50, 48, 48, 48, 48, 48, 48, 48, 48, 48, 49]⟩ : ByteArray)] from rfl) (Reps.one (show Kd.M Kd.string _ _ _ (⟨#[39, 97]⟩ : ByteArray) [.string (⟨#[39, 97]⟩ : ByteArray)] from rfl) (Reps.one (show Kd.M Kd.string _ _ _ (⟨#[34, 92, 113, 34]⟩ : ByteArray) [.string (⟨#[34, 92, 113, 34]⟩ : ByteArray)] from rfl) (Reps.one (show Kd.M Kd.string _ _ _ (⟨#[47, 42, 32, 97]⟩ : ByteArray) [.string (⟨#[47, 42, 32, 97]⟩ : ByteArray)] from rfl) (Reps.none _ _)))))))))))))))))))))))))))))); intro v29 w29 ho hb hg_ hnew_; clear hg_ hnew_; obtain ⟨Ap, cAp, ep⟩ := Kd.R_slice ho; rw [show oddL.length = 28 from rfl] at ep; subst ep; have n3_ := Aside0.mk (Kd.R_lower ho (below_size (by repeat (first | exact HB.out | apply below_alloc | apply pw_below_drewN | apply below_drew1)))); clear ho; have m0_ := Aside0.mk (Kd.R_below (by (with_reducible repeat (first | apply Kd.R_alloc | apply Kd.R_drewN | apply Kd.R_drew)); exact HR.out) hb); have n1_ := Aside0.mk (below_step (by repeat (first | exact HB.out | apply below_alloc | apply pw_below_drewN | apply below_drew1)) hb); clear HR HB hb; have HR := m0_; have HB := n1_; clear m0_ n1_; have HP := n3_; clear n3_) | ((with_reducible refine gate_dst (N := 30) rfl ?_); refine Kd.R_lit (Kd.int .i64) _ 23 ?hg (N := 30) ?hd (xs := wantL) (inner := [.int .i64 30, .int .i64 9, .int .i64 21]) (ok := fun _ => True) (okp := fun _ => True) ?hr ?hp (fun _ hk => hk) trivial (Below.refl _ _) (Nat.le_refl _) (by simp [wantL]) ?_; (case hd => rfl); (case hg => rfl); (case hr => first | (go_simp; done) | (go_simp; rfl)); (case hp => exact (Reps.one (show Kd.M (Kd.int .i64) _ _ _ (30 : Int) [.int .i64 30] from rfl) (Reps.one (show Kd.M (Kd.int .i64) _ _ _ (9 : Int) [.int .i64 9] from rfl) (Reps.one (show Kd.M (Kd.int .i64) _ _ _ (21 : Int) [.int .i64 21] from rfl) (Reps.none _ _))))); intro v29 w29 ho hb hg_ hnew_; clear hg_ hnew_; obtain ⟨Aq, cAq, ep⟩ := Kd.R_slice ho; rw [show wantL.length = 3 from rfl] at ep; subst ep; have n3_ := Aside0.mk (Kd.R_lower ho (below_size (by repeat (first | exact HB.out | apply below_alloc | apply pw_below_drewN | apply below_drew1)))); clear ho; have m0_ := Aside0.mk (Kd.R_below (by (with_reducible repeat (first | apply Kd.R_alloc | apply Kd.R_drewN | apply Kd.R_drew)); exact HR.out) hb); have m1_ := Aside0.mk (Kd.R_below (by (with_reducible repeat (first | apply Kd.R_alloc | apply Kd.R_drewN | apply Kd.R_drew)); exact HP.out) hb); have n1_ := Aside0.mk (below_step (by repeat (first | exact HB.out | apply below_alloc | apply pw_below_drewN | apply below_drew1)) hb); clear HR HP HB hb; have HR := m0_; have HP := m1_; have HB := n1_; clear m0_ m1_ n1_; have HQ := n3_; clear n3_) | (go_at_call_of 10 (Value.int .i64 at_); (with_reducible refine (signetryref00_Bring.calls at_ ((ws.length : Int) + 1) (k : Int) _ HB1.out).mono ?_); rintro e w59 ⟨rfl, ⟨nd, rfl⟩⟩) | (go_at_call_of 10 (Value.int .i64 wh); (with_reducible refine (signetryref00_Bring.calls wh 28 (27 : Int) _ HB2.out).mono ?_); rintro e w69 ⟨rfl, ⟨nd2, rfl⟩⟩) | (go_at_call 11; refine (join_n (ws.take k) k HTK.out _ _ sx _ ?side1 ?side2 HJ1.out).mono ?_; (case side1 => exact take_c (by repeat (first | exact (Kd.R_reads' HR.out).2.2 | (with_reducible refine Kd.C_alloc ?_ _) | (with_reducible refine Kd.C_drewN ?_ _) | (with_reducible refine Kd.C_drew ?_))) hk); (case side2 => exact hk1); rintro e w49 ⟨rfl, hb⟩; have m0_ := Aside0.mk (Kd.R_below (by (with_reducible repeat (first | apply Kd.R_alloc | apply Kd.R_drewN | apply Kd.R_drew)); exact HR.out) hb); have m1_ := Aside0.mk (Kd.R_below (by (with_reducible repeat (first | apply Kd.R_alloc | apply Kd.R_drewN | apply Kd.R_drew)); exact HP.out) hb); have m2_ := Aside0.mk (Kd.R_below (by (with_reducible repeat (first | apply Kd.R_alloc | apply Kd.R_drewN | apply Kd.R_drew)); exact HQ.out) hb); have n1_ := Aside0.mk (below_step (by repeat (first | exact HB.out | apply below_alloc | apply pw_below_drewN | apply below_drew1)) hb); clear HR HP HQ HB hb; have HR := m0_; have HP := m1_; have HQ := m2_; have HB := n1_; clear m0_ m1_ m2_ n1_))
  obtain ⟨ap, eap, hld⟩ := Kd.at_string (Kd.R_reads' HP.out).2.2 (27 : Int) (by omega) (by show (27 : Int) < (28 : Nat); omega)
  subst eap
  rw [HOD.out] at hld
  replace hld : World.cell? _ ⟨ap.block, ap.off + 27, none⟩ = some (.string od) := hld
  obtain ⟨A9, hA9⟩ : ∃ A9, A9 = (if co = k then Ao else Ao.map (·.add (k * 4))) := ⟨_, rfl⟩
  have HX : Aside0 (Kd.C k28 _ A9 (ws.length - k) (ws.drop k)) := ⟨by rw [hA9]; exact drop_c (Kd.R_reads' HR.out).2.2 hk hco⟩
  have hcut := words_from Ao ws.length co k hk hco A9 hA9
  have hk2 : ws.length - k ≤ co - k := by omega
  have hc1 : ¬ 9223372036854775807 < sx.size + 1 := by omega
  have hc2 : ¬ 9223372036854775807 < sx.size + 1 + od.size := by omega
  have hc3 : ¬ 9223372036854775807 < sx.size + 1 + od.size + 1 := by omega
  have hc4 : ¬ 9223372036854775807 < sx.size + 1 + od.size + 1 + tx.size := by omega
  have hs10 : (⟨#[10]⟩ : ByteArray).size = 1 := rfl
  have hc5 : ¬ 9223372036854775807 < (sx ++ ⟨#[10]⟩ : ByteArray).size + od.size := by rw [ByteArray.size_append, hs10]; omega
  have hc6 : ¬ 9223372036854775807 < ((sx ++ ⟨#[10]⟩) ++ od : ByteArray).size + 1 := by rw [ByteArray.size_append, ByteArray.size_append, hs10]; omega
  have hc7 : ¬ 9223372036854775807 < (((sx ++ ⟨#[10]⟩) ++ od) ++ ⟨#[10]⟩ : ByteArray).size + tx.size := by rw [ByteArray.size_append, ByteArray.size_append, ByteArray.size_append, hs10]; omega
  clear hA9
  refine start_ (n := 14) (S := fun w' => w'.cell? ⟨ap.block, ap.off + 27, none⟩ = some (.string od)) (ds := []) #[false, false, false, false, false, false, false, false, false, false, false, false, false, false] (by kernel_rfl) rfl rfl (hld) (fun hHeld => ?_)
  refine pure_ (i := 0) (N := some 51) (v := ?_) (a' := ?_) #[true, false, false, false, false, false, false, false, false, false, false, false, false, false] rfl rfl (by kernel_rfl) (fun _ _ _ h => h) (Or.inl ⟨by rfl, ?_⟩) ?_ ?_
  rotate_left
  · intro w'
    go_simp
    with_reducible rfl
  rotate_left
  · simp only [Act.put, List.setIfInBounds_toArray, List.set_cons_zero, List.set_cons_succ, i64_w, i32_w]
    rfl
  refine pure_ (i := 1) (N := some 52) (v := ?_) (a' := ?_) #[true, true, false, false, false, false, false, false, false, false, false, false, false, false] rfl rfl (by kernel_rfl) (fun _ _ _ h => h) (Or.inl ⟨by rfl, ?_⟩) ?_ ?_
  rotate_left
  · intro w'
    go_simp
    with_reducible rfl
  rotate_left
  · simp only [Act.put, List.setIfInBounds_toArray, List.set_cons_zero, List.set_cons_succ, i64_w, i32_w]
    rfl
  refine pure_ (i := 2) (N := some 53) (v := ?_) (a' := ?_) #[true, true, true, false, false, false, false, false, false, false, false, false, false, false] rfl rfl (by kernel_rfl) (fun _ _ _ h => h) (Or.inl ⟨by rfl, ?_⟩) ?_ ?_
  rotate_left
  · intro w'
    go_simp
    with_reducible rfl
  rotate_left
  · simp only [Act.put, List.setIfInBounds_toArray, List.set_cons_zero, List.set_cons_succ, i64_w, i32_w]
    rfl
  refine pure_ (i := 3) (N := some 54) (v := ?_) (a' := ?_) #[true, true, true, true, false, false, false, false, false, false, false, false, false, false] rfl rfl (by kernel_rfl) (fun _ _ _ h => h) (Or.inl ⟨by rfl, ?_⟩) ?_ ?_
  rotate_left
  · intro w'
    go_simp
    with_reducible rfl
  rotate_left
  · simp only [Act.put, List.setIfInBounds_toArray, List.set_cons_zero, List.set_cons_succ, i64_w, i32_w]
    rfl
  refine pure_ (i := 4) (N := some 55) (v := ?_) (a' := ?_) #[true, true, true, true, true, false, false, false, false, false, false, false, false, false] rfl rfl (by kernel_rfl) (fun _ _ _ h => h) (Or.inl ⟨by rfl, ?_⟩) ?_ ?_
  rotate_left
  · intro w'
    go_simp
    with_reducible rfl
  rotate_left
  · simp only [Act.put, List.setIfInBounds_toArray, List.set_cons_zero, List.set_cons_succ, i64_w, i32_w]
    rfl
  refine pure_ (i := 8) (N := some 59) (v := ?_) (a' := ?_) #[true, true, true, true, true, false, false, false, true, false, false, false, false, false] rfl rfl (by kernel_rfl) (fun _ _ _ h => h) (Or.inl ⟨by rfl, ?_⟩) ?_ ?_
  rotate_left
  · intro w'
    go_simp
    with_reducible rfl
  rotate_left
  · simp only [Act.put, List.setIfInBounds_toArray, List.set_cons_zero, List.set_cons_succ, i64_w, i32_w]
    rfl
  refine pure_ (i := 9) (N := some 60) (v := ?_) (a' := ?_) #[true, true, true, true, true, false, false, false, true, true, false, false, false, false] rfl rfl (by kernel_rfl) (fun _ _ _ h => h) (Or.inl ⟨by rfl, ?_⟩) ?_ ?_
  rotate_left
  · intro w'
    go_simp
    with_reducible rfl
  rotate_left
  · simp only [Act.put, List.setIfInBounds_toArray, List.set_cons_zero, List.set_cons_succ, i64_w, i32_w]
    rfl
  refine pure_ (i := 10) (N := some 61) (v := ?_) (a' := ?_) #[true, true, true, true, true, false, false, false, true, true, true, false, false, false] rfl rfl (by kernel_rfl) (fun _ _ _ h => h) (Or.inl ⟨by rfl, ?_⟩) ?_ ?_
  rotate_left
  · intro w'
    go_simp
    with_reducible rfl
  rotate_left
  · simp only [Act.put, List.setIfInBounds_toArray, List.set_cons_zero, List.set_cons_succ, i64_w, i32_w]
    rfl
  refine take_ (i := 5) (N := some 56) (v := ?_) (a' := ?_) #[true, true, true, true, true, true, false, false, true, true, true, false, false, false] rfl rfl (by kernel_rfl) (fun _ _ _ h => h) (Or.inl ⟨by rfl, ?_⟩) hHeld ?_ ?_
  rotate_left
  · intro w' s0
    go_simp
    with_reducible rfl
  rotate_left
  · simp only [Act.put, List.setIfInBounds_toArray, List.set_cons_zero, List.set_cons_succ, i64_w, i32_w]
    rfl
  refine pure_ (i := 6) (N := some 57) (v := ?_) (a' := ?_) #[true, true, true, true, true, true, true, false, true, true, true, false, false, false] rfl rfl (by kernel_rfl) (fun _ _ _ h => h) (Or.inl ⟨by rfl, ?_⟩) ?_ ?_
  rotate_left
  · intro w'
    go_simp
    with_reducible rfl
  rotate_left
  · simp only [Act.put, List.setIfInBounds_toArray, List.set_cons_zero, List.set_cons_succ, i64_w, i32_w]
    rfl
  refine pure_ (i := 7) (N := some 58) (v := ?_) (a' := ?_) #[true, true, true, true, true, true, true, true, true, true, true, false, false, false] rfl rfl (by kernel_rfl) (fun _ _ _ h => h) (Or.inl ⟨by rfl, ?_⟩) ?_ ?_
  rotate_left
  · intro w'
    go_simp
    with_reducible rfl
  rotate_left
  · simp only [Act.put, List.setIfInBounds_toArray, List.set_cons_zero, List.set_cons_succ, i64_w, i32_w]
    rfl
  refine one_ (i := 11) (N := some 62) #[true, true, true, true, true, true, true, true, true, true, true, true, false, false] rfl rfl (by kernel_rfl) (by decide) (fun K hK => ?_)
  refine goes_ Tryd.func11 (by kernel_rfl) rfl #[.slice A9 (ws.length - k) (co - k)] (by rfl) rfl rfl (by simp only [List.map_toArray, List.map_cons, List.map_nil]; rfl) ?_
  with_reducible refine (join_n (ws.drop k) (ws.length - k) HDK.out A9 (co - k) tx _ (by repeat (first | exact HX.out | (with_reducible refine Kd.C_alloc ?_ _) | (with_reducible refine Kd.C_drewN ?_ _) | (with_reducible refine Kd.C_drew ?_))) hk2 HJ2.out).mono ?_
  rintro e W3 ⟨rfl, hb⟩
  refine ⟨_, rfl, ?_⟩
  (have m0_ := Aside0.mk (Kd.R_below (by (with_reducible repeat (first | apply Kd.R_alloc | apply Kd.R_drewN | apply Kd.R_drew)); exact HR.out) hb); have m1_ := Aside0.mk (Kd.R_below (by (with_reducible repeat (first | apply Kd.R_alloc | apply Kd.R_drewN | apply Kd.R_drew)); exact HP.out) hb); have m2_ := Aside0.mk (Kd.R_below (by (with_reducible repeat (first | apply Kd.R_alloc | apply Kd.R_drewN | apply Kd.R_drew)); exact HQ.out) hb); have n1_ := Aside0.mk (below_step (by repeat (first | exact HB.out | apply below_alloc | apply pw_below_drewN | apply below_drew1)) hb); clear HR HP HQ HB hb; have HR := m0_; have HP := m1_; have HQ := m2_; have HB := n1_; clear m0_ m1_ m2_ n1_)
  refine hK.out _ _ ((by obtain ⟨ap2, e2, h2⟩ := Kd.at_string (Kd.R_reads' HP.out).2.2 (27 : Int) (by omega) (by show (27 : Int) < (28 : Nat); omega); cases e2; rw [HOD.out] at h2; exact h2)) (fun hHeld => ?_)
  clear hK K
  refine norm_ (a' := ?_) ?_ ?_
  rotate_left
  · show Act.put _ (some 62) _ = _
    simp only [Act.put, List.setIfInBounds_toArray, List.set_cons_zero, List.set_cons_succ, i64_w, i32_w]
    rfl
  refine pure_ (i := 12) (N := some 63) (v := ?_) (a' := ?_) #[true, true, true, true, true, true, true, true, true, true, true, true, true, false] rfl rfl (by kernel_rfl) (fun _ _ _ h => h) (Or.inl ⟨by rfl, ?_⟩) ?_ ?_
  rotate_left
  · intro w'
    go_simp
    with_reducible rfl
  rotate_left
  · simp only [Act.put, List.setIfInBounds_toArray, List.set_cons_zero, List.set_cons_succ, i64_w, i32_w]
    rfl
  refine pure_ (i := 13) (N := some 14) (v := ?_) (a' := ?_) #[true, true, true, true, true, true, true, true, true, true, true, true, true, true] rfl rfl (by kernel_rfl) (fun _ _ _ h => h) (Or.inl ⟨by rfl, ?_⟩) ?_ ?_
  rotate_left
  · intro w'
    go_simp
    with_reducible rfl
  rotate_left
  · simp only [Act.put, List.setIfInBounds_toArray, List.set_cons_zero, List.set_cons_succ, i64_w, i32_w]
    rfl
  refine done_ (by kernel_rfl) ?_
  have hTT := HT.out
  have HCT := Aside0.mk hct
  clear hct
  have hTs : T.size = sx.size + 1 + od.size + 1 + tx.size := by rw [← HT.out, ByteArray.size_append, ByteArray.size_append, ByteArray.size_append, ByteArray.size_append, hs10]
  have hle : (sx.size : Int) + 1 ≤ (T.size : Int) := by omega
  clear hTs
  clear hc1 hc2 hc3 hc4 hc5 hc6 hc7 hcut hld HX
  go_wp2_with (first | (go_at_call 8; (with_reducible refine (lex_Words.calls T out pl 30 _ HW.out ?sideg).mono ?_); (case sideg => exact GV.below HG.out (by repeat (first | exact HB.out | apply below_alloc | apply pw_below_drewN | apply below_drew1))); rintro e w79 ⟨v39, rfl, ho, hb⟩; obtain ⟨Ax, cx, eo⟩ := Kd.R_slice ho; subst eo; clear ho; have m0_ := Aside0.mk (Kd.R_below (by (with_reducible repeat (first | apply Kd.R_alloc | apply Kd.R_drewN | apply Kd.R_drew)); exact HQ.out) hb); have n1_ := Aside0.mk (below_step (by repeat (first | exact HB.out | apply below_alloc | apply pw_below_drewN | apply below_drew1)) hb); clear HQ HB hb; have HQ := m0_; have HB := n1_; clear m0_ n1_) | (go_at_call 9; (with_reducible refine (works_true _ (GV.below HG.out (by repeat (first | exact HB.out | apply below_alloc | apply pw_below_drewN | apply below_drew1)))).mono ?_); rintro e w99 ⟨rfl, hb⟩; have n1_ := Aside0.mk (below_step (by repeat (first | exact HB.out | apply below_alloc | apply pw_below_drewN | apply below_drew1)) hb); clear HB hb; have HB := n1_; clear n1_) | (go_at_call 15; (with_reducible refine (strings_Contains.calls (T.extract (sx.size + 1) T.size) ⟨#[42, 47]⟩ true _ HCT.out (GV.below HG.out (by repeat (first | exact HB.out | apply below_alloc | apply pw_below_drewN | apply below_drew1)))).mono ?_); rintro e w89 ⟨rfl, ⟨nd3, rfl⟩⟩))
  go_ret
  exact ⟨rfl, HB.out⟩
set_option maxRecDepth 100000 in
set_option maxHeartbeats 6400000 in
theorem LexOdd_E27c (l : List S56) (A0 : Option Addr) (c0 : Nat) (at_ wh : Int) (w : World) (m : Nat) (hm2 : (if (40 : Int) < (l.length : Int) then (40 : Int) else (l.length : Int)) = (m : Int)) (hml : m ≤ l.length) (hlm : (l.take m).length = m) (hr0 : Kd.C k56 w A0 m (l.take m)) (hc0 : m ≤ c0) (hg : GV w) (K : Nat)
    (ws : List S28) (hws : ws.length ≤ 60) (hrow : signetrylaw03_row.f K (l.take m) = some ws) (k : Nat) (hk : k ≤ ws.length)  (hb1 : signetryref00_Bring.f at_ ((ws.length : Int) + 1) = some (k : Int)) (hb2 : signetryref00_Bring.f wh 28 = some 27)
    (sx tx od T : ByteArray) (hj1 : lex_Join.f (ws.take k) = some sx) (hj2 : lex_Join.f (ws.drop k) = some tx) (hod : rdOf ByteArray.empty oddL 27 = od) (hT : (((sx ++ ⟨#[10]⟩) ++ od) ++ ⟨#[10]⟩) ++ tx = T) (hsx : sx.size ≤ 20000) (htx : tx.size ≤ 20000) (hos : od.size ≤ 100)
    (out : List S28) (pl er : Int) (her : er ≠ 30) (hct : strings_Contains.f (T.extract (sx.size + 1) T.size) ⟨#[42, 47]⟩ = some true) (hw : lex_Words.f T = some (out, pl, er)) :
    Calls Tryd.prog 7 #[.slice A0 l.length c0, .int .i64 at_, .int .i64 wh] w fun e w' => e = .returned (.bool true) ∧ Below w.heap.size w w' := by
  have HR0 := Aside0.mk hr0
  have HC0 := Aside0.mk hc0
  have HLM := Aside0.mk hlm
  have HG := Aside0.mk hg
  have HB := Aside0.mk (Below.refl w.heap.size w)
  have HROW := Aside0.mk hrow
  have HB1 := Aside0.mk hb1
  have HB2 := Aside0.mk hb2
  have HJ1 := Aside0.mk hj1
  have HJ2 := Aside0.mk hj2
  have HOD := Aside0.mk hod
  have HT := Aside0.mk hT
  have HW := Aside0.mk hw
  have HTK : Aside0 ((ws.take k).length = k) := ⟨by rw [List.length_take]; omega⟩
  have HDK : Aside0 ((ws.drop k).length = ws.length - k) := ⟨List.length_drop⟩
  have hm0 : (0 : Int) ≤ (m : Int) := by omega
  have hm1 : (m : Int) ≤ (c0 : Int) := by omega
  have hm3 : (m : Int) ≤ (l.length : Int) := by omega
  have d1 : (0 : Int) ≤ (k : Int) := by omega
  have d2 : (k : Int) ≤ (ws.length : Int) := by omega
  have p0 : (er == 30) = false := by simpa using her
  clear hr0 hc0 hg hrow hb1 hb2 hj1 hj2 hod hT hw hlm
  go_enter Tryd.func7, Tryd.ntmps7
  go_upto_region 12 with (first | (go_at_call 14; (with_reducible refine (row_n K A0 c0 (l.take m) m HLM.out ws _ ?side1 ?side2 HROW.out).mono ?_); (case side1 => exact Kd.C_below HR0.out (by repeat (first | exact HB.out | apply below_alloc | apply pw_below_drewN | apply below_drew1))); (case side2 => exact HC0.out); rintro e w19 ⟨v19, rfl, ho, hb⟩; obtain ⟨Ao, co, eo⟩ := Kd.R_slice ho; subst eo; have hco := (Kd.R_reads' ho).2.1; have d4 : (k : Int) ≤ (co : Int) := (by omega); have hk1 : k ≤ co := (by omega); have n0_ := Aside0.mk (Kd.R_lower ho (below_size (by repeat (first | exact HB.out | apply below_alloc | apply pw_below_drewN | apply below_drew1)))); have n1_ := Aside0.mk (below_step (by repeat (first | exact HB.out | apply below_alloc | apply pw_below_drewN | apply below_drew1)) hb); clear HB ho hb; have HB := n1_; have HR := n0_; clear n1_ n0_) | ((with_reducible refine gate_dst (N := 29) rfl ?_); refine Kd.R_lit Kd.string _ 9 ?hg (N := 29) ?hd (xs := oddL) (inner := [.string (⟨#[35]⟩ : ByteArray), .string (⟨#[47]⟩ : ByteArray), .string (⟨#[42]⟩ : ByteArray), .string (⟨#[43]⟩ : ByteArray), .string (⟨#[63]⟩ : ByteArray), .string (⟨#[64]⟩ : ByteArray), .string (⟨#[36]⟩ : ByteArray), .string (⟨#[92]⟩ : ByteArray), .string (⟨#[0]⟩ : ByteArray), .string (⟨#[127]⟩ : ByteArray), .string (⟨#[255]⟩ : ByteArray), .string (⟨#[58]⟩ : ByteArray), .string (⟨#[33]⟩ : ByteArray), .string (⟨#[37]⟩ : ByteArray), .string (⟨#[38]⟩ : ByteArray), .string (⟨#[124]⟩ : ByteArray), .string (⟨#[94]⟩ : ByteArray), .string (⟨#[126]⟩ : ByteArray), .string (⟨#[48, 57]⟩ : ByteArray), .string (⟨#[48, 120]⟩ : ByteArray), .string (⟨#[48, 120, 103]⟩ : ByteArray), .string (⟨#[55, 97]⟩ : ByteArray), .string (⟨#[97, 98, 99, 100, 101, 102, 103, 104, 105, 106, 107, 108, 109, 110, 111, 112, 113, 114, 115, 116, 117, 118, 119, 120, 121, 122, 97, 98, 99, 100, 101, 102, 103]⟩ : ByteArray), .string (⟨#[50, 49, 52, 55, 52, 56, 51, 54, 52, 57]⟩ : ByteArray), .string (⟨#[48, 50, 48, 48, 48, 48, 48, 48, 48, 48, 48, 49]⟩ : ByteArray), .string (⟨#[39, 97]⟩ : ByteArray), .string (⟨#[34, 92, 113, 34]⟩ : ByteArray), .string (⟨#[47, 42, 32, 97]⟩ : ByteArray)]) (ok := fun _ => True) (okp := fun _ => True) ?hr ?hp (fun _ hk => hk) trivial (Below.refl _ _) (Nat.le_refl _) (by simp [oddL]) ?_; (case hd => rfl); (case hg => rfl); (case hr => first | (go_simp; done) | (go_simp; rfl)); (case hp => exact (Reps.one (show Kd.M Kd.string _ _ _ (⟨#[35]⟩ : ByteArray) [.string (⟨#[35]⟩ : ByteArray)] from rfl) (Reps.one (show Kd.M Kd.string _ _ _ (⟨#[47]⟩ : ByteArray) [.string (⟨#[47]⟩ : ByteArray)] from rfl) (Reps.one (show Kd.M Kd.string _ _ _ (⟨#[42]⟩ : ByteArray) [.string (⟨#[42]⟩ : ByteArray)] from rfl) (Reps.one (show Kd.M Kd.string _ _ _ (⟨#[43]⟩ : ByteArray) [.string (⟨#[43]⟩ : ByteArray)] from rfl) (Reps.one (show Kd.M Kd.string _ _ _ (⟨#[63]⟩ : ByteArray) [.string (⟨#[63]⟩ : ByteArray)] from rfl) (Reps.one (show Kd.M Kd.string _ _ _ (⟨#[64]⟩ : ByteArray) [.string (⟨#[64]⟩ : ByteArray)] from rfl) (Reps.one (show Kd.M Kd.string _ _ _ (⟨#[36]⟩ : ByteArray) [.string (⟨#[36]⟩ : ByteArray)] from rfl) (Reps.one (show Kd.M Kd.string _ _ _ (⟨#[92]⟩ : ByteArray) [.string (⟨#[92]⟩ : ByteArray)] from rfl) (Reps.one (show Kd.M Kd.string _ _ _ (⟨#[0]⟩ : ByteArray) [.string (⟨#[0]⟩ : ByteArray)] from rfl) (Reps.one (show Kd.M Kd.string _ _ _ (⟨#[127]⟩ : ByteArray) [.string (⟨#[127]⟩ : ByteArray)] from rfl) (Reps.one (show Kd.M Kd.string _ _ _ (⟨#[255]⟩ : ByteArray) [.string (⟨#[255]⟩ : ByteArray)] from rfl) (Reps.one (show Kd.M Kd.string _ _ _ (⟨#[58]⟩ : ByteArray) [.string (⟨#[58]⟩ : ByteArray)] from rfl) (Reps.one (show Kd.M Kd.string _ _ _ (⟨#[33]⟩ : ByteArray) [.string (⟨#[33]⟩ : ByteArray)] from rfl) (Reps.one (show Kd.M Kd.string _ _ _ (⟨#[37]⟩ : ByteArray) [.string (⟨#[37]⟩ : ByteArray)] from rfl) (Reps.one (show Kd.M Kd.string _ _ _ (⟨#[38]⟩ : ByteArray) [.string (⟨#[38]⟩ : ByteArray)] from rfl) (Reps.one (show Kd.M Kd.string _ _ _ (⟨#[124]⟩ : ByteArray) [.string (⟨#[124]⟩ : ByteArray)] from rfl) (Reps.one (show Kd.M Kd.string _ _ _ (⟨#[94]⟩ : ByteArray) [.string (⟨#[94]⟩ : ByteArray)] from rfl) (Reps.one (show Kd.M Kd.string _ _ _ (⟨#[126]⟩ : ByteArray) [.string (⟨#[126]⟩ : ByteArray)] from rfl) (Reps.one (show Kd.M Kd.string _ _ _ (⟨#[48, 57]⟩ : ByteArray) [.string (⟨#[48, 57]⟩ : ByteArray)] from rfl) (Reps.one (show Kd.M Kd.string _ _ _ (⟨#[48, 120]⟩ : ByteArray) [.string (⟨#[48, 120]⟩ : ByteArray)] from rfl) (Reps.one (show Kd.M Kd.string _ _ _ (⟨#[48, 120, 103]⟩ : ByteArray) [.string (⟨#[48, 120, 103]⟩ : ByteArray)] from rfl) (Reps.one (show Kd.M Kd.string _ _ _ (⟨#[55, 97]⟩ : ByteArray) [.string (⟨#[55, 97]⟩ : ByteArray)] from rfl) (Reps.one (show Kd.M Kd.string _ _ _ (⟨#[97, 98, 99, 100, 101, 102, 103, 104, 105, 106, 107, 108, 109, 110, 111, 112, 113, 114, 115, 116, 117, 118, 119, 120, 121, 122, 97, 98, 99, 100, 101, 102, 103]⟩ : ByteArray) [.string (⟨#[97, 98, 99, 100, 101, 102, 103, 104, 105, 106, 107, 108, 109, 110, 111, 112, 113, 114, 115, 116, 117, 118, 119, 120, 121, 122, 97, 98, 99, 100, 101, 102, 103]⟩ : ByteArray)] from rfl) (Reps.one (show Kd.M Kd.string _ _ _ (⟨#[50, 49, 52, 55, 52, 56, 51, 54, 52, 57]⟩ : ByteArray) [.string (⟨#[50, 49, 52, 55, 52, 56, 51, 54, 52, 57]⟩ : ByteArray)] from rfl) (Reps.one (show Kd.M Kd.string _ _ _ (⟨#[48, 50, 48, 48, 48, 48, 48, 48, 48, 48, 48, 49]⟩ : ByteArray) [.string (⟨#[48, 50, 48, 48, 48, 48, 48, 48, 48, 48, 48, 49]⟩ : ByteArray)] from rfl) (Reps.one (show Kd.M Kd.string _ _ _ (⟨#[39, 97]⟩ : ByteArray) [.string (⟨#[39, 97]⟩ : ByteArray)] from rfl) (Reps.one (show Kd.M Kd.string _ _ _ (⟨#[34, 92, 113, 34]⟩ : ByteArray) [.string (⟨#[34, 92, 113, 34]⟩ : ByteArray)] from rfl) (Reps.one (show Kd.M Kd.string _ _ _ (⟨#[47, 42, 32, 97]⟩ : ByteArray) [.string (⟨#[47, 42, 32, 97]⟩ : ByteArray)] from rfl) (Reps.none _ _)))))))))))))))))))))))))))))); intro v29 w29 ho hb hg_ hnew_; clear hg_ hnew_; obtain ⟨Ap, cAp, ep⟩ := Kd.R_slice ho; rw [show oddL.length = 28 from rfl] at ep; subst ep; have n3_ := Aside0.mk (Kd.R_lower ho (below_size (by repeat (first | exact HB.out | apply below_alloc | apply pw_below_drewN | apply below_drew1)))); clear ho; have m0_ := Aside0.mk (Kd.R_below (by (with_reducible repeat (first | apply Kd.R_alloc | apply Kd.R_drewN | apply Kd.R_drew)); exact HR.out) hb); have n1_ := Aside0.mk (below_step (by repeat (first | exact HB.out | apply below_alloc | apply pw_below_drewN | apply below_drew1)) hb); clear HR HB hb; have HR := m0_; have HB := n1_; clear m0_ n1_; have HP := n3_; clear n3_) | ((with_reducible refine gate_dst (N := 30) rfl ?_); refine Kd.R_lit (Kd.int .i64) _ 23 ?hg (N := 30) ?hd (xs := wantL) (inner := [.int .i64 30, .int .i64 9, .int .i64 21]) (ok := fun _ => True) (okp := fun _ => True) ?hr ?hp (fun _ hk => hk) trivial (Below.refl _ _) (Nat.le_refl _) (by simp [wantL]) ?_; (case hd => rfl); (case hg => rfl); (case hr => first | (go_simp; done) | (go_simp; rfl)); (case hp => exact (Reps.one (show Kd.M (Kd.int .i64) _ _ _ (30 : Int) [.int .i64 30] from rfl) (Reps.one (show Kd.M (Kd.int .i64) _ _ _ (9 : Int) [.int .i64 9] from rfl) (Reps.one (show Kd.M (Kd.int .i64) _ _ _ (21 : Int) [.int .i64 21] from rfl) (Reps.none _ _))))); intro v29 w29 ho hb hg_ hnew_; clear hg_ hnew_; obtain ⟨Aq, cAq, ep⟩ := Kd.R_slice ho; rw [show wantL.length = 3 from rfl] at ep; subst ep; have n3_ := Aside0.mk (Kd.R_lower ho (below_size (by repeat (first | exact HB.out | apply below_alloc | apply pw_below_drewN | apply below_drew1)))); clear ho; have m0_ := Aside0.mk (Kd.R_below (by (with_reducible repeat (first | apply Kd.R_alloc | apply Kd.R_drewN | apply Kd.R_drew)); exact HR.out) hb); have m1_ := Aside0.mk (Kd.R_below (by (with_reducible repeat (first | apply Kd.R_alloc | apply Kd.R_drewN | apply Kd.R_drew)); exact HP.out) hb); have n1_ := Aside0.mk (below_step (by repeat (first | exact HB.out | apply below_alloc | apply pw_below_drewN | apply below_drew1)) hb); clear HR HP HB hb; have HR := m0_; have HP := m1_; have HB := n1_; clear m0_ m1_ n1_; have HQ := n3_; clear n3_) | (go_at_call_of 10 (Value.int .i64 at_); (with_reducible refine (signetryref00_Bring.calls at_ ((ws.length : Int) + 1) (k : Int) _ HB1.out).mono ?_); rintro e w59 ⟨rfl, ⟨nd, rfl⟩⟩) | (go_at_call_of 10 (Value.int .i64 wh); (with_reducible refine (signetryref00_Bring.calls wh 28 (27 : Int) _ HB2.out).mono ?_); rintro e w69 ⟨rfl, ⟨nd2, rfl⟩⟩) | (go_at_call 11; refine (join_n (ws.take k) k HTK.out _ _ sx _ ?side1 ?side2 HJ1.out).mono ?_; (case side1 => exact take_c (by repeat (first | exact (Kd.R_reads' HR.out).2.2 | (with_reducible refine Kd.C_alloc ?_ _) | (with_reducible refine Kd.C_drewN ?_ _) | (with_reducible refine Kd.C_drew ?_))) hk); (case side2 => exact hk1); rintro e w49 ⟨rfl, hb⟩; have m0_ := Aside0.mk (Kd.R_below (by (with_reducible repeat (first | apply Kd.R_alloc | apply Kd.R_drewN | apply Kd.R_drew)); exact HR.out) hb); have m1_ := Aside0.mk (Kd.R_below (by (with_reducible repeat (first | apply Kd.R_alloc | apply Kd.R_drewN | apply Kd.R_drew)); exact HP.out) hb); have m2_ := Aside0.mk (Kd.R_below (by (with_reducible repeat (first | apply Kd.R_alloc | apply Kd.R_drewN | apply Kd.R_drew)); exact HQ.out) hb); have n1_ := Aside0.mk (below_step (by repeat (first | exact HB.out | apply below_alloc | apply pw_below_drewN | apply below_drew1)) hb); clear HR HP HQ HB hb; have HR := m0_; have HP := m1_; have HQ := m2_; have HB := n1_; clear m0_ m1_ m2_ n1_))
  obtain ⟨ap, eap, hld⟩ := Kd.at_string (Kd.R_reads' HP.out).2.2 (27 : Int) (by omega) (by show (27 : Int) < (28 : Nat); omega)
  subst eap
  rw [HOD.out] at hld
  replace hld : World.cell? _ ⟨ap.block, ap.off + 27, none⟩ = some (.string od) := hld
  obtain ⟨A9, hA9⟩ : ∃ A9, A9 = (if co = k then Ao else Ao.map (·.add (k * 4))) := ⟨_, rfl⟩
  have HX : Aside0 (Kd.C k28 _ A9 (ws.length - k) (ws.drop k)) := ⟨by rw [hA9]; exact drop_c (Kd.R_reads' HR.out).2.2 hk hco⟩
  have hcut := words_from Ao ws.length co k hk hco A9 hA9
  have hk2 : ws.length - k ≤ co - k := by omega
  have hc1 : ¬ 9223372036854775807 < sx.size + 1 := by omega
  have hc2 : ¬ 9223372036854775807 < sx.size + 1 + od.size := by omega
  have hc3 : ¬ 9223372036854775807 < sx.size + 1 + od.size + 1 := by omega
  have hc4 : ¬ 9223372036854775807 < sx.size + 1 + od.size + 1 + tx.size := by omega
  have hs10 : (⟨#[10]⟩ : ByteArray).size = 1 := rfl
  have hc5 : ¬ 9223372036854775807 < (sx ++ ⟨#[10]⟩ : ByteArray).size + od.size := by rw [ByteArray.size_append, hs10]; omega
  have hc6 : ¬ 9223372036854775807 < ((sx ++ ⟨#[10]⟩) ++ od : ByteArray).size + 1 := by rw [ByteArray.size_append, ByteArray.size_append, hs10]; omega
  have hc7 : ¬ 9223372036854775807 < (((sx ++ ⟨#[10]⟩) ++ od) ++ ⟨#[10]⟩ : ByteArray).size + tx.size := by rw [ByteArray.size_append, ByteArray.size_append, ByteArray.size_append, hs10]; omega
  clear hA9
  refine start_ (n := 14) (S := fun w' => w'.cell? ⟨ap.block, ap.off + 27, none⟩ = some (.string od)) (ds := []) #[false, false, false, false, false, false, false, false, false, false, false, false, false, false] (by kernel_rfl) rfl rfl (hld) (fun hHeld => ?_)
  refine pure_ (i := 0) (N := some 51) (v := ?_) (a' := ?_) #[true, false, false, false, false, false, false, false, false, false, false, false, false, false] rfl rfl (by kernel_rfl) (fun _ _ _ h => h) (Or.inl ⟨by rfl, ?_⟩) ?_ ?_
  rotate_left
  · intro w'
    go_simp
    with_reducible rfl
  rotate_left
  · simp only [Act.put, List.setIfInBounds_toArray, List.set_cons_zero, List.set_cons_succ, i64_w, i32_w]
    rfl
  refine pure_ (i := 1) (N := some 52) (v := ?_) (a' := ?_) #[true, true, false, false, false, false, false, false, false, false, false, false, false, false] rfl rfl (by kernel_rfl) (fun _ _ _ h => h) (Or.inl ⟨by rfl, ?_⟩) ?_ ?_
  rotate_left
  · intro w'
    go_simp
    with_reducible rfl
  rotate_left
  · simp only [Act.put, List.setIfInBounds_toArray, List.set_cons_zero, List.set_cons_succ, i64_w, i32_w]
    rfl
  refine pure_ (i := 2) (N := some 53) (v := ?_) (a' := ?_) #[true, true, true, false, false, false, false, false, false, false, false, false, false, false] rfl rfl (by kernel_rfl) (fun _ _ _ h => h) (Or.inl ⟨by rfl, ?_⟩) ?_ ?_
  rotate_left
  · intro w'
    go_simp
    with_reducible rfl
  rotate_left
  · simp only [Act.put, List.setIfInBounds_toArray, List.set_cons_zero, List.set_cons_succ, i64_w, i32_w]
    rfl
  refine pure_ (i := 3) (N := some 54) (v := ?_) (a' := ?_) #[true, true, true, true, false, false, false, false, false, false, false, false, false, false] rfl rfl (by kernel_rfl) (fun _ _ _ h => h) (Or.inl ⟨by rfl, ?_⟩) ?_ ?_
  rotate_left
  · intro w'
    go_simp
    with_reducible rfl
  rotate_left
  · simp only [Act.put, List.setIfInBounds_toArray, List.set_cons_zero, List.set_cons_succ, i64_w, i32_w]
    rfl
  refine pure_ (i := 4) (N := some 55) (v := ?_) (a' := ?_) #[true, true, true, true, true, false, false, false, false, false, false, false, false, false] rfl rfl (by kernel_rfl) (fun _ _ _ h => h) (Or.inl ⟨by rfl, ?_⟩) ?_ ?_
  rotate_left
  · intro w'
    go_simp
    with_reducible rfl
  rotate_left
  · simp only [Act.put, List.setIfInBounds_toArray, List.set_cons_zero, List.set_cons_succ, i64_w, i32_w]
    rfl
  refine pure_ (i := 8) (N := some 59) (v := ?_) (a' := ?_) #[true, true, true, true, true, false, false, false, true, false, false, false, false, false] rfl rfl (by kernel_rfl) (fun _ _ _ h => h) (Or.inl ⟨by rfl, ?_⟩) ?_ ?_
  rotate_left
  · intro w'
    go_simp
    with_reducible rfl
  rotate_left
  · simp only [Act.put, List.setIfInBounds_toArray, List.set_cons_zero, List.set_cons_succ, i64_w, i32_w]
    rfl
  refine pure_ (i := 9) (N := some 60) (v := ?_) (a' := ?_) #[true, true, true, true, true, false, false, false, true, true, false, false, false, false] rfl rfl (by kernel_rfl) (fun _ _ _ h => h) (Or.inl ⟨by rfl, ?_⟩) ?_ ?_
  rotate_left
  · intro w'
    go_simp
    with_reducible rfl
  rotate_left
  · simp only [Act.put, List.setIfInBounds_toArray, List.set_cons_zero, List.set_cons_succ, i64_w, i32_w]
    rfl
  refine pure_ (i := 10) (N := some 61) (v := ?_) (a' := ?_) #[true, true, true, true, true, false, false, false, true, true, true, false, false, false] rfl rfl (by kernel_rfl) (fun _ _ _ h => h) (Or.inl ⟨by rfl, ?_⟩) ?_ ?_
  rotate_left
  · intro w'
    go_simp
    with_reducible rfl
  rotate_left
  · simp only [Act.put, List.setIfInBounds_toArray, List.set_cons_zero, List.set_cons_succ, i64_w, i32_w]
    rfl
  refine take_ (i := 5) (N := some 56) (v := ?_) (a' := ?_) #[true, true, true, true, true, true, false, false, true, true, true, false, false, false] rfl rfl (by kernel_rfl) (fun _ _ _ h => h) (Or.inl ⟨by rfl, ?_⟩) hHeld ?_ ?_
  rotate_left
  · intro w' s0
    go_simp
    with_reducible rfl
  rotate_left
  · simp only [Act.put, List.setIfInBounds_toArray, List.set_cons_zero, List.set_cons_succ, i64_w, i32_w]
    rfl
  refine pure_ (i := 6) (N := some 57) (v := ?_) (a' := ?_) #[true, true, true, true, true, true, true, false, true, true, true, false, false, false] rfl rfl (by kernel_rfl) (fun _ _ _ h => h) (Or.inl ⟨by rfl, ?_⟩) ?_ ?_
  rotate_left
  · intro w'
    go_simp
    with_reducible rfl
  rotate_left
  · simp only [Act.put, List.setIfInBounds_toArray, List.set_cons_zero, List.set_cons_succ, i64_w, i32_w]
    rfl
  refine pure_ (i := 7) (N := some 58) (v := ?_) (a' := ?_) #[true, true, true, true, true, true, true, true, true, true, true, false, false, false] rfl rfl (by kernel_rfl) (fun _ _ _ h => h) (Or.inl ⟨by rfl, ?_⟩) ?_ ?_
  rotate_left
  · intro w'
    go_simp
    with_reducible rfl
  rotate_left
  · simp only [Act.put, List.setIfInBounds_toArray, List.set_cons_zero, List.set_cons_succ, i64_w, i32_w]
    rfl
  refine one_ (i := 11) (N := some 62) #[true, true, true, true, true, true, true, true, true, true, true, true, false, false] rfl rfl (by kernel_rfl) (by decide) (fun K hK => ?_)
  refine goes_ Tryd.func11 (by kernel_rfl) rfl #[.slice A9 (ws.length - k) (co - k)] (by rfl) rfl rfl (by simp only [List.map_toArray, List.map_cons, List.map_nil]; rfl) ?_
  with_reducible refine (join_n (ws.drop k) (ws.length - k) HDK.out A9 (co - k) tx _ (by repeat (first | exact HX.out | (with_reducible refine Kd.C_alloc ?_ _) | (with_reducible refine Kd.C_drewN ?_ _) | (with_reducible refine Kd.C_drew ?_))) hk2 HJ2.out).mono ?_
  rintro e W3 ⟨rfl, hb⟩
  refine ⟨_, rfl, ?_⟩
  (have m0_ := Aside0.mk (Kd.R_below (by (with_reducible repeat (first | apply Kd.R_alloc | apply Kd.R_drewN | apply Kd.R_drew)); exact HR.out) hb); have m1_ := Aside0.mk (Kd.R_below (by (with_reducible repeat (first | apply Kd.R_alloc | apply Kd.R_drewN | apply Kd.R_drew)); exact HP.out) hb); have m2_ := Aside0.mk (Kd.R_below (by (with_reducible repeat (first | apply Kd.R_alloc | apply Kd.R_drewN | apply Kd.R_drew)); exact HQ.out) hb); have n1_ := Aside0.mk (below_step (by repeat (first | exact HB.out | apply below_alloc | apply pw_below_drewN | apply below_drew1)) hb); clear HR HP HQ HB hb; have HR := m0_; have HP := m1_; have HQ := m2_; have HB := n1_; clear m0_ m1_ m2_ n1_)
  refine hK.out _ _ ((by obtain ⟨ap2, e2, h2⟩ := Kd.at_string (Kd.R_reads' HP.out).2.2 (27 : Int) (by omega) (by show (27 : Int) < (28 : Nat); omega); cases e2; rw [HOD.out] at h2; exact h2)) (fun hHeld => ?_)
  clear hK K
  refine norm_ (a' := ?_) ?_ ?_
  rotate_left
  · show Act.put _ (some 62) _ = _
    simp only [Act.put, List.setIfInBounds_toArray, List.set_cons_zero, List.set_cons_succ, i64_w, i32_w]
    rfl
  refine pure_ (i := 12) (N := some 63) (v := ?_) (a' := ?_) #[true, true, true, true, true, true, true, true, true, true, true, true, true, false] rfl rfl (by kernel_rfl) (fun _ _ _ h => h) (Or.inl ⟨by rfl, ?_⟩) ?_ ?_
  rotate_left
  · intro w'
    go_simp
    with_reducible rfl
  rotate_left
  · simp only [Act.put, List.setIfInBounds_toArray, List.set_cons_zero, List.set_cons_succ, i64_w, i32_w]
    rfl
  refine pure_ (i := 13) (N := some 14) (v := ?_) (a' := ?_) #[true, true, true, true, true, true, true, true, true, true, true, true, true, true] rfl rfl (by kernel_rfl) (fun _ _ _ h => h) (Or.inl ⟨by rfl, ?_⟩) ?_ ?_
  rotate_left
  · intro w'
    go_simp
    with_reducible rfl
  rotate_left
  · simp only [Act.put, List.setIfInBounds_toArray, List.set_cons_zero, List.set_cons_succ, i64_w, i32_w]
    rfl
  refine done_ (by kernel_rfl) ?_
  have hTT := HT.out
  have HCT := Aside0.mk hct
  clear hct
  have hTs : T.size = sx.size + 1 + od.size + 1 + tx.size := by rw [← HT.out, ByteArray.size_append, ByteArray.size_append, ByteArray.size_append, ByteArray.size_append, hs10]
  have hle : (sx.size : Int) + 1 ≤ (T.size : Int) := by omega
  clear hTs
  clear hc1 hc2 hc3 hc4 hc5 hc6 hc7 hcut hld HX
  go_wp2_with (first | (go_at_call 8; (with_reducible refine (lex_Words.calls T out pl er _ HW.out ?sideg).mono ?_); (case sideg => exact GV.below HG.out (by repeat (first | exact HB.out | apply below_alloc | apply pw_below_drewN | apply below_drew1))); rintro e w79 ⟨v39, rfl, ho, hb⟩; obtain ⟨Ax, cx, eo⟩ := Kd.R_slice ho; subst eo; clear ho; have m0_ := Aside0.mk (Kd.R_below (by (with_reducible repeat (first | apply Kd.R_alloc | apply Kd.R_drewN | apply Kd.R_drew)); exact HQ.out) hb); have n1_ := Aside0.mk (below_step (by repeat (first | exact HB.out | apply below_alloc | apply pw_below_drewN | apply below_drew1)) hb); clear HQ HB hb; have HQ := m0_; have HB := n1_; clear m0_ n1_) | (go_at_call 9; (with_reducible refine (works_true _ (GV.below HG.out (by repeat (first | exact HB.out | apply below_alloc | apply pw_below_drewN | apply below_drew1)))).mono ?_); rintro e w99 ⟨rfl, hb⟩; have n1_ := Aside0.mk (below_step (by repeat (first | exact HB.out | apply below_alloc | apply pw_below_drewN | apply below_drew1)) hb); clear HB hb; have HB := n1_; clear n1_) | (go_at_call 15; (with_reducible refine (strings_Contains.calls (T.extract (sx.size + 1) T.size) ⟨#[42, 47]⟩ true _ HCT.out (GV.below HG.out (by repeat (first | exact HB.out | apply below_alloc | apply pw_below_drewN | apply below_drew1)))).mono ?_); rintro e w89 ⟨rfl, ⟨nd3, rfl⟩⟩))
  go_ret
  exact ⟨rfl, HB.out⟩
end Go.Proofs.YtihidbjffclfkaaDoor.PLex
