/- Part of the proof: what it uses of HLexCuts. -/
import Derived.Test.YtihidbjffclfkaaGreatDoorBHREq
import Derived.Test.YtihidbjffclfkaaGreatDoorBHWorks
namespace Go.Proofs.YtihidbjffclfkaaGreatDoor.PLex
open Go.RowKit Go.Maps Go.Proofs.YtihidbjffclfkaaGreatDoorW.PrintWords Go.Proofs.YtihidbjffclfkaaGreatDoorW.PrintLast Go.Proofs.YtihidbjffclfkaaGreatDoorW.PrintMore Go.Proofs.YtihidbjffclfkaaGreatDoor.Lx
attribute [local go_sem] max2_int min2_int max_two min_two max_three min_three max_four min_four
set_option linter.unusedVariables false
set_option linter.unusedSimpArgs false
set_option maxRecDepth 100000 in
set_option maxHeartbeats 3200000 in
theorem LexCuts_of (k : Nat) (a0 : ByteArray) (w : World) (hg : GV w) (m : Nat) (hm2 : (if (2000 : Int) < (a0.size : Int) then (2000 : Int) else (a0.size : Int)) = (m : Int)) (hm1 : (m : Int) ≤ (a0.size : Int)) (l : List S33) (x y : Int)
    (h6 : lex_Words.f (a0.extract 0 m) = some (l, x, y)) (h7 : signetryref03_Words.f k (a0.extract 0 m) = some (l, x, y)) (h8 : signetryref03_Same.f k l l = some true) :
    Calls Tryz.prog 3 #[.string a0] w fun e w' => e = .returned (.bool true) ∧ Below w.heap.size w w' := by
  have HG := Aside0.mk hg
  have HB := Aside0.mk (Below.refl w.heap.size w)
  have hm0 : (0 : Int) ≤ (m : Int) := by omega
  have A6 := Aside0.mk h6
  have A7 := Aside0.mk h7
  have A8 := Aside0.mk h8
  clear h6 h7 h8 hg
  go_enter Tryz.func3, Tryz.ntmps3
  go_wp2_with (first | (go_at_call 5; (with_reducible refine (lex_Words.calls (a0.extract 0 m) l x y _ A6.out ?sideg).mono ?_); (case sideg => exact GV.below HG.out (by repeat (first | exact HB.out | apply below_alloc | apply pw_below_drewN | apply below_drew1))); rintro e w9 ⟨v174, rfl, ho, hb⟩; obtain ⟨Ao, co, eo⟩ := Kd.R_slice ho; subst eo; have n0_ := Aside0.mk (Kd.R_lower ho (below_size (by repeat (first | exact HB.out | apply below_alloc | apply pw_below_drewN | apply below_drew1)))); have n1_ := Aside0.mk (below_step (by repeat (first | exact HB.out | apply below_alloc | apply pw_below_drewN | apply below_drew1)) hb); clear HB ho hb; have HB := n1_; have HO := n0_; clear n1_ n0_) | (go_at_call 6; (with_reducible refine (signetryref03_Words.calls k (a0.extract 0 m) l x y _ A7.out).mono ?_); rintro e w29 ⟨v274, rfl, ho, hb⟩; obtain ⟨Ao2, co2, eo⟩ := Kd.R_slice ho; subst eo; have n0_ := Aside0.mk (Kd.R_mono (ok' := fun _ => True) (Kd.R_elder' (by (with_reducible repeat (first | apply Kd.R_alloc | apply Kd.R_drewN | apply Kd.R_drew)); exact HO.out) (Kd.R_base ho) hb) (fun _ _ => trivial)); have n2_ := Aside0.mk (Kd.R_lower ho (below_size (by repeat (first | exact HB.out | apply below_alloc | apply pw_below_drewN | apply below_drew1)))); have n1_ := Aside0.mk (below_step (by repeat (first | exact HB.out | apply below_alloc | apply pw_below_drewN | apply below_drew1)) hb); clear HB HO ho hb; have HB := n1_; have HO := n0_; have HO2 := n2_; clear n1_ n0_ n2_) | (go_at_call 7; (with_reducible refine (signetryref03_Same.calls k Ao co l Ao2 co2 l true _ ?s1 ?s2 ?s3 ?s4 A8.out).mono ?_); (case s1 => exact (Kd.R_reads' (by (with_reducible repeat (first | apply Kd.R_alloc | apply Kd.R_drewN | apply Kd.R_drew)); exact HO.out)).2.2); (case s2 => exact (Kd.R_reads' HO.out).2.1); (case s3 => exact (Kd.R_reads' (by (with_reducible repeat (first | apply Kd.R_alloc | apply Kd.R_drewN | apply Kd.R_drew)); exact HO2.out)).2.2); (case s4 => exact (Kd.R_reads' HO2.out).2.1); rintro e w' ⟨rfl, ⟨nd, rfl⟩⟩) | (go_at_call 8; (with_reducible refine (works_true _ (GV.below HG.out (by repeat (first | exact HB.out | apply below_alloc | apply pw_below_drewN | apply below_drew1)))).mono ?_); rintro e w19 ⟨rfl, hb⟩; have n1_ := Aside0.mk (below_step (by repeat (first | exact HB.out | apply below_alloc | apply pw_below_drewN | apply below_drew1)) hb); clear HB hb; have HB := n1_; clear n1_))
  go_ret
  exact ⟨rfl, HB.out⟩
theorem LexCuts_walk (a0 : ByteArray) (w : World) (hg : GV w) :
    Calls Tryz.prog 3 #[.string a0] w fun e w' => e = .returned (.bool true) ∧ Below w.heap.size w w' := by
  obtain ⟨m, hm⟩ : ∃ m : Nat, m = min a0.size 2000 := ⟨_, rfl⟩
  have hsz : (a0.extract 0 m).size = m := by rw [ByteArray.size_extract]; omega
  obtain ⟨l, x, y, hr, hl⟩ : ∃ l x y, ofRes (lexS (a0.extract 0 m).data.toList) = (l, x, y) ∧ l.length ≤ 1000000 := by
    refine ⟨_, _, _, rfl, ?_⟩
    have hx := lexS_lexed (a0.extract 0 m).data.toList
    rw [← Lib.size_eq, hsz] at hx
    cases hres : lexS (a0.extract 0 m).data.toList with
    | bad p e => simp [ofRes]
    | ok ts =>
      rw [hres] at hx
      have := hx.count ts rfl
      rw [← Lib.size_eq, hsz] at this
      simp only [ofRes, List.length_map]
      omega
  have h6 := words_eq (a0.extract 0 m) (by omega)
  have h7 := rwords_eq (a0.extract 0 m) (by omega) 2000000 (by omega)
  rw [hr] at h6 h7
  exact LexCuts_of 2000000 a0 w hg m (by split <;> omega) (by omega) l x y h6 h7 (rsame l hl _ (by omega))
end Go.Proofs.YtihidbjffclfkaaGreatDoor.PLex
