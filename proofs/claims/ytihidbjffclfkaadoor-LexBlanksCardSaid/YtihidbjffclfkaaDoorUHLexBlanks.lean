/- Part of the proof: what it uses of HLexBlanks. -/
import Derived.Test.YtihidbjffclfkaaDoorUHEq3
import Derived.Test.YtihidbjffclfkaaDoorUHJoin
import Derived.Test.YtihidbjffclfkaaDoorUHMade
import Derived.Test.YtihidbjffclfkaaDoorUHWorks
namespace Go.Proofs.YtihidbjffclfkaaDoor.PLex
open Go.RowKit Go.Maps Go.Proofs.YtihidbjffclfkaaDoorW.PrintWords Go.Proofs.YtihidbjffclfkaaDoorW.PrintLast Go.Proofs.YtihidbjffclfkaaDoorW.PrintMore Go.Proofs.YtihidbjffclfkaaDoor.Lx
attribute [local go_sem] max2_int min2_int max_two min_two max_three min_three max_four min_four
attribute [local go_sem high] eqA28
set_option linter.unusedVariables false
set_option linter.unusedSimpArgs false
def padsL : List ByteArray := [(⟨#[32]⟩ : ByteArray), (⟨#[10]⟩ : ByteArray), (⟨#[9, 13, 10]⟩ : ByteArray), (⟨#[32, 47, 47, 32, 39, 108, 101, 116, 32, 42, 47, 10]⟩ : ByteArray), (⟨#[47, 42, 32, 47, 47, 32, 10, 32, 42, 42, 32, 42, 47]⟩ : ByteArray), (⟨#[32, 47, 42, 42, 47, 47, 42, 42, 42, 47, 10]⟩ : ByteArray)]
structure Padded (how : List Int) (ws : List S28) (txt : Nat → ByteArray) : Prop where
  zero : txt 0 = ⟨#[]⟩
  small : ∀ i, i ≤ ws.length + 1 → (txt i).size ≤ 60000
  pad : ∀ i, i ≤ ws.length → ∃ pad : ByteArray, pad.size ≤ 20 ∧ (how = [] → pad = ⟨#[32]⟩) ∧ (how ≠ [] → ∃ b : Nat, b < 6 ∧ signetryref00_Bring.f (rd how ((i % how.length : Nat) : Int)) 6 = some (b : Int) ∧ rdOf ByteArray.empty padsL (b : Int) = pad) ∧
    (i < ws.length → ∃ j : ByteArray, j.size ≤ 200 ∧ lex_Join.f [rd_T28 ws (i : Int)] = some j ∧ txt (i + 1) = (txt i ++ pad) ++ j) ∧ (i = ws.length → txt (i + 1) = txt i ++ pad)
theorem one_of {w : World} {a : Addr} {n : Nat} {xs : List S28} (h : Kd.C k28 w (some a) n xs) (i : Nat) (hi : i < n) (c : Nat) (hc : n ≤ c) : Kd.C k28 w (some (a.add (i * 4))) 1 [rd_T28 xs (i : Int)] := by
  have hn : xs.length = n := h.1
  subst hn
  have h2 := Kd.C_mid (lo := i) (hi := i + 1) (c := c) h (by omega) (by omega) hc
  rw [if_neg (by omega)] at h2
  have e : (xs.take (i + 1)).drop i = [rd_T28 xs (i : Int)] := by
    rw [rdT_get xs i hi, List.take_add_one, List.getElem?_eq_getElem hi, List.drop_append_of_le_length (by rw [List.length_take]; omega)]
    simp
  rw [e] at h2
  exact h2
set_option maxRecDepth 100000 in
set_option maxHeartbeats 6400000 in
theorem LexBlanks_ok (l : List S56) (A0 : Option Addr) (c0 : Nat) (how : List Int) (A1 : Option Addr) (c1 : Nat) (w : World) (hr0 : Kd.C k56 w A0 l.length l) (hc0 : l.length ≤ c0) (hr1 : Kd.C (Kd.int .i64) w A1 how.length how) (hc1 : how.length ≤ c1) (hlh : how.length ≤ 9223372036854775807) (hg : GV w) (K : Nat)
    (ws : List S28) (hws : ws.length ≤ 60) (hrow : signetrylaw03_row.f K l = some ws) (txt : Nat → ByteArray) (hp : Padded how ws txt) (out : List S28) (hw : lex_Words.f (txt (ws.length + 1) ++ ⟨#[47, 47]⟩) = some (out, 0, 0)) (hol : out.length = ws.length + 1)
    (hall : ∀ i : Nat, i < ws.length → (rd_T28 out (i : Int)).f0 = (rd_T28 ws (i : Int)).f0 ∧ (rd_T28 out (i : Int)).f2 = (rd_T28 ws (i : Int)).f2 ∧ (rd_T28 out (i : Int)).f3 = (rd_T28 ws (i : Int)).f3) :
    Calls Tryd.prog 6 #[.slice A0 l.length c0, .slice A1 how.length c1] w fun e w' => e = .returned (.bool true) ∧ Below w.heap.size w w' := by
  have HR0 := Aside0.mk hr0
  have HC0 := Aside0.mk hc0
  have HR1 := Aside0.mk hr1
  have HC1 := Aside0.mk hc1
  have HG := Aside0.mk hg
  have HB := Aside0.mk (Below.refl w.heap.size w)
  have HROW := Aside0.mk hrow
  have HPD := Aside0.mk hp
  have HW := Aside0.mk hw
  have HALL := Aside0.mk hall
  have HOL := Aside0.mk hol
  have HWS := Aside0.mk hws
  have HLH := Aside0.mk hlh
  clear hr0 hc0 hr1 hc1 hg hrow hp hw hall hol hws hlh
  go_enter Tryd.func6, Tryd.ntmps6
  go_wp2_with (first | (go_at_call 14; (with_reducible refine (signetrylaw03_row.calls K A0 c0 l ws _ ?side1 HC0.out HROW.out).mono ?_); (case side1 => exact Kd.C_below HR0.out (by repeat (first | exact HB.out | apply below_alloc | apply pw_below_drewN | apply below_drew1))); rintro e w19 ⟨v19, rfl, ho, hb⟩; obtain ⟨Ao, co, eo⟩ := Kd.R_slice ho; subst eo; have n0_ := Aside0.mk (Kd.R_lower ho (below_size (by repeat (first | exact HB.out | apply below_alloc | apply pw_below_drewN | apply below_drew1)))); have n1_ := Aside0.mk (below_step (by repeat (first | exact HB.out | apply below_alloc | apply pw_below_drewN | apply below_drew1)) hb); clear HB ho hb; have HB := n1_; have HR := n0_; clear n1_ n0_) | ((with_reducible refine gate_dst (N := 16) rfl ?_); refine Kd.R_lit Kd.string _ 9 ?hg (N := 16) ?hd (xs := (padsL : List ByteArray)) (inner := [.string (⟨#[32]⟩ : ByteArray), .string (⟨#[10]⟩ : ByteArray), .string (⟨#[9, 13, 10]⟩ : ByteArray), .string (⟨#[32, 47, 47, 32, 39, 108, 101, 116, 32, 42, 47, 10]⟩ : ByteArray), .string (⟨#[47, 42, 32, 47, 47, 32, 10, 32, 42, 42, 32, 42, 47]⟩ : ByteArray), .string (⟨#[32, 47, 42, 42, 47, 47, 42, 42, 42, 47, 10]⟩ : ByteArray)]) (ok := fun _ => True) (okp := fun _ => True) ?hr ?hp (fun _ hk => hk) trivial (Below.refl _ _) (Nat.le_refl _) (by simp [padsL]) ?_; (case hd => rfl); (case hg => rfl); (case hr => first | (go_simp; done) | (go_simp; rfl)); (case hp => exact (Reps.one (show Kd.M Kd.string _ _ _ (⟨#[32]⟩ : ByteArray) [.string (⟨#[32]⟩ : ByteArray)] from rfl) (Reps.one (show Kd.M Kd.string _ _ _ (⟨#[10]⟩ : ByteArray) [.string (⟨#[10]⟩ : ByteArray)] from rfl) (Reps.one (show Kd.M Kd.string _ _ _ (⟨#[9, 13, 10]⟩ : ByteArray) [.string (⟨#[9, 13, 10]⟩ : ByteArray)] from rfl) (Reps.one (show Kd.M Kd.string _ _ _ (⟨#[32, 47, 47, 32, 39, 108, 101, 116, 32, 42, 47, 10]⟩ : ByteArray) [.string (⟨#[32, 47, 47, 32, 39, 108, 101, 116, 32, 42, 47, 10]⟩ : ByteArray)] from rfl) (Reps.one (show Kd.M Kd.string _ _ _ (⟨#[47, 42, 32, 47, 47, 32, 10, 32, 42, 42, 32, 42, 47]⟩ : ByteArray) [.string (⟨#[47, 42, 32, 47, 47, 32, 10, 32, 42, 42, 32, 42, 47]⟩ : ByteArray)] from rfl) (Reps.one (show Kd.M Kd.string _ _ _ (⟨#[32, 47, 42, 42, 47, 47, 42, 42, 42, 47, 10]⟩ : ByteArray) [.string (⟨#[32, 47, 42, 42, 47, 47, 42, 42, 42, 47, 10]⟩ : ByteArray)] from rfl) (Reps.none _ _)))))))); intro v29 w29 ho hb hg_ hnew_; clear hg_ hnew_; obtain ⟨Ap, cp, ep⟩ := Kd.R_slice ho; rw [show padsL.length = 6 from rfl] at ep; subst ep; have n3_ := Aside0.mk (Kd.R_lower ho (below_size (by repeat (first | exact HB.out | apply below_alloc | apply pw_below_drewN | apply below_drew1)))); clear ho; have m0_ := Aside0.mk (Kd.R_below (by (with_reducible repeat (first | apply Kd.R_alloc | apply Kd.R_drewN | apply Kd.R_drew)); exact HR.out) hb); have n1_ := Aside0.mk (below_step (by repeat (first | exact HB.out | apply below_alloc | apply pw_below_drewN | apply below_drew1)) hb); clear HR HB hb; have HR := m0_; have HB := n1_; clear m0_ n1_; have HP := n3_; clear n3_))
  go_loopg [7, 8, 9] (ws.length + 1) (fun kq v7 v8 v9 w' => ∃ i : Nat, v7 = .string (txt i) ∧ v8 = .int .i64 (i : Int) ∧ Aside0 (kq + i = ws.length + 1) ∧ Aside0 (Below w.heap.size w w') ∧ Aside0 (Kd.R k28 28 w' w.heap.size (fun _ => True) (.slice Ao ws.length co) ws) ∧ Aside0 (Kd.R Kd.string 9 w' w.heap.size (fun _ => True) (.slice Ap 6 cp) padsL))
  case atStart => exact ⟨0, by rw [HPD.out.zero], rfl, ⟨by omega⟩, HB, HR, HP⟩
  case round =>
    clear HB HR HP
    obtain ⟨i, rfl, rfl, HK, HB, HR, HP⟩ := hrel
    by_cases hi : i ≤ ws.length
    · have c1 : decide ((i : Int) ≤ (ws.length : Int)) = true := decide_eq_true (by omega)
      have c2 : (i : Int) ≤ (ws.length : Int) := by omega
      obtain ⟨pad, g1, g2, g3, g4, g5⟩ := HPD.out.pad i hi
      have hsm := HPD.out.small i (by omega)
      have hco := (Kd.R_reads' HR.out).2.1
      have hcat1 : ¬ 9223372036854775807 < (txt i).size + pad.size := by omega
      have hcat2 : ¬ 9223372036854775807 < (txt i ++ pad).size := by rw [ByteArray.size_append]; omega
      have s4 : IntKind.i64.wrap ((i : Int) + 1) = (i : Int) + 1 := IntWalk.i64_in _ (by have := HWS.out; omega)
      have s5 : wrap64 ((i : Int) + 1) = (i : Int) + 1 := IntWalk.wrap64_in _ (by have := HWS.out; omega)
      by_cases hh : how = []
      · obtain rfl := g2 hh
        have f1 : how.length = 0 := by rw [hh]; rfl
        have f2 : decide ((how.length : Int) > 0) = false := decide_eq_false (by omega)
        have f3 : ¬ 0 < (how.length : Int) := by omega
        have f4 : ¬ 0 < how.length := by omega
        clear g2 g3 hh f1
        by_cases hin : i < ws.length
        · obtain ⟨j, k1, k2, k3⟩ := g4 hin
          obtain ⟨ao, eao, -⟩ := at_T28 (Kd.R_reads' HR.out).2.2 0 (by omega) (by omega)
          subst eao
          have HJ := Aside0.mk k2
          have HX := Aside0.mk (one_of (Kd.R_reads' HR.out).2.2 i (by omega) co hco)
          have hx1 : 1 ≤ co - i := by omega
          have d1 : decide ((i : Int) < (ws.length : Int)) = true := decide_eq_true (by omega)
          have d2 : (i : Int) < (ws.length : Int) := by omega
          have d3 : ¬ (co = i) := by omega
          have d4 : (i : Int) + 1 ≤ (co : Int) := by omega
          have d5 : (i : Int) ≤ (i : Int) + 1 := by omega
          have d6 : (0 : Int) ≤ (i : Int) + 1 := by omega
          have hcat3 : ¬ 9223372036854775807 < (txt i).size + (⟨#[32]⟩ : ByteArray).size + j.size := by omega
          have hcat4 : ¬ 9223372036854775807 < (txt i ++ (⟨#[32]⟩ : ByteArray)).size + j.size := by rw [ByteArray.size_append]; omega
          have K3 := Aside0.mk k3
          clear k2 k3 g4 g5
          go_wp2_with ((go_at_call 11; refine (lex_Join.calls _ _ [rd_T28 ws (i : Int)] j _ ?side1 ?side2 HJ.out).mono ?_; (case side1 => exact (by repeat (first | exact HX.out | (with_reducible refine Kd.C_alloc ?_ _) | (with_reducible refine Kd.C_drewN ?_ _) | (with_reducible refine Kd.C_drew ?_)))); (case side2 => exact hx1); rintro e w49 ⟨rfl, hb⟩; have m0_ := Aside0.mk (Kd.R_below (by (with_reducible repeat (first | apply Kd.R_alloc | apply Kd.R_drewN | apply Kd.R_drew)); exact HR.out) hb); have m1_ := Aside0.mk (Kd.R_below (by (with_reducible repeat (first | apply Kd.R_alloc | apply Kd.R_drewN | apply Kd.R_drew)); exact HP.out) hb); have n1_ := Aside0.mk (below_step (by repeat (first | exact HB.out | apply below_alloc | apply pw_below_drewN | apply below_drew1)) hb); clear HR HP HB hb; have HR := m0_; have HP := m1_; have HB := n1_; clear m0_ m1_ n1_))
          go_roundg (ws.length + 1 - (i + 1))
          case measure => have := HK.out; omega
          case rel => exact ⟨i + 1, (by rw [K3.out]), (by first | rfl | (show Value.int .i64 (wrap64 ((i : Int) + 1)) = _; rw [s5]; rfl)), ⟨by omega⟩, ⟨by repeat (first | exact HB.out | apply below_alloc | apply pw_below_drewN | apply below_drew1)⟩, ⟨by (with_reducible repeat (first | apply Kd.R_alloc | apply Kd.R_drewN | apply Kd.R_drew)); exact HR.out⟩, ⟨by (with_reducible repeat (first | apply Kd.R_alloc | apply Kd.R_drewN | apply Kd.R_drew)); exact HP.out⟩⟩
        · have hin2 : i = ws.length := by omega
          have K3 := Aside0.mk (g5 hin2)
          have d1 : decide ((i : Int) < (ws.length : Int)) = false := decide_eq_false (by omega)
          have d2 : ¬ (i : Int) < (ws.length : Int) := by omega
          clear g4 g5 hin2
          go_wp2
          go_roundg (ws.length + 1 - (i + 1))
          case measure => have := HK.out; omega
          case rel => exact ⟨i + 1, (by rw [K3.out]), (by first | rfl | (show Value.int .i64 (wrap64 ((i : Int) + 1)) = _; rw [s5]; rfl)), ⟨by omega⟩, ⟨by repeat (first | exact HB.out | apply below_alloc | apply pw_below_drewN | apply below_drew1)⟩, ⟨by (with_reducible repeat (first | apply Kd.R_alloc | apply Kd.R_drewN | apply Kd.R_drew)); exact HR.out⟩, ⟨by (with_reducible repeat (first | apply Kd.R_alloc | apply Kd.R_drewN | apply Kd.R_drew)); exact HP.out⟩⟩
      · obtain ⟨b, b1, b2, b3⟩ := g3 hh
        have f1 : how.length ≠ 0 := fun h => hh (List.length_eq_zero_iff.1 h)
        have f2 : decide ((how.length : Int) > 0) = true := decide_eq_true (by omega)
        have f3 : 0 < (how.length : Int) := by omega
        have f4 : 0 < how.length := by omega
        have f5 : ((how.length : Int) == 0) = false := by simp; omega
        have hm : i % how.length < how.length := Nat.mod_lt _ f4
        have ftm : Int.tmod (i : Int) (how.length : Int) = ((i % how.length : Nat) : Int) := by rw [Int.tmod_eq_emod_of_nonneg (by omega)]; rfl
        obtain ⟨m, hmm⟩ : ∃ m, m = i % how.length := ⟨_, rfl⟩
        rw [← hmm] at hm ftm b2
        have hm2 : Int.emod (i : Int) (how.length : Int) = (m : Int) := by rw [hmm]; rfl
        have hm3 : (i : Int) % (how.length : Int) = (m : Int) := by rw [hmm]; rfl
        have p1 : (0 ≤ (m : Int)) = True := eq_true (by omega)
        have q1 : ((m : Int) < (how.length : Int)) = True := eq_true (by omega)
        have f6 : ¬ (how.length : Int) = 0 := by omega
        have f7 : (how.length : Int) ≠ 0 := by omega
        obtain ⟨ah, eah, hh0⟩ := Kd.at_int (Kd.C_below HR1.out HB.out) (m : Int) (by omega) (by omega)
        subst eah
        obtain ⟨ap, eap, hp0⟩ := Kd.at_string (Kd.R_reads' HP.out).2.2 (b : Int) (by omega) (by show (b : Int) < (6 : Nat); omega)
        subst eap
        rw [b3] at hp0
        obtain ⟨hv, hhv⟩ : ∃ hv, hv = rd how (m : Int) := ⟨_, rfl⟩
        rw [← hhv] at hh0 b2
        simp only [Int.toNat_natCast] at hh0 hp0
        have HBR := Aside0.mk b2
        have p2 : (0 ≤ (b : Int)) = True := eq_true (by omega)
        have q2 : ((b : Int) < 6) = True := eq_true (by omega)
        have q2b : b < 6 := b1
        clear g2 g3 hh b2 b3 hhv hmm
        by_cases hin : i < ws.length
        · obtain ⟨j, k1, k2, k3⟩ := g4 hin
          obtain ⟨ao, eao, -⟩ := at_T28 (Kd.R_reads' HR.out).2.2 0 (by omega) (by omega)
          subst eao
          have HJ := Aside0.mk k2
          have HX := Aside0.mk (one_of (Kd.R_reads' HR.out).2.2 i (by omega) co hco)
          have hx1 : 1 ≤ co - i := by omega
          have d1 : decide ((i : Int) < (ws.length : Int)) = true := decide_eq_true (by omega)
          have d2 : (i : Int) < (ws.length : Int) := by omega
          have d3 : ¬ (co = i) := by omega
          have d4 : (i : Int) + 1 ≤ (co : Int) := by omega
          have d5 : (i : Int) ≤ (i : Int) + 1 := by omega
          have d6 : (0 : Int) ≤ (i : Int) + 1 := by omega
          have hcat3 : ¬ 9223372036854775807 < (txt i).size + pad.size + j.size := by omega
          have hcat4 : ¬ 9223372036854775807 < (txt i ++ pad).size + j.size := by rw [ByteArray.size_append]; omega
          have K3 := Aside0.mk k3
          clear k2 k3 g4 g5
          go_wp2_with (first | (go_at_call 10; (with_reducible refine (signetryref00_Bring.calls hv 6 (b : Int) _ HBR.out).mono ?_); rintro e w59 ⟨rfl, ⟨nd, rfl⟩⟩) | (go_at_call 11; refine (lex_Join.calls _ _ [rd_T28 ws (i : Int)] j _ ?side1 ?side2 HJ.out).mono ?_; (case side1 => exact (by repeat (first | exact HX.out | (with_reducible refine Kd.C_alloc ?_ _) | (with_reducible refine Kd.C_drewN ?_ _) | (with_reducible refine Kd.C_drew ?_)))); (case side2 => exact hx1); rintro e w49 ⟨rfl, hb⟩; have m0_ := Aside0.mk (Kd.R_below (by (with_reducible repeat (first | apply Kd.R_alloc | apply Kd.R_drewN | apply Kd.R_drew)); exact HR.out) hb); have m1_ := Aside0.mk (Kd.R_below (by (with_reducible repeat (first | apply Kd.R_alloc | apply Kd.R_drewN | apply Kd.R_drew)); exact HP.out) hb); have n1_ := Aside0.mk (below_step (by repeat (first | exact HB.out | apply below_alloc | apply pw_below_drewN | apply below_drew1)) hb); clear HR HP HB hb; have HR := m0_; have HP := m1_; have HB := n1_; clear m0_ m1_ n1_))
          go_roundg (ws.length + 1 - (i + 1))
          case measure => have := HK.out; omega
          case rel => exact ⟨i + 1, (by rw [K3.out]), (by first | rfl | (show Value.int .i64 (wrap64 ((i : Int) + 1)) = _; rw [s5]; rfl)), ⟨by omega⟩, ⟨by repeat (first | exact HB.out | apply below_alloc | apply pw_below_drewN | apply below_drew1)⟩, ⟨by (with_reducible repeat (first | apply Kd.R_alloc | apply Kd.R_drewN | apply Kd.R_drew)); exact HR.out⟩, ⟨by (with_reducible repeat (first | apply Kd.R_alloc | apply Kd.R_drewN | apply Kd.R_drew)); exact HP.out⟩⟩
        · have hin2 : i = ws.length := by omega
          have K3 := Aside0.mk (g5 hin2)
          have d1 : decide ((i : Int) < (ws.length : Int)) = false := decide_eq_false (by omega)
          have d2 : ¬ (i : Int) < (ws.length : Int) := by omega
          clear g4 g5 hin2
          go_wp2_with ((go_at_call 10; (with_reducible refine (signetryref00_Bring.calls hv 6 (b : Int) _ HBR.out).mono ?_); rintro e w59 ⟨rfl, ⟨nd, rfl⟩⟩))
          go_roundg (ws.length + 1 - (i + 1))
          case measure => have := HK.out; omega
          case rel => exact ⟨i + 1, (by rw [K3.out]), (by first | rfl | (show Value.int .i64 (wrap64 ((i : Int) + 1)) = _; rw [s5]; rfl)), ⟨by omega⟩, ⟨by repeat (first | exact HB.out | apply below_alloc | apply pw_below_drewN | apply below_drew1)⟩, ⟨by (with_reducible repeat (first | apply Kd.R_alloc | apply Kd.R_drewN | apply Kd.R_drew)); exact HR.out⟩, ⟨by (with_reducible repeat (first | apply Kd.R_alloc | apply Kd.R_drewN | apply Kd.R_drew)); exact HP.out⟩⟩
    · have c1 : decide ((i : Int) ≤ (ws.length : Int)) = false := decide_eq_false (by omega)
      have c2 : ¬ (i : Int) ≤ (ws.length : Int) := by omega
      obtain rfl : i = ws.length + 1 := by have := HK.out; omega
      have hsm := HPD.out.small (ws.length + 1) (by omega)
      have hcat : ¬ 9223372036854775807 < (txt (ws.length + 1)).size + 2 := by omega
      have hcat2 : ¬ 9223372036854775807 < (txt (ws.length + 1)).size + (⟨#[47, 47]⟩ : ByteArray).size := by have : (⟨#[47, 47]⟩ : ByteArray).size = 2 := rfl; omega
      have e1 : ((out.length : Int) == (ws.length : Int) + 1) = true := by rw [HOL.out]; simp
      have e2 : ((out.length : Int) != (ws.length : Int) + 1) = false := by rw [HOL.out]; simp
      have e3 : wrap64 ((ws.length : Int) + 1) = (ws.length : Int) + 1 := IntWalk.wrap64_in _ (by have := HWS.out; omega)
      clear hsm HK
      go_wp2_with ((go_at_call 8; (with_reducible refine (lex_Words.calls (txt (ws.length + 1) ++ ⟨#[47, 47]⟩) out 0 0 _ HW.out ?sideg).mono ?_); (case sideg => exact GV.below HG.out (by repeat (first | exact HB.out | apply below_alloc | apply pw_below_drewN | apply below_drew1))); rintro e w39 ⟨v39, rfl, ho, hb⟩; obtain ⟨Aq, cq, eo⟩ := Kd.R_slice ho; subst eo; have n3_ := Aside0.mk (Kd.R_lower ho (below_size (by repeat (first | exact HB.out | apply below_alloc | apply pw_below_drewN | apply below_drew1)))); clear ho; have m0_ := Aside0.mk (Kd.R_below (by (with_reducible repeat (first | apply Kd.R_alloc | apply Kd.R_drewN | apply Kd.R_drew)); exact HR.out) hb); have n1_ := Aside0.mk (below_step (by repeat (first | exact HB.out | apply below_alloc | apply pw_below_drewN | apply below_drew1)) hb); clear HR HB hb; have HR := m0_; have HB := n1_; clear m0_ n1_; have HO := n3_; clear n3_))
      clear e1 e2 e3 c1 c2 hcat hcat2 HP
      go_loopg [13] ws.length (fun kq v13 w' => ∃ i : Nat, v13 = .int .i64 (i : Int) ∧ Aside0 (kq + i = ws.length) ∧ Aside0 (Below w.heap.size w w') ∧ Aside0 (Kd.R k28 28 w' w.heap.size (fun _ => True) (.slice Ao ws.length co) ws) ∧ Aside0 (Kd.R k28 28 w' w.heap.size (fun _ => True) (.slice Aq out.length cq) out))
      case atStart => exact ⟨0, rfl, ⟨by omega⟩, HB, HR, HO⟩
      case round =>
        clear HB HR HO
        obtain ⟨i, rfl, HK, HB, HR, HO⟩ := hrel
        by_cases hi : i < ws.length
        · have c1 : decide ((i : Int) < (ws.length : Int)) = true := decide_eq_true (by omega)
          have c2 : (i : Int) < (ws.length : Int) := by omega
          obtain ⟨ad2, e_, hx0, hx1, hx2, hx3⟩ := at_T28 (Kd.R_reads' HR.out).2.2 (i : Int) (by omega) (by omega)
          subst e_
          obtain ⟨ad3, e_, hy0, hy1, hy2, hy3⟩ := at_T28 (Kd.R_reads' HO.out).2.2 (i : Int) (by omega) (by have := HOL.out; omega)
          subst e_
          obtain ⟨a1, a2, a3⟩ := HALL.out i hi
          rw [a1] at hy0
          rw [a2] at hy2
          rw [a3] at hy3
          simp only [Int.toNat_natCast] at hx0 hx1 hx2 hx3 hy0 hy1 hy2 hy3
          obtain ⟨x, hx⟩ : ∃ x, x = rd_T28 ws (i : Int) := ⟨_, rfl⟩
          rw [← hx] at hx0 hx2 hx3 hy0 hy2 hy3
          obtain ⟨xk, xa, xt, xn⟩ := x
          simp only at hx0 hx2 hx3 hy0 hy2 hy3
          clear hx hx1 hy1 a1 a2 a3
          have p0 : (0 ≤ (i : Int)) = True := eq_true (by omega)
          have q0 : ((i : Int) < (ws.length : Int)) = True := eq_true (by omega)
          have q1 : ((i : Int) < (out.length : Int)) = True := eq_true (by have := HOL.out; omega)
          have q3 : i < out.length := by have := HOL.out; omega
          go_wp2
          go_quiet (fail)
          go_wp2
          go_roundg (ws.length - (i + 1))
          case measure => have := HK.out; omega
          case rel => exact ⟨i + 1, (by first | rfl | (show Value.int .i64 (wrap64 ((i : Int) + 1)) = _; rw [IntWalk.wrap64_in _ (by have := HWS.out; omega)]; rfl)), ⟨by omega⟩, ⟨by repeat (first | exact HB.out | apply below_alloc | apply pw_below_drewN | apply below_drew1)⟩, ⟨by (with_reducible repeat (first | apply Kd.R_alloc | apply Kd.R_drewN | apply Kd.R_drew)); exact HR.out⟩, ⟨by (with_reducible repeat (first | apply Kd.R_alloc | apply Kd.R_drewN | apply Kd.R_drew)); exact HO.out⟩⟩
        · have c1 : decide ((i : Int) < (ws.length : Int)) = false := decide_eq_false (by omega)
          have c2 : ¬ (i : Int) < (ws.length : Int) := by omega
          go_wp2_with ((go_at_call 9; (with_reducible refine (works_true _ (GV.below HG.out (by repeat (first | exact HB.out | apply below_alloc | apply pw_below_drewN | apply below_drew1)))).mono ?_); rintro e w99 ⟨rfl, hb⟩; have n1_ := Aside0.mk (below_step (by repeat (first | exact HB.out | apply below_alloc | apply pw_below_drewN | apply below_drew1)) hb); clear HB hb; have HB := n1_; clear n1_))
          go_ret
          exact ⟨rfl, HB.out⟩
end Go.Proofs.YtihidbjffclfkaaDoor.PLex
