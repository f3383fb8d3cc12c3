/- Part of the proof: what it uses of HLexKnown. -/
import Derived.Test.YtihidbjffclfkaaGreatDoorBHLexCuts
import Derived.Test.YtihidbjffclfkaaGreatDoorBHLexJoins
namespace Go.Proofs.YtihidbjffclfkaaGreatDoor.PLex
open Go.RowKit Go.Maps Go.Proofs.YtihidbjffclfkaaGreatDoorW.PrintWords Go.Proofs.YtihidbjffclfkaaGreatDoorW.PrintLast Go.Proofs.YtihidbjffclfkaaGreatDoorW.PrintMore Go.Proofs.YtihidbjffclfkaaGreatDoor.Lx
attribute [local go_sem] max2_int min2_int max_two min_two max_three min_three max_four min_four
set_option linter.unusedVariables false
set_option linter.unusedSimpArgs false
def headsL : List ByteArray := [(⟨#[]⟩ : ByteArray), (⟨#[97]⟩ : ByteArray), (⟨#[65, 95]⟩ : ByteArray), (⟨#[49]⟩ : ByteArray), (⟨#[48]⟩ : ByteArray), (⟨#[48, 120]⟩ : ByteArray), (⟨#[39]⟩ : ByteArray), (⟨#[39, 97]⟩ : ByteArray), (⟨#[39, 92]⟩ : ByteArray), (⟨#[34, 92, 120, 52]⟩ : ByteArray), (⟨#[47]⟩ : ByteArray), (⟨#[47, 47]⟩ : ByteArray), (⟨#[47, 42]⟩ : ByteArray), (⟨#[47, 42, 42]⟩ : ByteArray), (⟨#[46]⟩ : ByteArray), (⟨#[45]⟩ : ByteArray)]
def oddL : List ByteArray := [(⟨#[]⟩ : ByteArray), (⟨#[97, 98, 99, 100, 101, 102, 103, 104, 105, 106, 107, 108, 109, 110, 111, 112, 113, 114, 115, 116, 117, 118, 119, 120, 121, 122, 97, 98, 99, 100, 101, 102]⟩ : ByteArray), ((⟨#[97, 98, 99, 100, 101, 102, 103, 104, 105, 106, 107, 108, 109, 110, 111, 112, 113, 114, 115, 116, 117, 118, 119, 120, 121, 122, 97, 98, 99, 100, 101, 102]⟩ : ByteArray) ++ (⟨#[103]⟩ : ByteArray)), (⟨#[50, 49, 52, 55, 52, 56, 51, 54, 52, 56]⟩ : ByteArray), (⟨#[50, 49, 52, 55, 52, 56, 51, 54, 52, 57]⟩ : ByteArray), (⟨#[48, 50, 48, 48, 48, 48, 48, 48, 48, 48, 48, 48]⟩ : ByteArray), (⟨#[48, 50, 48, 48, 48, 48, 48, 48, 48, 48, 48, 49]⟩ : ByteArray), (⟨#[48, 120, 56, 48, 48, 48, 48, 48, 48, 48]⟩ : ByteArray), (⟨#[48, 120, 56, 48, 48, 48, 48, 48, 48, 49]⟩ : ByteArray), (⟨#[57, 57, 57, 57, 57, 57, 57, 57, 57, 57, 57, 57, 57, 57, 57, 57, 57, 57, 57, 57, 57, 57, 57]⟩ : ByteArray), (⟨#[48, 48]⟩ : ByteArray), (⟨#[48, 48, 48, 48, 48, 48, 48, 48, 48, 48, 48, 48, 48, 48, 48, 48, 48, 48, 48, 48, 48, 48, 48, 48, 48, 48, 48, 48, 48, 48, 48, 48, 48, 48, 48, 48, 48, 48, 48, 48, 48, 48, 48, 48, 48, 48, 48, 48, 48]⟩ : ByteArray), (⟨#[39, 10, 39]⟩ : ByteArray), (⟨#[39, 92, 10, 39]⟩ : ByteArray), (⟨#[39, 97, 34, 39]⟩ : ByteArray), (⟨#[34, 97, 39, 34]⟩ : ByteArray), (⟨#[39, 39, 34, 34]⟩ : ByteArray), (⟨#[39, 92, 39]⟩ : ByteArray), (⟨#[39, 92, 39, 39]⟩ : ByteArray), (⟨#[47, 42, 47]⟩ : ByteArray), (⟨#[47, 42, 42, 47]⟩ : ByteArray), (⟨#[47, 42, 47, 42, 47]⟩ : ByteArray), (⟨#[47, 47]⟩ : ByteArray), (⟨#[97, 47, 47, 98]⟩ : ByteArray), (⟨#[97, 47, 42, 42, 47, 98]⟩ : ByteArray), (⟨#[49, 46, 50]⟩ : ByteArray), (⟨#[45, 49]⟩ : ByteArray), (⟨#[97, 45, 98]⟩ : ByteArray), (⟨#[49, 101, 53]⟩ : ByteArray), (⟨#[39, 97, 39, 98]⟩ : ByteArray)]
theorem heads_small (j : Nat) (hj : j < 16) : (rdOf ByteArray.empty headsL (j : Int)).size ≤ 100 := by
  have key : ∀ n : Fin 16, (rdOf ByteArray.empty headsL (n.1 : Int)).size ≤ 100 := by decide +kernel
  exact key ⟨j, hj⟩
theorem odd_small (j : Nat) (hj : j < 30) : (rdOf ByteArray.empty oddL (j : Int)).size ≤ 100 := by
  have key : ∀ n : Fin 30, (rdOf ByteArray.empty oddL (n.1 : Int)).size ≤ 100 := by decide +kernel
  exact key ⟨j, hj⟩
theorem sn_size (xs : List Int) : (strOfNums xs).size = xs.length := by
  rw [Lib.size_eq, strOfNums_data]
  simp
theorem fill0 (m : Nat) : List.replicate m (0 : Int) = List.replicate 0 32 ++ List.replicate (m - 0) 0 := by simp
theorem fill_step (m n : Nat) (h : n < m) : (List.replicate n (32 : Int) ++ List.replicate (m - n) 0).set n 32 = List.replicate (n + 1) 32 ++ List.replicate (m - (n + 1)) 0 := by
  obtain ⟨d, rfl⟩ : ∃ d, m = n + 1 + d := ⟨m - (n + 1), by omega⟩
  rw [show n + 1 + d - n = d + 1 by omega, show n + 1 + d - (n + 1) = d by omega, List.set_append_right _ _ (by simp), List.length_replicate, Nat.sub_self, List.replicate_succ, List.set_cons_zero, List.replicate_succ', List.append_assoc]
  rfl
theorem fill_end (m : Nat) : List.replicate m (32 : Int) ++ List.replicate (m - m) 0 = List.replicate m 32 := by rw [Nat.sub_self]; exact List.append_nil _
theorem words_too_long (s : ByteArray) (h : 65536 < s.size) : lex_Words.f s = some ([], 0, 5) := by
  unfold lex_Words.f
  rw [if_neg (by omega)]
theorem skip_blank : ∀ (m k : Nat), m ≤ k → skipL k (List.replicate m (32 : UInt8)) = ([], true)
  | 0, 0, _ => rfl
  | 0, _ + 1, _ => rfl
  | m + 1, 0, h => by omega
  | m + 1, k + 1, h => by
    rw [List.replicate_succ]
    unfold skipL
    rw [if_pos (by decide)]
    exact skip_blank m k (by omega)
theorem words_blank (m : Nat) (hm : m ≤ 65536) : lex_Words.f (strOfNums ((List.replicate (m + 1) (32 : Int)).drop 1)) = some ([(⟨0, (m : Int), (⟨#[]⟩ : ByteArray), 0⟩ : S33)], 0, 0) := by
  have hd : (List.replicate (m + 1) (32 : Int)).drop 1 = List.replicate m 32 := by rw [List.replicate_succ]; rfl
  rw [hd, words_eq _ (by rw [sn_size, List.length_replicate]; exact hm), strOfNums_data, List.map_replicate]
  have hl : lexS (List.replicate m (UInt8.ofNat (32 : Int).toNat)) = .ok [⟨0, m, [], 0⟩] := by
    have hs := skip_blank m m (Nat.le_refl _)
    unfold lexS lexL
    rw [List.length_replicate]
    rw [show skipL m (List.replicate m (UInt8.ofNat (32 : Int).toNat)) = ([], true) from hs]
    rfl
  rw [hl]
  rfl
theorem cut_bytes (w1 : World) {w0 : Nat} (g c : Nat) (xs : List Int) (hl : xs.length = 65537) (h : Kd.R (Kd.int .u8) 5 w1 w0 (fun _ => True) (.slice (some ⟨g, 0, none⟩) 65537 c) xs) :
    ∃ A1 c1, (∀ W : World, (Instr.slice 29 (.slice (some ⟨g, 0, none⟩) 65537 c) (some (.int .i64 1)) none none).run Tryz.prog W = .ok (.slice A1 65536 c1) W) ∧ Kd.C (Kd.int .u8) w1 A1 65536 (xs.drop 1) := by
  obtain ⟨i0, hi, _, hsz, _⟩ := info_parts info5
  have hC := (Kd.R_reads' h).2.2
  have hroom := (Kd.R_reads' h).2.1
  have hcut := cut_from (P := Tryz.prog) 29 5 .i64 Tryz.underlying29 hi 1 hsz (some ⟨g, 0, none⟩) 65537 c 1 (by decide) (by decide)
  rw [hl] at hC
  have hr := Kd.C_drop (m := (1 : Int).toNat) (c := c) (by rw [hl]; exact hC) (by rw [hl]; decide) (by rw [hl]; exact hroom)
  rw [List.length_drop, hl] at hr
  exact ⟨_, _, hcut, hr⟩
theorem joins_n (l : List S33) (n : Nat) (hn : l.length = n) (A0 : Option Addr) (c0 : Nat) (w : World) (hr0 : Kd.C k33 w A0 n l) (hc0 : n ≤ c0) (hl : n ≤ 9223372036854775807) (hg : GV w) :
    Calls Tryz.prog 9 #[.slice A0 n c0] w fun e w' => e = .returned (.bool true) ∧ Below w.heap.size w w' := by
  subst hn
  exact LexJoins_walk l A0 c0 w hr0 hc0 hl hg
set_option maxRecDepth 100000 in
set_option maxHeartbeats 32000000 in
theorem LexKnown_walk (w : World) (hg : GV w) : Calls Tryz.prog 4 #[] w fun e w' => e = .returned (.bool true) ∧ Below w.heap.size w w' := by
  have HG := Aside0.mk hg
  clear hg
  have hu33 := Tryz.underlying33
  have HB := Aside0.mk (Below.refl w.heap.size w)
  go_enter Tryz.func4, Tryz.ntmps4
  go_wp2
  go_loopg [1] 256 (fun kq v1 w' => ∃ x1 : Int, v1 = .int .i64 x1 ∧ Aside0 (0 ≤ x1 ∧ x1 ≤ 256 ∧ (kq : Int) = 256 - x1) ∧ Aside0 (Below w.heap.size w w'))
  case atStart => exact ⟨0, rfl, ⟨by omega⟩, HB⟩
  case round =>
    clear HB
    obtain ⟨x1, rfl, HK, HB⟩ := hrel
    by_cases hi : x1 < 256
    · obtain ⟨k1, rfl⟩ : ∃ k1, gk = k1 + 1 := ⟨gk - 1, by have := HK.out; omega⟩
      have c1 : decide (x1 < 256) = true := decide_eq_true hi
      clear hi
      obtain ⟨sx, hsx⟩ : ∃ sx, sx = strOfNums [x1 % 256] := ⟨_, rfl⟩
      have hs1 : sx.size ≤ 1 := by rw [hsx, sn_size]; exact Nat.le_refl _
      have HSX := Aside0.mk hsx
      clear hsx
      go_wp2_with (first | ((with_reducible refine gate_dst (N := 22) rfl ?_); refine Kd.R_lit (Kd.int .u8) _ 5 ?hg (N := 22) ?hd (xs := [(x1 % 256)]) (inner := [.int .u8 (x1 % 256)]) (ok := fun _ => True) (okp := fun _ => True) ?hr ?hp (fun _ hk => hk) trivial (Below.refl _ _) (Nat.le_refl _) (by simp) ?_; (case hd => rfl); (case hg => rfl); (case hr => first | (go_simp; done) | (go_simp; rfl)); (case hp => exact (Reps.one (show Kd.M (Kd.int .u8) _ _ _ (x1 % 256) [.int .u8 (x1 % 256)] from rfl) (Reps.none _ _))); intro v29 w29 ho hb hg_ hnew_; clear hg_ hnew_; obtain ⟨Ax, cAx, ep⟩ := Kd.R_slice ho; rw [show [(x1 % 256)].length = 1 from rfl] at ep; subst ep; have n3_ := Aside0.mk (Kd.R_lower ho (below_size (by repeat (first | exact HB.out | apply below_alloc | apply pw_below_drewN | apply below_drew1)))); clear ho; have n1_ := Aside0.mk (below_step (by repeat (first | exact HB.out | apply below_alloc | apply pw_below_drewN | apply below_drew1)) hb); clear HB hb; have HB := n1_; clear n1_; have HX := n3_; clear n3_; have hcv := own_string (P := Tryz.prog) Tryz.underlying29 Tryz.underlying5 Tryz.underlying9 (Kd.own_of_R HX.out); rw [← HSX.out] at hcv; clear HX) | ((with_reducible refine gate_dst (N := 24) rfl ?_); refine Kd.R_lit Kd.string _ 9 ?hg (N := 24) ?hd (xs := headsL) (inner := [.string (⟨#[]⟩ : ByteArray), .string (⟨#[97]⟩ : ByteArray), .string (⟨#[65, 95]⟩ : ByteArray), .string (⟨#[49]⟩ : ByteArray), .string (⟨#[48]⟩ : ByteArray), .string (⟨#[48, 120]⟩ : ByteArray), .string (⟨#[39]⟩ : ByteArray), .string (⟨#[39, 97]⟩ : ByteArray), .string (⟨#[39, 92]⟩ : ByteArray), .string (⟨#[34, 92, 120, 52]⟩ : ByteArray), .string (⟨#[47]⟩ : ByteArray), .string (⟨#[47, 47]⟩ : ByteArray), .string (⟨#[47, 42]⟩ : ByteArray), .string (⟨#[47, 42, 42]⟩ : ByteArray), .string (⟨#[46]⟩ : ByteArray), .string (⟨#[45]⟩ : ByteArray)]) (ok := fun _ => True) (okp := fun _ => True) ?hr ?hp (fun _ hk => hk) trivial (Below.refl _ _) (Nat.le_refl _) (by simp [headsL]) ?_; (case hd => rfl); (case hg => rfl); (case hr => first | (go_simp; done) | (go_simp; rfl)); (case hp => exact (Reps.one (show Kd.M Kd.string _ _ _ (⟨#[]⟩ : ByteArray) [.string (⟨#[]⟩ : ByteArray)] from rfl) (Reps.one (show Kd.M Kd.string _ _ _ (⟨#[97]⟩ : ByteArray) [.string (⟨#[97]⟩ : ByteArray)] from rfl) (Reps.one (show Kd.M Kd.string _ _ _ (⟨#[65, 95]⟩ : ByteArray) [.string (⟨#[65, 95]⟩ : ByteArray)] from rfl) (Reps.one (show Kd.M Kd.string _ _ _ (⟨#[49]⟩ : ByteArray) [.string (⟨#[49]⟩ : ByteArray)] from rfl) (Reps.one (show Kd.M Kd.string _ _ _ (⟨#[48]⟩ : ByteArray) [.string (⟨#[48]⟩ : ByteArray)] from rfl) (Reps.one (show Kd.M Kd.string _ _ _ (⟨#[48, 120]⟩ : ByteArray) [.string (⟨#[48, 120]⟩ : ByteArray)] from rfl) (Reps.one (show Kd.M Kd.string _ _ _ (⟨#[39]⟩ : ByteArray) [.string (⟨#[39]⟩ : ByteArray)] from rfl) (Reps.one (show Kd.M Kd.string _ _ _ (⟨#[39, 97]⟩ : ByteArray) [.string (⟨#[39, 97]⟩ : ByteArray)] from rfl) (Reps.one (show Kd.M Kd.string _ _ _ (⟨#[39, 92]⟩ : ByteArray) [.string (⟨#[39, 92]⟩ : ByteArray)] from rfl) (Reps.one (show Kd.M Kd.string _ _ _ (⟨#[34, 92, 120, 52]⟩ : ByteArray) [.string (⟨#[34, 92, 120, 52]⟩ : ByteArray)] from rfl) (Reps.one (show Kd.M Kd.string _ _ _ (⟨#[47]⟩ : ByteArray) [.string (⟨#[47]⟩ : ByteArray)] from rfl) (Reps.one (show Kd.M Kd.string _ _ _ (⟨#[47, 47]⟩ : ByteArray) [.string (⟨#[47, 47]⟩ : ByteArray)] from rfl) (Reps.one (show Kd.M Kd.string _ _ _ (⟨#[47, 42]⟩ : ByteArray) [.string (⟨#[47, 42]⟩ : ByteArray)] from rfl) (Reps.one (show Kd.M Kd.string _ _ _ (⟨#[47, 42, 42]⟩ : ByteArray) [.string (⟨#[47, 42, 42]⟩ : ByteArray)] from rfl) (Reps.one (show Kd.M Kd.string _ _ _ (⟨#[46]⟩ : ByteArray) [.string (⟨#[46]⟩ : ByteArray)] from rfl) (Reps.one (show Kd.M Kd.string _ _ _ (⟨#[45]⟩ : ByteArray) [.string (⟨#[45]⟩ : ByteArray)] from rfl) (Reps.none _ _)))))))))))))))))); intro v29 w29 ho hb hg_ hnew_; clear hg_ hnew_; obtain ⟨Ap, cAp, ep⟩ := Kd.R_slice ho; rw [show headsL.length = 16 from rfl] at ep; subst ep; have n3_ := Aside0.mk (Kd.R_lower ho (below_size (by repeat (first | exact HB.out | apply below_alloc | apply pw_below_drewN | apply below_drew1)))); clear ho; have n1_ := Aside0.mk (below_step (by repeat (first | exact HB.out | apply below_alloc | apply pw_below_drewN | apply below_drew1)) hb); clear HB hb; have HB := n1_; clear n1_; have HP := n3_; clear n3_))
      clear hcv
      go_loopg [4] 16 (fun kq v4 w' => ∃ j : Nat, v4 = .int .i64 (j : Int) ∧ Aside0 (kq + j = 16) ∧ Aside0 (Kd.R Kd.string 9 w' w.heap.size (fun _ => True) (.slice Ap 16 cAp) headsL) ∧ Aside0 (Below w.heap.size w w'))
      case atStart => exact ⟨0, rfl, ⟨by omega⟩, ⟨by (with_reducible repeat (first | apply Kd.R_alloc | apply Kd.R_drewN | apply Kd.R_drew)); exact HP.out⟩, HB⟩
      case round =>
        clear HB HP c1
        obtain ⟨j, rfl, HJ, HP, HB⟩ := hrel
        by_cases hj0 : j < 16
        · have hj := eq_true hj0
          have c2 : decide ((j : Int) < 16) = true := decide_eq_true (by omega)
          have c3 : (0 ≤ (j : Int)) = True := eq_true (by omega)
          have c4 : ((j : Int) < 16) = True := eq_true (by omega)
          obtain ⟨ap, eap, hx⟩ := Kd.at_string (Kd.R_reads' HP.out).2.2 (j : Int) (by omega) (by show (j : Int) < (16 : Nat); omega)
          subst eap
          obtain ⟨od, hod⟩ : ∃ od, od = rdOf ByteArray.empty headsL (j : Int) := ⟨_, rfl⟩
          have hos : od.size ≤ 100 := by rw [hod]; exact heads_small j hj0
          rw [← hod] at hx
          have HOD := Aside0.mk hod.symm
          clear hod
          simp only [Int.toNat_natCast] at hx
          have hc1 : ¬ 9223372036854775807 < od.size + sx.size := by omega
          have hc2 : ¬ 9223372036854775807 < (od ++ sx : ByteArray).size + 1 := by rw [ByteArray.size_append]; omega
          have hc3 : ¬ 9223372036854775807 < (od ++ sx : ByteArray).size + 3 := by rw [ByteArray.size_append]; omega
          have hc4 : ¬ 9223372036854775807 < sx.size + od.size := by omega
          go_wp2_with (go_at_call 3; (with_reducible refine (LexCuts_walk _ _ (GV.below HG.out (by repeat (first | exact HB.out | apply below_alloc | apply pw_below_drewN | apply below_drew1)))).mono ?_); rintro e w9 ⟨rfl, hb⟩; have m0_ := Aside0.mk (Kd.R_below (by (with_reducible repeat (first | apply Kd.R_alloc | apply Kd.R_drewN | apply Kd.R_drew)); exact HP.out) hb); have n1_ := Aside0.mk (below_step (by repeat (first | exact HB.out | apply below_alloc | apply pw_below_drewN | apply below_drew1)) hb); clear HP HB hb; have HP := m0_; have HB := n1_; clear n1_ m0_; obtain ⟨ap2_, e2_, hx2_⟩ := Kd.at_string (Kd.R_reads' HP.out).2.2 (j : Int) (by omega) (by show (j : Int) < (16 : Nat); omega); cases e2_; rw [HOD.out] at hx2_; simp only [Int.toNat_natCast] at hx2_; clear hx; have hx := hx2_; clear hx2_)
          clear hx hc1 hc2 hc3 hc4
          go_roundg (16 - (j + 1))
          case measure => have := HJ.out; omega
          case rel => exact ⟨j + 1, (by first | rfl | (show Value.int .i64 (wrap64 ((j : Int) + 1)) = _; rw [IntWalk.wrap64_in _ (by omega)]; rfl)), ⟨by omega⟩, ⟨by (with_reducible repeat (first | apply Kd.R_alloc | apply Kd.R_drewN | apply Kd.R_drew)); exact HP.out⟩, ⟨by repeat (first | exact HB.out | apply below_alloc | apply pw_below_drewN | apply below_drew1)⟩⟩
        · have c2 : decide ((j : Int) < 16) = false := decide_eq_false (by omega)
          go_wp2
          go_roundg k1
          case measure => omega
          case rel => exact ⟨wrap64 (x1 + 1), rfl, ⟨by have := HK.out; rw [IntWalk.wrap64_in _ (by omega)]; omega⟩, ⟨by repeat (first | exact HB.out | apply below_alloc | apply pw_below_drewN | apply below_drew1)⟩⟩
    · have c1 : decide (x1 < 256) = false := decide_eq_false hi
      clear hi
      go_wp2_with ((with_reducible refine gate_dst (N := 74) rfl ?_); refine Kd.R_lit Kd.string _ 9 ?hg (N := 74) ?hd (xs := oddL) (inner := [.string (⟨#[]⟩ : ByteArray), .string (⟨#[97, 98, 99, 100, 101, 102, 103, 104, 105, 106, 107, 108, 109, 110, 111, 112, 113, 114, 115, 116, 117, 118, 119, 120, 121, 122, 97, 98, 99, 100, 101, 102]⟩ : ByteArray), .string ((⟨#[97, 98, 99, 100, 101, 102, 103, 104, 105, 106, 107, 108, 109, 110, 111, 112, 113, 114, 115, 116, 117, 118, 119, 120, 121, 122, 97, 98, 99, 100, 101, 102]⟩ : ByteArray) ++ (⟨#[103]⟩ : ByteArray)), .string (⟨#[50, 49, 52, 55, 52, 56, 51, 54, 52, 56]⟩ : ByteArray), .string (⟨#[50, 49, 52, 55, 52, 56, 51, 54, 52, 57]⟩ : ByteArray), .string (⟨#[48, 50, 48, 48, 48, 48, 48, 48, 48, 48, 48, 48]⟩ : ByteArray), .string (⟨#[48, 50, 48, 48, 48, 48, 48, 48, 48, 48, 48, 49]⟩ : ByteArray), .string (⟨#[48, 120, 56, 48, 48, 48, 48, 48, 48, 48]⟩ : ByteArray), .string (⟨#[48, 120, 56, 48, 48, 48, 48, 48, 48, 49]⟩ : ByteArray), .string (⟨#[57, 57, 57, 57, 57, 57, 57, 57, 57, 57, 57, 57, 57, 57, 57, 57, 57, 57, 57, 57, 57, 57, 57]⟩ : ByteArray), .string (⟨#[48, 48]⟩ : ByteArray), .string (⟨#[48, 48, 48, 48, 48, 48, 48, 48, 48, 48, 48, 48, 48, 48, 48, 48, 48, 48, 48, 48, 48, 48, 48, 48, 48, 48, 48, 48, 48, 48, 48, 48, 48, 48, 48, 48, 48, 48, 48, 48, 48, 48, 48, 48, 48, 48, 48, 48, 48]⟩ : ByteArray), .string (⟨#[39, 10, 39]⟩ : ByteArray), .string (⟨#[39, 92, 10, 39]⟩ : ByteArray), .string (⟨#[39, 97, 34, 39]⟩ : ByteArray), .string (⟨#[34, 97, 39, 34]⟩ : ByteArray), .string (⟨#[39, 39, 34, 34]⟩ : ByteArray), .string (⟨#[39, 92, 39]⟩ : ByteArray), .string (⟨#[39, 92, 39, 39]⟩ : ByteArray), .string (⟨#[47, 42, 47]⟩ : ByteArray), .string (⟨#[47, 42, 42, 47]⟩ : ByteArray), .string (⟨#[47, 42, 47, 42, 47]⟩ : ByteArray), .string (⟨#[47, 47]⟩ : ByteArray), .string (⟨#[97, 47, 47, 98]⟩ : ByteArray), .string (⟨#[97, 47, 42, 42, 47, 98]⟩ : ByteArray), .string (⟨#[49, 46, 50]⟩ : ByteArray), .string (⟨#[45, 49]⟩ : ByteArray), .string (⟨#[97, 45, 98]⟩ : ByteArray), .string (⟨#[49, 101, 53]⟩ : ByteArray), .string (⟨#[39, 97, 39, 98]⟩ : ByteArray)]) (ok := fun _ => True) (okp := fun _ => True) ?hr ?hp (fun _ hk => hk) trivial (Below.refl _ _) (Nat.le_refl _) (by simp [oddL]) ?_; (case hd => rfl); (case hg => rfl); (case hr => first | (go_simp; done) | (go_simp; rfl)); (case hp => exact (Reps.one (show Kd.M Kd.string _ _ _ (⟨#[]⟩ : ByteArray) [.string (⟨#[]⟩ : ByteArray)] from rfl) (Reps.one (show Kd.M Kd.string _ _ _ (⟨#[97, 98, 99, 100, 101, 102, 103, 104, 105, 106, 107, 108, 109, 110, 111, 112, 113, 114, 115, 116, 117, 118, 119, 120, 121, 122, 97, 98, 99, 100, 101, 102]⟩ : ByteArray) [.string (⟨#[97, 98, 99, 100, 101, 102, 103, 104, 105, 106, 107, 108, 109, 110, 111, 112, 113, 114, 115, 116, 117, 118, 119, 120, 121, 122, 97, 98, 99, 100, 101, 102]⟩ : ByteArray)] from rfl) (Reps.one (show Kd.M Kd.string _ _ _ ((⟨#[97, 98, 99, 100, 101, 102, 103, 104, 105, 106, 107, 108, 109, 110, 111, 112, 113, 114, 115, 116, 117, 118, 119, 120, 121, 122, 97, 98, 99, 100, 101, 102]⟩ : ByteArray) ++ (⟨#[103]⟩ : ByteArray)) [.string ((⟨#[97, 98, 99, 100, 101, 102, 103, 104, 105, 106, 107, 108, 109, 110, 111, 112, 113, 114, 115, 116, 117, 118, 119, 120, 121, 122, 97, 98, 99, 100, 101, 102]⟩ : ByteArray) ++ (⟨#[103]⟩ : ByteArray))] from rfl) (Reps.one (show Kd.M Kd.string _ _ _ (⟨#[50, 49, 52, 55, 52, 56, 51, 54, 52, 56]⟩ : ByteArray) [.string (⟨#[50, 49, 52, 55, 52, 56, 51, 54, 52, 56]⟩ : ByteArray)] from rfl) (Reps.one (show Kd.M Kd.string _ _ _ (⟨#[50, 49, 52, 55, 52, 56, 51, 54, 52, 57]⟩ : ByteArray) [.string (⟨#[50, 49, 52, 55, 52, 56, 51, 54, 52, 57]⟩ : ByteArray)] from rfl) (Reps.one (show Kd.M Kd.string _ _ _ (⟨#[48, 50, 48, 48, 48, 48, 48, 48, 48, 48, 48, 48]⟩ : ByteArray) [.string (⟨#[48, 50, 48, 48, 48, 48, 48, 48, 48, 48, 48, 48]⟩ : ByteArray)] from rfl) (Reps.one (show Kd.M Kd.string _ _ _ (⟨#[48, 50, 48, 48, 48, 48, 48, 48, 48, 48, 48, 49]⟩ : ByteArray) [.string (⟨#[48, 50, 48, 48, 48, 48, 48, 48, 48, 48, 48, 49]⟩ : ByteArray)] from rfl) (Reps.one (show Kd.M Kd.string _ _ _ (⟨#[48, 120, 56, 48, 48, 48, 48, 48, 48, 48]⟩ : ByteArray) [.string (⟨#[48, 120, 56, 48, 48, 48, 48, 48, 48, 48]⟩ : ByteArray)] from rfl) (Reps.one (show Kd.M Kd.string _ _ _ (⟨#[48, 120, 56, 48, 48, 48, 48, 48, 48, 49]⟩ : ByteArray) [.string (⟨#[48, 120, 56, 48, 48, 48, 48, 48, 48, 49]⟩ : ByteArray)] from rfl) (Reps.one (show Kd.M Kd.string _ _ _ (⟨#[57, 57, 57, 57, 57, 57, 57, 57, 57, 57, 57, 57, 57, 57, 57, 57, 57, 57, 57, 57, 57, 57, 57]⟩ : ByteArray) [.string (⟨#[57, 57, 57, 57, 57, 57, 57, 57, 57, 57, 57, 57, 57, 57, 57, 57, 57, 57, 57, 57, 57, 57, 57]⟩ : ByteArray)] from rfl) (Reps.one (show Kd.M Kd.string _ _ _ (⟨#[48, 48]⟩ : ByteArray) [.string (⟨#[48, 48]⟩ : ByteArray)] from rfl) (Reps.one (show Kd.M Kd.string _ _ _ (⟨#[48, 48, 48, 48, 48, 48, 48, 48, 48, 48, 48, 48, 48, 48, 48, 48, 48, 48, 48, 48, 48, 48, 48, 48, 48, 48, 48, 48, 48, 48, 48, 48, 48, 48, 48, 48, 48, 48, 48, 48, 48, 48, 48, 48, 48, 48, 48, 48, 48]⟩ : ByteArray) [.string (⟨#[48, 48, 48, 48, 48, 48, 48, 48, 48, 48, 48, 48, 48, 48, 48, 48, 48, 48, 48, 48, 48, 48, 48, 48, 48, 48, 48, 48, 48, 48, 48, 48, 48, 48, 48, 48, 48, 48, 48, 48, 48, 48, 48, 48, 48, 48, 48, 48, 48]⟩ : ByteArray)] from rfl) (Reps.one (show Kd.M Kd.string _ _ _ (⟨#[39, 10, 39]⟩ : ByteArray) [.string (⟨#[39, 10, 39]⟩ : ByteArray)] from rfl) (Reps.one (show Kd.M Kd.string _ _ _ (⟨#[39, 92, 10, 39]⟩ : ByteArray) [.string (⟨#[39, 92, 10, 39]⟩ : ByteArray)] from rfl) (Reps.one (show Kd.M Kd.string _ _ _ (⟨#[39, 97, 34, 39]⟩ : ByteArray) [.string (⟨#[39, 97, 34, 39]⟩ : ByteArray)] from rfl) (Reps.one (show Kd.M Kd.string _ _ _ (⟨#[34, 97, 39, 34]⟩ : ByteArray) [.string (⟨#[34, 97, 39, 34]⟩ : ByteArray)] from rfl) (Reps.one (show Kd.M Kd.string _ _ _ (⟨#[39, 39, 34, 34]⟩ : ByteArray) [.string (⟨#[39, 39, 34, 34]⟩ : ByteArray)] from rfl) (Reps.one (show Kd.M Kd.string _ _ _ (⟨#[39, 92, 39]⟩ : ByteArray) [.string (⟨#[39, 92, 39]⟩ : ByteArray)] from rfl) (Reps.one (show Kd.M Kd.string _ _ _ (⟨#[39, 92, 39, 39]⟩ : ByteArray) [.string (⟨#[39, 92, 39, 39]⟩ : ByteArray)] from rfl) (Reps.one (show Kd.M Kd.string _ _ _ (⟨#[47, 42, 47]⟩ : ByteArray) [.string (⟨#[47, 42, 47]⟩ : ByteArray)] from rfl) (Reps.one (show Kd.M Kd.string _ _ _ (⟨#[47, 42, 42, 47]⟩ : ByteArray) [.string (⟨#[47, 42, 42, 47]⟩ : ByteArray)] from rfl) (Reps.one (show Kd.M Kd.string _ _ _ (⟨#[47, 42, 47, 42, 47]⟩ : ByteArray) [.string (⟨#[47, 42, 47, 42, 47]⟩ : ByteArray)] from rfl) (Reps.one (show Kd.M Kd.string _ _ _ (⟨#[47, 47]⟩ : ByteArray) [.string (⟨#[47, 47]⟩ : ByteArray)] from rfl) (Reps.one (show Kd.M Kd.string _ _ _ (⟨#[97, 47, 47, 98]⟩ : ByteArray) [.string (⟨#[97, 47, 47, 98]⟩ : ByteArray)] from rfl) (Reps.one (show Kd.M Kd.string _ _ _ (⟨#[97, 47, 42, 42, 47, 98]⟩ : ByteArray) [.string (⟨#[97, 47, 42, 42, 47, 98]⟩ : ByteArray)] from rfl) (Reps.one (show Kd.M Kd.string _ _ _ (⟨#[49, 46, 50]⟩ : ByteArray) [.string (⟨#[49, 46, 50]⟩ : ByteArray)] from rfl) (Reps.one (show Kd.M Kd.string _ _ _ (⟨#[45, 49]⟩ : ByteArray) [.string (⟨#[45, 49]⟩ : ByteArray)] from rfl) (Reps.one (show Kd.M Kd.string _ _ _ (⟨#[97, 45, 98]⟩ : ByteArray) [.string (⟨#[97, 45, 98]⟩ : ByteArray)] from rfl) (Reps.one (show Kd.M Kd.string _ _ _ (⟨#[49, 101, 53]⟩ : ByteArray) [.string (⟨#[49, 101, 53]⟩ : ByteArray)] from rfl) (Reps.one (show Kd.M Kd.string _ _ _ (⟨#[39, 97, 39, 98]⟩ : ByteArray) [.string (⟨#[39, 97, 39, 98]⟩ : ByteArray)] from rfl) (Reps.none _ _)))))))))))))))))))))))))))))))); intro v29 w29 ho hb hg_ hnew_; clear hg_ hnew_; obtain ⟨Ap, cAp, ep⟩ := Kd.R_slice ho; rw [show oddL.length = 30 from rfl] at ep; subst ep; have n3_ := Aside0.mk (Kd.R_lower ho (below_size (by repeat (first | exact HB.out | apply below_alloc | apply pw_below_drewN | apply below_drew1)))); clear ho; have n1_ := Aside0.mk (below_step (by repeat (first | exact HB.out | apply below_alloc | apply pw_below_drewN | apply below_drew1)) hb); clear HB hb; have HB := n1_; clear n1_; have HP := n3_; clear n3_)
      go_loopg [7] 30 (fun kq v7 w' => ∃ j : Nat, v7 = .int .i64 (j : Int) ∧ Aside0 (kq + j = 30) ∧ Aside0 (Kd.R Kd.string 9 w' w.heap.size (fun _ => True) (.slice Ap 30 cAp) oddL) ∧ Aside0 (Below w.heap.size w w'))
      case atStart => exact ⟨0, rfl, ⟨by omega⟩, ⟨by (with_reducible repeat (first | apply Kd.R_alloc | apply Kd.R_drewN | apply Kd.R_drew)); exact HP.out⟩, HB⟩
      case round =>
        clear HB HP c1
        obtain ⟨j, rfl, HJ, HP, HB⟩ := hrel
        by_cases hj0 : j < 30
        · have hj := eq_true hj0
          have c2 : decide ((j : Int) < 30) = true := decide_eq_true (by omega)
          have c3 : (0 ≤ (j : Int)) = True := eq_true (by omega)
          have c4 : ((j : Int) < 30) = True := eq_true (by omega)
          obtain ⟨ap, eap, hx⟩ := Kd.at_string (Kd.R_reads' HP.out).2.2 (j : Int) (by omega) (by show (j : Int) < (30 : Nat); omega)
          subst eap
          obtain ⟨od, hod⟩ : ∃ od, od = rdOf ByteArray.empty oddL (j : Int) := ⟨_, rfl⟩
          have hos : od.size ≤ 100 := by rw [hod]; exact odd_small j hj0
          rw [← hod] at hx
          have HOD := Aside0.mk hod.symm
          clear hod
          simp only [Int.toNat_natCast] at hx
          have hc1 : ¬ 9223372036854775807 < od.size + 1 := by omega
          have hc2 : ¬ 9223372036854775807 < od.size + 1 + od.size := by omega
          have hc3 : ¬ 9223372036854775807 < od.size + od.size := by omega
          go_wp2
          refine start_ (n := 51) (S := fun w' => w'.cell? (ap.add j) = some (.string od)) (ds := []) #[false, false, false, false, false, false, false, false, false, false, false, false, false, false, false, false, false, false, false, false, false, false, false, false, false, false, false, false, false, false, false, false, false, false, false, false, false, false, false, false, false, false, false, false, false, false, false, false, false, false, false] (by kernel_rfl) rfl rfl (hx) (fun hHeld => ?_)
          refine pure_ (i := 0) (N := some 81) (v := ?_) (a' := ?_) #[true, false, false, false, false, false, false, false, false, false, false, false, false, false, false, false, false, false, false, false, false, false, false, false, false, false, false, false, false, false, false, false, false, false, false, false, false, false, false, false, false, false, false, false, false, false, false, false, false, false, false] rfl rfl (by kernel_rfl) (fun _ _ _ h => h) (Or.inl ⟨by rfl, ?_⟩) ?_ ?_
          rotate_left
          · intro w'
            go_simp
            with_reducible rfl
          rotate_left
          · simp only [Act.put, List.setIfInBounds_toArray, List.set_cons_zero, List.set_cons_succ, i64_w, i32_w]
            rfl
          refine pure_ (i := 1) (N := some 82) (v := ?_) (a' := ?_) #[true, true, false, false, false, false, false, false, false, false, false, false, false, false, false, false, false, false, false, false, false, false, false, false, false, false, false, false, false, false, false, false, false, false, false, false, false, false, false, false, false, false, false, false, false, false, false, false, false, false, false] rfl rfl (by kernel_rfl) (fun _ _ _ h => h) (Or.inl ⟨by rfl, ?_⟩) ?_ ?_
          rotate_left
          · intro w'
            go_simp
            with_reducible rfl
          rotate_left
          · simp only [Act.put, List.setIfInBounds_toArray, List.set_cons_zero, List.set_cons_succ, i64_w, i32_w]
            rfl
          refine pure_ (i := 2) (N := some 83) (v := ?_) (a' := ?_) #[true, true, true, false, false, false, false, false, false, false, false, false, false, false, false, false, false, false, false, false, false, false, false, false, false, false, false, false, false, false, false, false, false, false, false, false, false, false, false, false, false, false, false, false, false, false, false, false, false, false, false] rfl rfl (by kernel_rfl) (fun _ _ _ h => h) (Or.inl ⟨by rfl, ?_⟩) ?_ ?_
          rotate_left
          · intro w'
            go_simp
            with_reducible rfl
          rotate_left
          · simp only [Act.put, List.setIfInBounds_toArray, List.set_cons_zero, List.set_cons_succ, i64_w, i32_w]
            rfl
          refine take_ (i := 3) (N := some 84) (v := ?_) (a' := ?_) #[true, true, true, true, false, false, false, false, false, false, false, false, false, false, false, false, false, false, false, false, false, false, false, false, false, false, false, false, false, false, false, false, false, false, false, false, false, false, false, false, false, false, false, false, false, false, false, false, false, false, false] rfl rfl (by kernel_rfl) (fun _ _ _ h => h) (Or.inl ⟨by rfl, ?_⟩) hHeld ?_ ?_
          rotate_left
          · intro w' s0
            go_simp
            with_reducible rfl
          rotate_left
          · simp only [Act.put, List.setIfInBounds_toArray, List.set_cons_zero, List.set_cons_succ, i64_w, i32_w]
            rfl
          refine one_ (i := 4) (N := some 85) #[true, true, true, true, true, false, false, false, false, false, false, false, false, false, false, false, false, false, false, false, false, false, false, false, false, false, false, false, false, false, false, false, false, false, false, false, false, false, false, false, false, false, false, false, false, false, false, false, false, false, false] rfl rfl (by kernel_rfl) (by decide) (fun K hK => ?_)
          refine goes_ Tryz.func3 (by kernel_rfl) rfl #[.string od] (by rfl) rfl rfl (by simp only [List.map_toArray, List.map_cons, List.map_nil]; rfl) ?_
          with_reducible refine (LexCuts_walk od _ (GV.below HG.out (by repeat (first | exact HB.out | apply below_alloc | apply pw_below_drewN | apply below_drew1)))).mono ?_
          rintro e W3 ⟨rfl, hb⟩
          refine ⟨_, rfl, ?_⟩
          (have m0_ := Aside0.mk (Kd.R_below (by (with_reducible repeat (first | apply Kd.R_alloc | apply Kd.R_drewN | apply Kd.R_drew)); exact HP.out) hb); have n1_ := Aside0.mk (below_step (by repeat (first | exact HB.out | apply below_alloc | apply pw_below_drewN | apply below_drew1)) hb); clear HP HB hb; have HP := m0_; have HB := n1_; clear n1_ m0_)
          refine hK.out _ _ ((by obtain ⟨ap2, e2, h2⟩ := Kd.at_string (Kd.R_reads' HP.out).2.2 (j : Int) (by omega) (by show (j : Int) < (30 : Nat); omega); cases e2; rw [HOD.out] at h2; simpa using h2)) (fun hHeld => ?_)
          clear hK K
          refine norm_ (a' := ?_) ?_ ?_
          rotate_left
          · show Act.put _ (some 85) _ = _
            simp only [Act.put, List.setIfInBounds_toArray, List.set_cons_zero, List.set_cons_succ, i64_w, i32_w]
            rfl
          refine pure_ (i := 5) (N := some 86) (v := ?_) (a' := ?_) #[true, true, true, true, true, true, false, false, false, false, false, false, false, false, false, false, false, false, false, false, false, false, false, false, false, false, false, false, false, false, false, false, false, false, false, false, false, false, false, false, false, false, false, false, false, false, false, false, false, false, false] rfl rfl (by kernel_rfl) (fun _ _ _ h => h) (Or.inl ⟨by rfl, ?_⟩) ?_ ?_
          rotate_left
          · intro w'
            go_simp
            with_reducible rfl
          rotate_left
          · simp only [Act.put, List.setIfInBounds_toArray, List.set_cons_zero, List.set_cons_succ, i64_w, i32_w]
            rfl
          refine pure_ (i := 6) (N := some 87) (v := ?_) (a' := ?_) #[true, true, true, true, true, true, true, false, false, false, false, false, false, false, false, false, false, false, false, false, false, false, false, false, false, false, false, false, false, false, false, false, false, false, false, false, false, false, false, false, false, false, false, false, false, false, false, false, false, false, false] rfl rfl (by kernel_rfl) (fun _ _ _ h => h) (Or.inl ⟨by rfl, ?_⟩) ?_ ?_
          rotate_left
          · intro w'
            go_simp
            with_reducible rfl
          rotate_left
          · simp only [Act.put, List.setIfInBounds_toArray, List.set_cons_zero, List.set_cons_succ, i64_w, i32_w]
            rfl
          refine pure_ (i := 7) (N := some 88) (v := ?_) (a' := ?_) #[true, true, true, true, true, true, true, true, false, false, false, false, false, false, false, false, false, false, false, false, false, false, false, false, false, false, false, false, false, false, false, false, false, false, false, false, false, false, false, false, false, false, false, false, false, false, false, false, false, false, false] rfl rfl (by kernel_rfl) (fun _ _ _ h => h) (Or.inl ⟨by rfl, ?_⟩) ?_ ?_
          rotate_left
          · intro w'
            go_simp
            with_reducible rfl
          rotate_left
          · simp only [Act.put, List.setIfInBounds_toArray, List.set_cons_zero, List.set_cons_succ, i64_w, i32_w]
            rfl
          refine pure_ (i := 8) (N := some 89) (v := ?_) (a' := ?_) #[true, true, true, true, true, true, true, true, true, false, false, false, false, false, false, false, false, false, false, false, false, false, false, false, false, false, false, false, false, false, false, false, false, false, false, false, false, false, false, false, false, false, false, false, false, false, false, false, false, false, false] rfl rfl (by kernel_rfl) (fun _ _ _ h => h) (Or.inl ⟨by rfl, ?_⟩) ?_ ?_
          rotate_left
          · intro w'
            go_simp
            with_reducible rfl
          rotate_left
          · simp only [Act.put, List.setIfInBounds_toArray, List.set_cons_zero, List.set_cons_succ, i64_w, i32_w]
            rfl
          refine pure_ (i := 9) (N := some 90) (v := ?_) (a' := ?_) #[true, true, true, true, true, true, true, true, true, true, false, false, false, false, false, false, false, false, false, false, false, false, false, false, false, false, false, false, false, false, false, false, false, false, false, false, false, false, false, false, false, false, false, false, false, false, false, false, false, false, false] rfl rfl (by kernel_rfl) (fun _ _ _ h => h) (Or.inl ⟨by rfl, ?_⟩) ?_ ?_
          rotate_left
          · intro w'
            go_simp
            with_reducible rfl
          rotate_left
          · simp only [Act.put, List.setIfInBounds_toArray, List.set_cons_zero, List.set_cons_succ, i64_w, i32_w]
            rfl
          refine pure_ (i := 12) (N := some 93) (v := ?_) (a' := ?_) #[true, true, true, true, true, true, true, true, true, true, false, false, true, false, false, false, false, false, false, false, false, false, false, false, false, false, false, false, false, false, false, false, false, false, false, false, false, false, false, false, false, false, false, false, false, false, false, false, false, false, false] rfl rfl (by kernel_rfl) (fun _ _ _ h => h) (Or.inl ⟨by rfl, ?_⟩) ?_ ?_
          rotate_left
          · intro w'
            go_simp
            with_reducible rfl
          rotate_left
          · simp only [Act.put, List.setIfInBounds_toArray, List.set_cons_zero, List.set_cons_succ, i64_w, i32_w]
            rfl
          refine pure_ (i := 13) (N := some 94) (v := ?_) (a' := ?_) #[true, true, true, true, true, true, true, true, true, true, false, false, true, true, false, false, false, false, false, false, false, false, false, false, false, false, false, false, false, false, false, false, false, false, false, false, false, false, false, false, false, false, false, false, false, false, false, false, false, false, false] rfl rfl (by kernel_rfl) (fun _ _ _ h => h) (Or.inl ⟨by rfl, ?_⟩) ?_ ?_
          rotate_left
          · intro w'
            go_simp
            with_reducible rfl
          rotate_left
          · simp only [Act.put, List.setIfInBounds_toArray, List.set_cons_zero, List.set_cons_succ, i64_w, i32_w]
            rfl
          refine pure_ (i := 14) (N := some 95) (v := ?_) (a' := ?_) #[true, true, true, true, true, true, true, true, true, true, false, false, true, true, true, false, false, false, false, false, false, false, false, false, false, false, false, false, false, false, false, false, false, false, false, false, false, false, false, false, false, false, false, false, false, false, false, false, false, false, false] rfl rfl (by kernel_rfl) (fun _ _ _ h => h) (Or.inl ⟨by rfl, ?_⟩) ?_ ?_
          rotate_left
          · intro w'
            go_simp
            with_reducible rfl
          rotate_left
          · simp only [Act.put, List.setIfInBounds_toArray, List.set_cons_zero, List.set_cons_succ, i64_w, i32_w]
            rfl
          refine take_ (i := 10) (N := some 91) (v := ?_) (a' := ?_) #[true, true, true, true, true, true, true, true, true, true, true, false, true, true, true, false, false, false, false, false, false, false, false, false, false, false, false, false, false, false, false, false, false, false, false, false, false, false, false, false, false, false, false, false, false, false, false, false, false, false, false] rfl rfl (by kernel_rfl) (fun _ _ _ h => h) (Or.inl ⟨by rfl, ?_⟩) hHeld ?_ ?_
          rotate_left
          · intro w' s0
            go_simp
            with_reducible rfl
          rotate_left
          · simp only [Act.put, List.setIfInBounds_toArray, List.set_cons_zero, List.set_cons_succ, i64_w, i32_w]
            rfl
          refine pure_ (i := 11) (N := some 92) (v := ?_) (a' := ?_) #[true, true, true, true, true, true, true, true, true, true, true, true, true, true, true, false, false, false, false, false, false, false, false, false, false, false, false, false, false, false, false, false, false, false, false, false, false, false, false, false, false, false, false, false, false, false, false, false, false, false, false] rfl rfl (by kernel_rfl) (fun _ _ _ h => h) (Or.inl ⟨by rfl, ?_⟩) ?_ ?_
          rotate_left
          · intro w'
            go_simp
            with_reducible rfl
          rotate_left
          · simp only [Act.put, List.setIfInBounds_toArray, List.set_cons_zero, List.set_cons_succ, i64_w, i32_w]
            rfl
          refine take_ (i := 15) (N := some 96) (v := ?_) (a' := ?_) #[true, true, true, true, true, true, true, true, true, true, true, true, true, true, true, true, false, false, false, false, false, false, false, false, false, false, false, false, false, false, false, false, false, false, false, false, false, false, false, false, false, false, false, false, false, false, false, false, false, false, false] rfl rfl (by kernel_rfl) (fun _ _ _ h => h) (Or.inl ⟨by rfl, ?_⟩) hHeld ?_ ?_
          rotate_left
          · intro w' s0
            go_simp
            with_reducible rfl
          rotate_left
          · simp only [Act.put, List.setIfInBounds_toArray, List.set_cons_zero, List.set_cons_succ, i64_w, i32_w]
            rfl
          refine pure_ (i := 16) (N := some 97) (v := ?_) (a' := ?_) #[true, true, true, true, true, true, true, true, true, true, true, true, true, true, true, true, true, false, false, false, false, false, false, false, false, false, false, false, false, false, false, false, false, false, false, false, false, false, false, false, false, false, false, false, false, false, false, false, false, false, false] rfl rfl (by kernel_rfl) (fun _ _ _ h => h) (Or.inl ⟨by rfl, ?_⟩) ?_ ?_
          rotate_left
          · intro w'
            go_simp
            with_reducible rfl
          rotate_left
          · simp only [Act.put, List.setIfInBounds_toArray, List.set_cons_zero, List.set_cons_succ, i64_w, i32_w]
            rfl
          refine one_ (i := 17) (N := some 98) #[true, true, true, true, true, true, true, true, true, true, true, true, true, true, true, true, true, true, false, false, false, false, false, false, false, false, false, false, false, false, false, false, false, false, false, false, false, false, false, false, false, false, false, false, false, false, false, false, false, false, false] rfl rfl (by kernel_rfl) (by decide) (fun K hK => ?_)
          refine goes_ Tryz.func3 (by kernel_rfl) rfl #[.string ((od ++ (⟨#[32]⟩ : ByteArray)) ++ od)] (by rfl) rfl rfl (by simp only [List.map_toArray, List.map_cons, List.map_nil]; rfl) ?_
          with_reducible refine (LexCuts_walk ((od ++ (⟨#[32]⟩ : ByteArray)) ++ od) _ (GV.below HG.out (by repeat (first | exact HB.out | apply below_alloc | apply pw_below_drewN | apply below_drew1)))).mono ?_
          rintro e W3 ⟨rfl, hb⟩
          refine ⟨_, rfl, ?_⟩
          (have m0_ := Aside0.mk (Kd.R_below (by (with_reducible repeat (first | apply Kd.R_alloc | apply Kd.R_drewN | apply Kd.R_drew)); exact HP.out) hb); have n1_ := Aside0.mk (below_step (by repeat (first | exact HB.out | apply below_alloc | apply pw_below_drewN | apply below_drew1)) hb); clear HP HB hb; have HP := m0_; have HB := n1_; clear n1_ m0_)
          refine hK.out _ _ ((by obtain ⟨ap2, e2, h2⟩ := Kd.at_string (Kd.R_reads' HP.out).2.2 (j : Int) (by omega) (by show (j : Int) < (30 : Nat); omega); cases e2; rw [HOD.out] at h2; simpa using h2)) (fun hHeld => ?_)
          clear hK K
          refine norm_ (a' := ?_) ?_ ?_
          rotate_left
          · show Act.put _ (some 98) _ = _
            simp only [Act.put, List.setIfInBounds_toArray, List.set_cons_zero, List.set_cons_succ, i64_w, i32_w]
            rfl
          refine pure_ (i := 18) (N := some 99) (v := ?_) (a' := ?_) #[true, true, true, true, true, true, true, true, true, true, true, true, true, true, true, true, true, true, true, false, false, false, false, false, false, false, false, false, false, false, false, false, false, false, false, false, false, false, false, false, false, false, false, false, false, false, false, false, false, false, false] rfl rfl (by kernel_rfl) (fun _ _ _ h => h) (Or.inl ⟨by rfl, ?_⟩) ?_ ?_
          rotate_left
          · intro w'
            go_simp
            with_reducible rfl
          rotate_left
          · simp only [Act.put, List.setIfInBounds_toArray, List.set_cons_zero, List.set_cons_succ, i64_w, i32_w]
            rfl
          refine pure_ (i := 19) (N := some 100) (v := ?_) (a' := ?_) #[true, true, true, true, true, true, true, true, true, true, true, true, true, true, true, true, true, true, true, true, false, false, false, false, false, false, false, false, false, false, false, false, false, false, false, false, false, false, false, false, false, false, false, false, false, false, false, false, false, false, false] rfl rfl (by kernel_rfl) (fun _ _ _ h => h) (Or.inl ⟨by rfl, ?_⟩) ?_ ?_
          rotate_left
          · intro w'
            go_simp
            with_reducible rfl
          rotate_left
          · simp only [Act.put, List.setIfInBounds_toArray, List.set_cons_zero, List.set_cons_succ, i64_w, i32_w]
            rfl
          refine pure_ (i := 20) (N := some 101) (v := ?_) (a' := ?_) #[true, true, true, true, true, true, true, true, true, true, true, true, true, true, true, true, true, true, true, true, true, false, false, false, false, false, false, false, false, false, false, false, false, false, false, false, false, false, false, false, false, false, false, false, false, false, false, false, false, false, false] rfl rfl (by kernel_rfl) (fun _ _ _ h => h) (Or.inl ⟨by rfl, ?_⟩) ?_ ?_
          rotate_left
          · intro w'
            go_simp
            with_reducible rfl
          rotate_left
          · simp only [Act.put, List.setIfInBounds_toArray, List.set_cons_zero, List.set_cons_succ, i64_w, i32_w]
            rfl
          refine pure_ (i := 21) (N := some 102) (v := ?_) (a' := ?_) #[true, true, true, true, true, true, true, true, true, true, true, true, true, true, true, true, true, true, true, true, true, true, false, false, false, false, false, false, false, false, false, false, false, false, false, false, false, false, false, false, false, false, false, false, false, false, false, false, false, false, false] rfl rfl (by kernel_rfl) (fun _ _ _ h => h) (Or.inl ⟨by rfl, ?_⟩) ?_ ?_
          rotate_left
          · intro w'
            go_simp
            with_reducible rfl
          rotate_left
          · simp only [Act.put, List.setIfInBounds_toArray, List.set_cons_zero, List.set_cons_succ, i64_w, i32_w]
            rfl
          refine pure_ (i := 22) (N := some 103) (v := ?_) (a' := ?_) #[true, true, true, true, true, true, true, true, true, true, true, true, true, true, true, true, true, true, true, true, true, true, true, false, false, false, false, false, false, false, false, false, false, false, false, false, false, false, false, false, false, false, false, false, false, false, false, false, false, false, false] rfl rfl (by kernel_rfl) (fun _ _ _ h => h) (Or.inl ⟨by rfl, ?_⟩) ?_ ?_
          rotate_left
          · intro w'
            go_simp
            with_reducible rfl
          rotate_left
          · simp only [Act.put, List.setIfInBounds_toArray, List.set_cons_zero, List.set_cons_succ, i64_w, i32_w]
            rfl
          refine pure_ (i := 23) (N := some 104) (v := ?_) (a' := ?_) #[true, true, true, true, true, true, true, true, true, true, true, true, true, true, true, true, true, true, true, true, true, true, true, true, false, false, false, false, false, false, false, false, false, false, false, false, false, false, false, false, false, false, false, false, false, false, false, false, false, false, false] rfl rfl (by kernel_rfl) (fun _ _ _ h => h) (Or.inl ⟨by rfl, ?_⟩) ?_ ?_
          rotate_left
          · intro w'
            go_simp
            with_reducible rfl
          rotate_left
          · simp only [Act.put, List.setIfInBounds_toArray, List.set_cons_zero, List.set_cons_succ, i64_w, i32_w]
            rfl
          refine pure_ (i := 25) (N := some 106) (v := ?_) (a' := ?_) #[true, true, true, true, true, true, true, true, true, true, true, true, true, true, true, true, true, true, true, true, true, true, true, true, false, true, false, false, false, false, false, false, false, false, false, false, false, false, false, false, false, false, false, false, false, false, false, false, false, false, false] rfl rfl (by kernel_rfl) (fun _ _ _ h => h) (Or.inl ⟨by rfl, ?_⟩) ?_ ?_
          rotate_left
          · intro w'
            go_simp
            with_reducible rfl
          rotate_left
          · simp only [Act.put, List.setIfInBounds_toArray, List.set_cons_zero, List.set_cons_succ, i64_w, i32_w]
            rfl
          refine pure_ (i := 26) (N := some 107) (v := ?_) (a' := ?_) #[true, true, true, true, true, true, true, true, true, true, true, true, true, true, true, true, true, true, true, true, true, true, true, true, false, true, true, false, false, false, false, false, false, false, false, false, false, false, false, false, false, false, false, false, false, false, false, false, false, false, false] rfl rfl (by kernel_rfl) (fun _ _ _ h => h) (Or.inl ⟨by rfl, ?_⟩) ?_ ?_
          rotate_left
          · intro w'
            go_simp
            with_reducible rfl
          rotate_left
          · simp only [Act.put, List.setIfInBounds_toArray, List.set_cons_zero, List.set_cons_succ, i64_w, i32_w]
            rfl
          refine pure_ (i := 27) (N := some 108) (v := ?_) (a' := ?_) #[true, true, true, true, true, true, true, true, true, true, true, true, true, true, true, true, true, true, true, true, true, true, true, true, false, true, true, true, false, false, false, false, false, false, false, false, false, false, false, false, false, false, false, false, false, false, false, false, false, false, false] rfl rfl (by kernel_rfl) (fun _ _ _ h => h) (Or.inl ⟨by rfl, ?_⟩) ?_ ?_
          rotate_left
          · intro w'
            go_simp
            with_reducible rfl
          rotate_left
          · simp only [Act.put, List.setIfInBounds_toArray, List.set_cons_zero, List.set_cons_succ, i64_w, i32_w]
            rfl
          refine take_ (i := 24) (N := some 105) (v := ?_) (a' := ?_) #[true, true, true, true, true, true, true, true, true, true, true, true, true, true, true, true, true, true, true, true, true, true, true, true, true, true, true, true, false, false, false, false, false, false, false, false, false, false, false, false, false, false, false, false, false, false, false, false, false, false, false] rfl rfl (by kernel_rfl) (fun _ _ _ h => h) (Or.inl ⟨by rfl, ?_⟩) hHeld ?_ ?_
          rotate_left
          · intro w' s0
            go_simp
            with_reducible rfl
          rotate_left
          · simp only [Act.put, List.setIfInBounds_toArray, List.set_cons_zero, List.set_cons_succ, i64_w, i32_w]
            rfl
          refine take_ (i := 28) (N := some 109) (v := ?_) (a' := ?_) #[true, true, true, true, true, true, true, true, true, true, true, true, true, true, true, true, true, true, true, true, true, true, true, true, true, true, true, true, true, false, false, false, false, false, false, false, false, false, false, false, false, false, false, false, false, false, false, false, false, false, false] rfl rfl (by kernel_rfl) (fun _ _ _ h => h) (Or.inl ⟨by rfl, ?_⟩) hHeld ?_ ?_
          rotate_left
          · intro w' s0
            go_simp
            with_reducible rfl
          rotate_left
          · simp only [Act.put, List.setIfInBounds_toArray, List.set_cons_zero, List.set_cons_succ, i64_w, i32_w]
            rfl
          refine pure_ (i := 29) (N := some 110) (v := ?_) (a' := ?_) #[true, true, true, true, true, true, true, true, true, true, true, true, true, true, true, true, true, true, true, true, true, true, true, true, true, true, true, true, true, true, false, false, false, false, false, false, false, false, false, false, false, false, false, false, false, false, false, false, false, false, false] rfl rfl (by kernel_rfl) (fun _ _ _ h => h) (Or.inl ⟨by rfl, ?_⟩) ?_ ?_
          rotate_left
          · intro w'
            go_simp
            with_reducible rfl
          rotate_left
          · simp only [Act.put, List.setIfInBounds_toArray, List.set_cons_zero, List.set_cons_succ, i64_w, i32_w]
            rfl
          refine one_ (i := 30) (N := some 111) #[true, true, true, true, true, true, true, true, true, true, true, true, true, true, true, true, true, true, true, true, true, true, true, true, true, true, true, true, true, true, true, false, false, false, false, false, false, false, false, false, false, false, false, false, false, false, false, false, false, false, false] rfl rfl (by kernel_rfl) (by decide) (fun K hK => ?_)
          refine goes_ Tryz.func3 (by kernel_rfl) rfl #[.string (od ++ od)] (by rfl) rfl rfl (by simp only [List.map_toArray, List.map_cons, List.map_nil]; rfl) ?_
          with_reducible refine (LexCuts_walk (od ++ od) _ (GV.below HG.out (by repeat (first | exact HB.out | apply below_alloc | apply pw_below_drewN | apply below_drew1)))).mono ?_
          rintro e W3 ⟨rfl, hb⟩
          refine ⟨_, rfl, ?_⟩
          (have m0_ := Aside0.mk (Kd.R_below (by (with_reducible repeat (first | apply Kd.R_alloc | apply Kd.R_drewN | apply Kd.R_drew)); exact HP.out) hb); have n1_ := Aside0.mk (below_step (by repeat (first | exact HB.out | apply below_alloc | apply pw_below_drewN | apply below_drew1)) hb); clear HP HB hb; have HP := m0_; have HB := n1_; clear n1_ m0_)
          refine hK.out _ _ ((by obtain ⟨ap2, e2, h2⟩ := Kd.at_string (Kd.R_reads' HP.out).2.2 (j : Int) (by omega) (by show (j : Int) < (30 : Nat); omega); cases e2; rw [HOD.out] at h2; simpa using h2)) (fun hHeld => ?_)
          clear hK K
          refine norm_ (a' := ?_) ?_ ?_
          rotate_left
          · show Act.put _ (some 111) _ = _
            simp only [Act.put, List.setIfInBounds_toArray, List.set_cons_zero, List.set_cons_succ, i64_w, i32_w]
            rfl
          refine pure_ (i := 31) (N := some 112) (v := ?_) (a' := ?_) #[true, true, true, true, true, true, true, true, true, true, true, true, true, true, true, true, true, true, true, true, true, true, true, true, true, true, true, true, true, true, true, true, false, false, false, false, false, false, false, false, false, false, false, false, false, false, false, false, false, false, false] rfl rfl (by kernel_rfl) (fun _ _ _ h => h) (Or.inl ⟨by rfl, ?_⟩) ?_ ?_
          rotate_left
          · intro w'
            go_simp
            with_reducible rfl
          rotate_left
          · simp only [Act.put, List.setIfInBounds_toArray, List.set_cons_zero, List.set_cons_succ, i64_w, i32_w]
            rfl
          refine pure_ (i := 32) (N := some 113) (v := ?_) (a' := ?_) #[true, true, true, true, true, true, true, true, true, true, true, true, true, true, true, true, true, true, true, true, true, true, true, true, true, true, true, true, true, true, true, true, true, false, false, false, false, false, false, false, false, false, false, false, false, false, false, false, false, false, false] rfl rfl (by kernel_rfl) (fun _ _ _ h => h) (Or.inl ⟨by rfl, ?_⟩) ?_ ?_
          rotate_left
          · intro w'
            go_simp
            with_reducible rfl
          rotate_left
          · simp only [Act.put, List.setIfInBounds_toArray, List.set_cons_zero, List.set_cons_succ, i64_w, i32_w]
            rfl
          refine pure_ (i := 33) (N := some 114) (v := ?_) (a' := ?_) #[true, true, true, true, true, true, true, true, true, true, true, true, true, true, true, true, true, true, true, true, true, true, true, true, true, true, true, true, true, true, true, true, true, true, false, false, false, false, false, false, false, false, false, false, false, false, false, false, false, false, false] rfl rfl (by kernel_rfl) (fun _ _ _ h => h) (Or.inl ⟨by rfl, ?_⟩) ?_ ?_
          rotate_left
          · intro w'
            go_simp
            with_reducible rfl
          rotate_left
          · simp only [Act.put, List.setIfInBounds_toArray, List.set_cons_zero, List.set_cons_succ, i64_w, i32_w]
            rfl
          refine pure_ (i := 34) (N := some 115) (v := ?_) (a' := ?_) #[true, true, true, true, true, true, true, true, true, true, true, true, true, true, true, true, true, true, true, true, true, true, true, true, true, true, true, true, true, true, true, true, true, true, true, false, false, false, false, false, false, false, false, false, false, false, false, false, false, false, false] rfl rfl (by kernel_rfl) (fun _ _ _ h => h) (Or.inl ⟨by rfl, ?_⟩) ?_ ?_
          rotate_left
          · intro w'
            go_simp
            with_reducible rfl
          rotate_left
          · simp only [Act.put, List.setIfInBounds_toArray, List.set_cons_zero, List.set_cons_succ, i64_w, i32_w]
            rfl
          refine pure_ (i := 35) (N := some 116) (v := ?_) (a' := ?_) #[true, true, true, true, true, true, true, true, true, true, true, true, true, true, true, true, true, true, true, true, true, true, true, true, true, true, true, true, true, true, true, true, true, true, true, true, false, false, false, false, false, false, false, false, false, false, false, false, false, false, false] rfl rfl (by kernel_rfl) (fun _ _ _ h => h) (Or.inl ⟨by rfl, ?_⟩) ?_ ?_
          rotate_left
          · intro w'
            go_simp
            with_reducible rfl
          rotate_left
          · simp only [Act.put, List.setIfInBounds_toArray, List.set_cons_zero, List.set_cons_succ, i64_w, i32_w]
            rfl
          refine pure_ (i := 36) (N := some 117) (v := ?_) (a' := ?_) #[true, true, true, true, true, true, true, true, true, true, true, true, true, true, true, true, true, true, true, true, true, true, true, true, true, true, true, true, true, true, true, true, true, true, true, true, true, false, false, false, false, false, false, false, false, false, false, false, false, false, false] rfl rfl (by kernel_rfl) (fun _ _ _ h => h) (Or.inl ⟨by rfl, ?_⟩) ?_ ?_
          rotate_left
          · intro w'
            go_simp
            with_reducible rfl
          rotate_left
          · simp only [Act.put, List.setIfInBounds_toArray, List.set_cons_zero, List.set_cons_succ, i64_w, i32_w]
            rfl
          refine pure_ (i := 39) (N := some 120) (v := ?_) (a' := ?_) #[true, true, true, true, true, true, true, true, true, true, true, true, true, true, true, true, true, true, true, true, true, true, true, true, true, true, true, true, true, true, true, true, true, true, true, true, true, false, false, true, false, false, false, false, false, false, false, false, false, false, false] rfl rfl (by kernel_rfl) (fun _ _ _ h => h) (Or.inl ⟨by rfl, ?_⟩) ?_ ?_
          rotate_left
          · intro w'
            go_simp
            with_reducible rfl
          rotate_left
          · simp only [Act.put, List.setIfInBounds_toArray, List.set_cons_zero, List.set_cons_succ, i64_w, i32_w]
            rfl
          refine pure_ (i := 40) (N := some 121) (v := ?_) (a' := ?_) #[true, true, true, true, true, true, true, true, true, true, true, true, true, true, true, true, true, true, true, true, true, true, true, true, true, true, true, true, true, true, true, true, true, true, true, true, true, false, false, true, true, false, false, false, false, false, false, false, false, false, false] rfl rfl (by kernel_rfl) (fun _ _ _ h => h) (Or.inl ⟨by rfl, ?_⟩) ?_ ?_
          rotate_left
          · intro w'
            go_simp
            with_reducible rfl
          rotate_left
          · simp only [Act.put, List.setIfInBounds_toArray, List.set_cons_zero, List.set_cons_succ, i64_w, i32_w]
            rfl
          refine pure_ (i := 41) (N := some 122) (v := ?_) (a' := ?_) #[true, true, true, true, true, true, true, true, true, true, true, true, true, true, true, true, true, true, true, true, true, true, true, true, true, true, true, true, true, true, true, true, true, true, true, true, true, false, false, true, true, true, false, false, false, false, false, false, false, false, false] rfl rfl (by kernel_rfl) (fun _ _ _ h => h) (Or.inl ⟨by rfl, ?_⟩) ?_ ?_
          rotate_left
          · intro w'
            go_simp
            with_reducible rfl
          rotate_left
          · simp only [Act.put, List.setIfInBounds_toArray, List.set_cons_zero, List.set_cons_succ, i64_w, i32_w]
            rfl
          refine pure_ (i := 42) (N := some 123) (v := ?_) (a' := ?_) #[true, true, true, true, true, true, true, true, true, true, true, true, true, true, true, true, true, true, true, true, true, true, true, true, true, true, true, true, true, true, true, true, true, true, true, true, true, false, false, true, true, true, true, false, false, false, false, false, false, false, false] rfl rfl (by kernel_rfl) (fun _ _ _ h => h) (Or.inl ⟨by rfl, ?_⟩) ?_ ?_
          rotate_left
          · intro w'
            go_simp
            with_reducible rfl
          rotate_left
          · simp only [Act.put, List.setIfInBounds_toArray, List.set_cons_zero, List.set_cons_succ, i64_w, i32_w]
            rfl
          refine pure_ (i := 45) (N := some 126) (v := ?_) (a' := ?_) #[true, true, true, true, true, true, true, true, true, true, true, true, true, true, true, true, true, true, true, true, true, true, true, true, true, true, true, true, true, true, true, true, true, true, true, true, true, false, false, true, true, true, true, false, false, true, false, false, false, false, false] rfl rfl (by kernel_rfl) (fun _ _ _ h => h) (Or.inl ⟨by rfl, ?_⟩) ?_ ?_
          rotate_left
          · intro w'
            go_simp
            with_reducible rfl
          rotate_left
          · simp only [Act.put, List.setIfInBounds_toArray, List.set_cons_zero, List.set_cons_succ, i64_w, i32_w]
            rfl
          refine pure_ (i := 46) (N := some 127) (v := ?_) (a' := ?_) #[true, true, true, true, true, true, true, true, true, true, true, true, true, true, true, true, true, true, true, true, true, true, true, true, true, true, true, true, true, true, true, true, true, true, true, true, true, false, false, true, true, true, true, false, false, true, true, false, false, false, false] rfl rfl (by kernel_rfl) (fun _ _ _ h => h) (Or.inl ⟨by rfl, ?_⟩) ?_ ?_
          rotate_left
          · intro w'
            go_simp
            with_reducible rfl
          rotate_left
          · simp only [Act.put, List.setIfInBounds_toArray, List.set_cons_zero, List.set_cons_succ, i64_w, i32_w]
            rfl
          refine take_ (i := 37) (N := some 118) (v := ?_) (a' := ?_) #[true, true, true, true, true, true, true, true, true, true, true, true, true, true, true, true, true, true, true, true, true, true, true, true, true, true, true, true, true, true, true, true, true, true, true, true, true, true, false, true, true, true, true, false, false, true, true, false, false, false, false] rfl rfl (by kernel_rfl) (fun _ _ _ h => h) (Or.inl ⟨by rfl, ?_⟩) hHeld ?_ ?_
          rotate_left
          · intro w' s0
            go_simp
            with_reducible rfl
          rotate_left
          · simp only [Act.put, List.setIfInBounds_toArray, List.set_cons_zero, List.set_cons_succ, i64_w, i32_w]
            rfl
          refine pure_ (i := 38) (N := some 119) (v := ?_) (a' := ?_) #[true, true, true, true, true, true, true, true, true, true, true, true, true, true, true, true, true, true, true, true, true, true, true, true, true, true, true, true, true, true, true, true, true, true, true, true, true, true, true, true, true, true, true, false, false, true, true, false, false, false, false] rfl rfl (by kernel_rfl) (fun _ _ _ h => h) (Or.inl ⟨by rfl, ?_⟩) ?_ ?_
          rotate_left
          · intro w'
            go_simp
            with_reducible rfl
          rotate_left
          · simp only [Act.put, List.setIfInBounds_toArray, List.set_cons_zero, List.set_cons_succ, i64_w, i32_w]
            rfl
          refine take_ (i := 43) (N := some 124) (v := ?_) (a' := ?_) #[true, true, true, true, true, true, true, true, true, true, true, true, true, true, true, true, true, true, true, true, true, true, true, true, true, true, true, true, true, true, true, true, true, true, true, true, true, true, true, true, true, true, true, true, false, true, true, false, false, false, false] rfl rfl (by kernel_rfl) (fun _ _ _ h => h) (Or.inl ⟨by rfl, ?_⟩) hHeld ?_ ?_
          rotate_left
          · intro w' s0
            go_simp
            with_reducible rfl
          rotate_left
          · simp only [Act.put, List.setIfInBounds_toArray, List.set_cons_zero, List.set_cons_succ, i64_w, i32_w]
            rfl
          refine pure_ (i := 44) (N := some 125) (v := ?_) (a' := ?_) #[true, true, true, true, true, true, true, true, true, true, true, true, true, true, true, true, true, true, true, true, true, true, true, true, true, true, true, true, true, true, true, true, true, true, true, true, true, true, true, true, true, true, true, true, true, true, true, false, false, false, false] rfl rfl (by kernel_rfl) (fun _ _ _ h => h) (Or.inl ⟨by rfl, ?_⟩) ?_ ?_
          rotate_left
          · intro w'
            go_simp
            with_reducible rfl
          rotate_left
          · simp only [Act.put, List.setIfInBounds_toArray, List.set_cons_zero, List.set_cons_succ, i64_w, i32_w]
            rfl
          refine one_ (i := 47) (N := some 128) #[true, true, true, true, true, true, true, true, true, true, true, true, true, true, true, true, true, true, true, true, true, true, true, true, true, true, true, true, true, true, true, true, true, true, true, true, true, true, true, true, true, true, true, true, true, true, true, true, false, false, false] rfl rfl (by kernel_rfl) (by decide) (fun K hK => ?_)
          refine Kd.R_lit_step k33 _ 33 ?hg (N := 128) ?hd (xs := ([(⟨3, 0, od, 0⟩ : S33), (⟨(j : Int), 0, od, 0⟩ : S33), (⟨0, 0, (⟨#[]⟩ : ByteArray), 0⟩ : S33), (⟨3, 0, (⟨#[]⟩ : ByteArray), 0⟩ : S33)] : List S33)) (inner := [.int .i64 3, .int .i64 0, .string od, .int .i64 0, .int .i64 (j : Int), .int .i64 0, .string od, .int .i64 0, .int .i64 0, .int .i64 0, .string (⟨#[]⟩ : ByteArray), .int .i64 0, .int .i64 3, .int .i64 0, .string (⟨#[]⟩ : ByteArray), .int .i64 0]) (ok := fun _ => True) (okp := fun _ => True) ?hr ?hp (fun _ hk => hk) trivial (Below.refl _ _) (Nat.le_refl _) (by simp) ?_
          (case hd => rfl)
          (case hg => rfl)
          (case hr => first | (go_simp; done) | (go_simp; rfl))
          (case hp => exact (Reps.c4 (show Kd.M k33 _ _ _ (⟨3, 0, od, 0⟩ : S33) [.int .i64 3, .int .i64 0, .string od, .int .i64 0] from (k33_mkM _ _ _ (⟨3, 0, od, 0⟩ : S33))) (Reps.c4 (show Kd.M k33 _ _ _ (⟨(j : Int), 0, od, 0⟩ : S33) [.int .i64 (j : Int), .int .i64 0, .string od, .int .i64 0] from (k33_mkM _ _ _ (⟨(j : Int), 0, od, 0⟩ : S33))) (Reps.c4 (show Kd.M k33 _ _ _ (⟨0, 0, (⟨#[]⟩ : ByteArray), 0⟩ : S33) [.int .i64 0, .int .i64 0, .string (⟨#[]⟩ : ByteArray), .int .i64 0] from (k33_mkM _ _ _ (⟨0, 0, (⟨#[]⟩ : ByteArray), 0⟩ : S33))) (Reps.c4 (show Kd.M k33 _ _ _ (⟨3, 0, (⟨#[]⟩ : ByteArray), 0⟩ : S33) [.int .i64 3, .int .i64 0, .string (⟨#[]⟩ : ByteArray), .int .i64 0] from (k33_mkM _ _ _ (⟨3, 0, (⟨#[]⟩ : ByteArray), 0⟩ : S33))) (Reps.none _ _))))))
          intro v57 w57 ho hb hg_ hnew_
          clear hg_ hnew_
          obtain ⟨Aw, cw, ep⟩ := Kd.R_slice ho
          rw [show ([(⟨3, 0, od, 0⟩ : S33), (⟨(j : Int), 0, od, 0⟩ : S33), (⟨0, 0, (⟨#[]⟩ : ByteArray), 0⟩ : S33), (⟨3, 0, (⟨#[]⟩ : ByteArray), 0⟩ : S33)] : List S33).length = 4 from rfl] at ep
          subst ep
          have n3_ := Aside0.mk (Kd.R_lower ho (below_size (by repeat (first | exact HB.out | apply below_alloc | apply pw_below_drewN | apply below_drew1))))
          clear ho
          (have m0_ := Aside0.mk (Kd.R_below (by (with_reducible repeat (first | apply Kd.R_alloc | apply Kd.R_drewN | apply Kd.R_drew)); exact HP.out) hb); have n1_ := Aside0.mk (below_step (by repeat (first | exact HB.out | apply below_alloc | apply pw_below_drewN | apply below_drew1)) hb); clear HP HB hb; have HP := m0_; have HB := n1_; clear n1_ m0_)
          have HW := n3_
          clear n3_
          refine hK.out _ _ ((by obtain ⟨ap2, e2, h2⟩ := Kd.at_string (Kd.R_reads' HP.out).2.2 (j : Int) (by omega) (by show (j : Int) < (30 : Nat); omega); cases e2; rw [HOD.out] at h2; simpa using h2)) (fun hHeld => ?_)
          clear hK K
          refine norm_ (a' := ?_) ?_ ?_
          rotate_left
          · show Act.put _ (some 128) _ = _
            simp only [Act.put, List.setIfInBounds_toArray, List.set_cons_zero, List.set_cons_succ, i64_w, i32_w]
            rfl
          refine one_ (i := 48) (N := some 129) #[true, true, true, true, true, true, true, true, true, true, true, true, true, true, true, true, true, true, true, true, true, true, true, true, true, true, true, true, true, true, true, true, true, true, true, true, true, true, true, true, true, true, true, true, true, true, true, true, true, false, false] rfl rfl (by kernel_rfl) (by decide) (fun K hK => ?_)
          refine goes_ Tryz.func9 (by kernel_rfl) rfl #[.slice Aw 4 cw] (by rfl) rfl rfl (by simp only [List.map_toArray, List.map_cons, List.map_nil]; rfl) ?_
          with_reducible refine (joins_n ([(⟨3, 0, od, 0⟩ : S33), (⟨(j : Int), 0, od, 0⟩ : S33), (⟨0, 0, (⟨#[]⟩ : ByteArray), 0⟩ : S33), (⟨3, 0, (⟨#[]⟩ : ByteArray), 0⟩ : S33)] : List S33) 4 rfl Aw cw _ (Kd.R_reads' HW.out).2.2 (Kd.R_reads' HW.out).2.1 (by decide) (GV.below HG.out (by repeat (first | exact HB.out | apply below_alloc | apply pw_below_drewN | apply below_drew1)))).mono ?_
          rintro e W3 ⟨rfl, hb⟩
          refine ⟨_, rfl, ?_⟩
          clear HW
          (have m0_ := Aside0.mk (Kd.R_below (by (with_reducible repeat (first | apply Kd.R_alloc | apply Kd.R_drewN | apply Kd.R_drew)); exact HP.out) hb); have n1_ := Aside0.mk (below_step (by repeat (first | exact HB.out | apply below_alloc | apply pw_below_drewN | apply below_drew1)) hb); clear HP HB hb; have HP := m0_; have HB := n1_; clear n1_ m0_)
          refine hK.out _ _ ((by obtain ⟨ap2, e2, h2⟩ := Kd.at_string (Kd.R_reads' HP.out).2.2 (j : Int) (by omega) (by show (j : Int) < (30 : Nat); omega); cases e2; rw [HOD.out] at h2; simpa using h2)) (fun hHeld => ?_)
          clear hK K
          refine norm_ (a' := ?_) ?_ ?_
          rotate_left
          · show Act.put _ (some 129) _ = _
            simp only [Act.put, List.setIfInBounds_toArray, List.set_cons_zero, List.set_cons_succ, i64_w, i32_w]
            rfl
          refine pure_ (i := 49) (N := some 130) (v := ?_) (a' := ?_) #[true, true, true, true, true, true, true, true, true, true, true, true, true, true, true, true, true, true, true, true, true, true, true, true, true, true, true, true, true, true, true, true, true, true, true, true, true, true, true, true, true, true, true, true, true, true, true, true, true, true, false] rfl rfl (by kernel_rfl) (fun _ _ _ h => h) (Or.inl ⟨by rfl, ?_⟩) ?_ ?_
          rotate_left
          · intro w'
            go_simp
            with_reducible rfl
          rotate_left
          · simp only [Act.put, List.setIfInBounds_toArray, List.set_cons_zero, List.set_cons_succ, i64_w, i32_w]
            rfl
          refine pure_ (i := 50) (N := some 131) (v := ?_) (a' := ?_) #[true, true, true, true, true, true, true, true, true, true, true, true, true, true, true, true, true, true, true, true, true, true, true, true, true, true, true, true, true, true, true, true, true, true, true, true, true, true, true, true, true, true, true, true, true, true, true, true, true, true, true] rfl rfl (by kernel_rfl) (fun _ _ _ h => h) (Or.inl ⟨by rfl, ?_⟩) ?_ ?_
          rotate_left
          · intro w'
            go_simp
            with_reducible rfl
          rotate_left
          · simp only [Act.put, List.setIfInBounds_toArray, List.set_cons_zero, List.set_cons_succ, i64_w, i32_w]
            rfl
          refine done_ (by kernel_rfl) ?_
          go_wp2
          clear hx hc1 hc2 hc3
          go_roundg (30 - (j + 1))
          case measure => have := HJ.out; omega
          case rel => exact ⟨j + 1, (by first | rfl | (show Value.int .i64 (wrap64 ((j : Int) + 1)) = _; rw [IntWalk.wrap64_in _ (by omega)]; rfl)), ⟨by omega⟩, ⟨by (with_reducible repeat (first | apply Kd.R_alloc | apply Kd.R_drewN | apply Kd.R_drew)); exact HP.out⟩, ⟨by repeat (first | exact HB.out | apply below_alloc | apply pw_below_drewN | apply below_drew1)⟩⟩
        · have c2 : decide ((j : Int) < 30) = false := decide_eq_false (by omega)
          clear HP hj0
          obtain ⟨xs, hxs⟩ : ∃ xs : List Int, xs = List.replicate 65537 0 := ⟨_, rfl⟩
          have HXL : Aside0 (xs.length = 65537) := ⟨by rw [hxs, List.length_replicate]⟩
          have HXS := Aside0.mk hxs
          clear hxs
          go_wp2_with ((with_reducible refine gate_dst (N := 132) rfl ?_); refine Kd.R_make (Kd.int .u8) _ 5 rfl (N := 132) rfl 29 _ _ rfl 65537 rfl rfl Tryz.underlying29 (.int .u8 0) 1 info5 rfl (by decide) (by omega) 0 (ok := fun _ => True) (okp := fun _ => True) rfl (fun _ hk => hk) trivial (by omega) (by omega) (Below.refl _ _) (Nat.le_refl _) ?_; intro v61 w61 ho hb hg_ hnew_; clear hg_ hnew_; (first | rw [← HXS.out] at ho | (simp only [Int.reduceToNat] at ho; rw [← HXS.out] at ho)); obtain ⟨g9, c9, ep, gb9, gl9, gc9⟩ := Kd.R_form ho (by rw [HXL.out]; decide); rw [HXL.out] at ep; subst ep; have n3_ := Aside0.mk (Kd.R_lower ho (below_size (by repeat (first | exact HB.out | apply below_alloc | apply pw_below_drewN | apply below_drew1)))); have n4_ : Aside0 (w.heap.size ≤ g9) := ⟨Nat.le_trans (below_size (by repeat (first | exact HB.out | apply below_alloc | apply pw_below_drewN | apply below_drew1))) gb9⟩; clear ho gb9 gl9 gc9; have n1_ := Aside0.mk (below_step (by repeat (first | exact HB.out | apply below_alloc | apply pw_below_drewN | apply below_drew1)) hb); clear HB hb; have HB := n1_; clear n1_; have HX := n3_; have GB9 := n4_; clear n3_ n4_)
          go_loopg [9] 65537 (fun kq v9 w' => ∃ (xs : List Int) (n : Nat), v9 = .int .i64 (n : Int) ∧ Aside0 (kq + n = 65537 ∧ xs = List.replicate n 32 ++ List.replicate (65537 - n) 0) ∧ Aside0 (Kd.R (Kd.int .u8) 5 w' w.heap.size (fun _ => True) (.slice (some ⟨g9, 0, none⟩) 65537 c9) xs) ∧ Aside0 (Below w.heap.size w w'))
          case atStart => exact ⟨xs, 0, rfl, ⟨by omega, by rw [HXS.out]; exact fill0 _⟩, ⟨by (with_reducible repeat (first | apply Kd.R_alloc | apply Kd.R_drewN | apply Kd.R_drew)); exact HX.out⟩, ⟨by repeat (first | exact HB.out | apply below_alloc | apply pw_below_drewN | apply below_drew1)⟩⟩
          case round =>
            clear HB HX HXS HXL xs c2
            obtain ⟨xs, n, rfl, HN, HX, HB⟩ := hrel
            by_cases hn0 : n < 65537
            · have c2 : decide ((n : Int) < 65537) = true := decide_eq_true (by omega)
              have c3 : (0 ≤ (n : Int)) = True := eq_true (by omega)
              have c4 : ((n : Int) < 65537) = True := eq_true (by omega)
              obtain ⟨hx9, hf9⟩ := Kd.R_celln 0 HX.out (n : Int) (by omega) (by show (n : Int) < (65537 : Nat); omega)
              have HP9 := Kd.R_putg HX.out (n : Int) 32
              simp only [Int.toNat_natCast] at hx9 hf9 HP9
              go_wp2_with ((with_reducible refine gate_store (t := 5) (p := 141) rfl ?_); refine store_event (t := 5) (p := 141) (v := ?vo_) (w1 := (wr.setCell ⟨g9, n, none⟩ (.int .u8 32))) ?hg ?ho ?hn ?hr ?_; (case ho => rfl); (case hg => rfl); (case hn => rfl); (case hr => first | (go_simp; done) | (go_simp; rfl)); intro w96 hw; have n0_ : Aside0 (Kd.R (Kd.int .u8) 5 w96 w.heap.size (fun _ => True) (.slice (some ⟨g9, 0, none⟩) 65537 c9) (xs.set n 32)) := ⟨by rw [hw]; exact HP9.1⟩; have n1_ : Aside0 (Below w.heap.size w w96) := ⟨by rw [hw]; exact below_set HB.out GB9.out⟩; clear HP9 HX HB hw; have HX := n0_; have HB := n1_; clear n0_ n1_)
              go_roundg (65537 - (n + 1))
              case measure => have := HN.out.1; omega
              case rel => exact ⟨xs.set n 32, n + 1, (by first | rfl | (show Value.int .i64 (wrap64 ((n : Int) + 1)) = _; rw [IntWalk.wrap64_in _ (by omega)]; rfl)), ⟨by omega, by rw [HN.out.2]; exact fill_step _ _ hn0⟩, HX, HB⟩
            · have c2 : decide ((n : Int) < 65537) = false := decide_eq_false (by omega)
              have hxs : xs = List.replicate 65537 32 := by rw [HN.out.2, show n = 65537 by have := HN.out.1; omega]; exact fill_end _
              have HXL : Aside0 (xs.length = 65537) := ⟨by rw [hxs, List.length_replicate]⟩
              clear HN hn0
              obtain ⟨sb, hsb⟩ : ∃ sb, sb = strOfNums xs := ⟨_, rfl⟩
              obtain ⟨sc, hsc⟩ : ∃ sc, sc = strOfNums (xs.drop 1) := ⟨_, rfl⟩
              have A1 : Aside0 (lex_Words.f sb = some ([], 0, 5)) := ⟨words_too_long sb (by rw [hsb, sn_size, HXL.out]; decide)⟩
              have A2 : Aside0 (lex_Words.f sc = some ([(⟨0, 65536, (⟨#[]⟩ : ByteArray), 0⟩ : S33)], 0, 0)) := ⟨by rw [hsc, hxs]; exact words_blank 65536 (by decide)⟩
              have hcv := own_string (P := Tryz.prog) Tryz.underlying29 Tryz.underlying5 Tryz.underlying9 (Kd.own_of_R HX.out)
              rw [← hsb] at hcv
              have HSC := Aside0.mk hsc
              clear hxs hsb hsc
              go_wp2_with (first | ((with_reducible refine gate_callee (f := 5) rfl ?_); refine goesL_ (some 145) rfl rfl Tryz.func5 (by kernel_rfl) rfl #[.string sb] rfl (by (try simp only [List.map_toArray, List.map_cons, List.map_nil]); first | done | rfl) ?_; (with_reducible refine (lex_Words.calls sb [] 0 5 _ A1.out ?sideg).mono ?_); (case sideg => exact GV.below HG.out (by repeat (first | exact HB.out | apply below_alloc | apply pw_below_drewN | apply below_drew1))); rintro e w109 ⟨v367, rfl, ho, hb⟩; refine ⟨_, rfl, ?_⟩; obtain ⟨Aq, cq, ep⟩ := Kd.R_slice ho; subst ep; clear ho hcv; have m0_ := Aside0.mk (Kd.R_below (by (with_reducible repeat (first | apply Kd.R_alloc | apply Kd.R_drewN | apply Kd.R_drew)); exact HX.out) hb); have n1_ := Aside0.mk (below_step (by repeat (first | exact HB.out | apply below_alloc | apply pw_below_drewN | apply below_drew1)) hb); clear HX HB hb; have HX := m0_; have HB := n1_; clear n1_ m0_; obtain ⟨A11, c11, hcut_, hC11_⟩ := cut_bytes _ g9 c9 xs HXL.out HX.out; have hcut := hcut_; have hcv2 := Kd.C_string (P := Tryz.prog) (A := A11) (c := c11) Tryz.underlying29 Tryz.underlying5 Tryz.underlying9 hC11_; rw [← HSC.out] at hcv2; clear hcut_ hC11_) | ((with_reducible refine gate_callee (f := 5) rfl ?_); refine goesL_ (some 153) rfl rfl Tryz.func5 (by kernel_rfl) rfl #[.string sc] rfl (by (try simp only [List.map_toArray, List.map_cons, List.map_nil]); first | done | rfl) ?_; (with_reducible refine (lex_Words.calls sc [(⟨0, 65536, (⟨#[]⟩ : ByteArray), 0⟩ : S33)] 0 0 _ A2.out ?sideg).mono ?_); (case sideg => exact GV.below HG.out (by repeat (first | exact HB.out | apply below_alloc | apply pw_below_drewN | apply below_drew1))); rintro e w112 ⟨v376, rfl, ho, hb⟩; refine ⟨_, rfl, ?_⟩; obtain ⟨Aw, cw, ep⟩ := Kd.R_slice ho; rw [show [(⟨0, 65536, (⟨#[]⟩ : ByteArray), 0⟩ : S33)].length = 1 from rfl] at ep; subst ep; have n3_ := Aside0.mk (Kd.R_lower ho (below_size (by repeat (first | exact HB.out | apply below_alloc | apply pw_below_drewN | apply below_drew1)))); clear ho hcut hcv2 HX; have n1_ := Aside0.mk (below_step (by repeat (first | exact HB.out | apply below_alloc | apply pw_below_drewN | apply below_drew1)) hb); clear HB hb; have HB := n1_; clear n1_; have HW := n3_; clear n3_) | (go_at_call 8; (with_reducible refine (works_true _ (GV.below HG.out (by repeat (first | exact HB.out | apply below_alloc | apply pw_below_drewN | apply below_drew1)))).mono ?_); rintro e w113 ⟨rfl, hb⟩; have m0_ := Aside0.mk (Kd.R_below (by (with_reducible repeat (first | apply Kd.R_alloc | apply Kd.R_drewN | apply Kd.R_drew)); exact HW.out) hb); have n1_ := Aside0.mk (below_step (by repeat (first | exact HB.out | apply below_alloc | apply pw_below_drewN | apply below_drew1)) hb); clear HW HB hb; have HW := m0_; have HB := n1_; clear n1_ m0_; obtain ⟨ad9, e9_, hx9_0, hx9_1, hx9_2, hx9_3⟩ := at_T33 (Kd.R_reads' HW.out).2.2 0 (by decide) (by decide); cases e9_; replace hx9_1 : w113.cell? ⟨ad9.block, ad9.off + 1, none⟩ = some (.int .i64 65536) := (by have h_ := hx9_1; simp [Addr.add_zero'] at h_; exact h_); clear hx9_0 hx9_2 hx9_3))
              go_ret
              exact ⟨rfl, HB.out⟩
end Go.Proofs.YtihidbjffclfkaaGreatDoor.PLex
