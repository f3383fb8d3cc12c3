/- Part of the proof: what it uses of HSpelt. -/
import Derived.Outline
import Derived.Test.YtihidbjffclfkaaGreatDoorBHDig
import Derived.Test.YtihidbjffclfkaaGreatDoorBHMap
import Derived.Test.YtihidbjffclfkaaGreatDoorBHRune
namespace Go.Proofs.YtihidbjffclfkaaGreatDoor.PLex
open Go.RowKit Go.Maps Go.Proofs.YtihidbjffclfkaaGreatDoorW.PrintWords Go.Proofs.YtihidbjffclfkaaGreatDoorW.PrintLast Go.Proofs.YtihidbjffclfkaaGreatDoorW.PrintMore Go.Proofs.YtihidbjffclfkaaGreatDoor.Lx
attribute [local go_sem] max2_int min2_int max_two min_two max_three min_three max_four min_four
set_option linter.unusedVariables false
set_option linter.unusedSimpArgs false
theorem digits16 (s : ByteArray) (hs : s.size ≤ 281474976710656) (most : Nat) (hm : most ≤ 8) (w : World) (hg : GV w) :
    Calls Tryz.prog 76 #[.string s, .int .i64 16, .int .i64 most] w fun e w' =>
      e = .returned (.tuple #[.int .u64 (val 16 (s.data.toList.take (digN 16 most s.data.toList)) 0), .int .i64 (digN 16 most s.data.toList), .string (s.extract (digN 16 most s.data.toList) s.size)]) ∧ Below w.heap.size w w' :=
  digits_calls 16 (by omega) (by omega) (fun t h1 h2 w => (parseUint_16_8 t h1 h2 w).mono fun e w' ⟨he, hw⟩ => ⟨he, by rw [hw]; exact Lib.bytesWorld_below _ _ _⟩) (fun t h1 h2 w => (parseUint_16_64 t h1 h2 w).mono fun e w' ⟨he, hw⟩ => ⟨he, by rw [hw]; exact Lib.bytesWorld_below _ _ _⟩) s hs most hm w hg
theorem digits8 (s : ByteArray) (hs : s.size ≤ 281474976710656) (most : Nat) (hm : most ≤ 8) (w : World) (hg : GV w) :
    Calls Tryz.prog 76 #[.string s, .int .i64 8, .int .i64 most] w fun e w' =>
      e = .returned (.tuple #[.int .u64 (val 8 (s.data.toList.take (digN 8 most s.data.toList)) 0), .int .i64 (digN 8 most s.data.toList), .string (s.extract (digN 8 most s.data.toList) s.size)]) ∧ Below w.heap.size w w' :=
  digits_calls 8 (by omega) (by omega) (fun t h1 h2 w => (parseUint_8_8 t h1 h2 w).mono fun e w' ⟨he, hw⟩ => ⟨he, by rw [hw]; exact Lib.bytesWorld_below _ _ _⟩) (fun t h1 h2 w => (parseUint_8_64 t h1 h2 w).mono fun e w' ⟨he, hw⟩ => ⟨he, by rw [hw]; exact Lib.bytesWorld_below _ _ _⟩) s hs most hm w hg
def SpeltYes (w : World) (bs : List UInt8) (t : ByteArray) (e : Ending) (w' : World) : Prop :=
  (∃ A c, e = .returned (.tuple #[.slice A bs.length c, .string t, .bool true]) ∧ bs.length ≤ c ∧ Kd.C (Kd.int .u8) w' A bs.length (bl bs)) ∧ Below w.heap.size w w'
def SpeltNo (w : World) (e : Ending) (w' : World) : Prop := (∃ v t, e = .returned (.tuple #[v, .string t, .bool false])) ∧ Below w.heap.size w w'
theorem zero_u8 (w : World) : (zeroValue 5).run Tryz.prog w = .ok (.int .u8 0) w := by kernel_rfl
theorem wf_byte (c : UInt8) : (Lit.int .u8 (c.toNat : Int)).wf = true := by
  have := c.toNat_lt
  have h0 : IntKind.u8.min = 0 := by decide
  have h1 : IntKind.u8.max = 255 := by decide
  simp [Lit.wf, h0, h1]
  omega
theorem not_empty (s : ByteArray) (h0 : 0 < s.size) : s.toList.isEmpty = false := by
  rw [← decide_eq_emptyBytes]
  exact decide_eq_false (fun h => by rw [h] at h0; simp [ByteArray.size] at h0)
theorem reads_one (W : World) (b : Nat) (hb : b < 256) : Kd.C (Kd.int .u8) (W.alloc (.cells #[.int .u8 (b : Int)] 5)) (some ⟨W.heap.size, 0, none⟩) [UInt8.ofNat b].length (bl [UInt8.ofNat b]) := by
  refine Kd.C_of_reads (d := (0 : Int)) (h1 := fun _ => rfl) ⟨by simp [bl], by simp, fun _ => ⟨_, rfl, fun j hj => ?_⟩⟩
  obtain rfl : j = 0 := by simp at hj; omega
  have hm : (UInt8.ofNat b).toNat = b := by simp [UInt8.toNat_ofNat']; omega
  have hh := heap_alloc_new W (.cells #[.int .u8 (b : Int)] 5)
  have ha : (⟨W.heap.size, 0, none⟩ : Addr).add 0 = ⟨W.heap.size, 0, none⟩ := add_plain _ _
  rw [ha]
  unfold World.cell?
  simp only [hh]
  simp [bl, hm]
set_option maxRecDepth 100000 in
theorem spelt_empty (w : World) : Calls Tryz.prog 55 #[.string ⟨#[]⟩] w fun e w' => SpeltNo w e w' := by
  have hmm := @run_makeMap Tryz.prog
  have HO := Aside0.mk (World.ownsMap_made (H := Unit) w Tryz.prog 5 (plainElem Tryz.prog 5))
  have HB0 := Aside0.mk (below_alloc (Below.refl w.heap.size w) (.map #[] 0))
  go_enter Tryz.func55, Tryz.ntmps55
  go_wp2_with ((with_reducible refine gate_insert 84 _ _ _ rfl ?_); refine wpList_insert_u8 _ rfl _ _ _ 84 rfl 5 5 Tryz.underlying84 Tryz.underlying5 Tryz.underlying5 w.heap.size _ _ rfl HO.out (by decide) _ _ rfl rfl (by decide) (by decide) ?_; intro w1 hown1 hg1; have HO2 := Aside0.mk hown1; have HB2 := Aside0.mk (HB0.out.grown hg1 HB0.out.size (fun k hk => by cases hk; exact Nat.le_refl _)); clear HO HB0 hown1 hg1; have HO := HO2; have HB0 := HB2; clear HO2 HB2)
  go_ret3
  exact ⟨⟨_, _, rfl⟩, HB0.out⟩
set_option maxRecDepth 100000 in
theorem spelt_one (s : ByteArray) (h0 : 0 < s.size) (b : Nat) (he : esc1 (s[0]'h0) = some b) (hb : b < 256) (w : World) :
    Calls Tryz.prog 55 #[.string s] w fun e w' => SpeltYes w [UInt8.ofNat b] (s.extract 1 s.size) e w' := by
  have hmm := @run_makeMap Tryz.prog
  have hemp := not_empty s h0
  have HO := Aside0.mk (World.ownsMap_made (H := Unit) w Tryz.prog 5 (plainElem Tryz.prog 5))
  have HB0 := Aside0.mk (below_alloc (Below.refl w.heap.size w) (.map #[] 0))
  have HE := Lib.hid he
  have h1 : (1 : Int) ≤ (s.size : Int) := by omega
  clear he
  go_enter Tryz.func55, Tryz.ntmps55
  go_wp2_with (first | ((with_reducible refine gate_insert 84 _ _ _ rfl ?_); refine wpList_insert_u8 _ rfl _ _ _ 84 rfl 5 5 Tryz.underlying84 Tryz.underlying5 Tryz.underlying5 w.heap.size _ _ rfl HO.out (by decide) _ _ rfl rfl (by decide) (by decide) ?_; intro w1 hown1 hg1; have HO2 := Aside0.mk hown1; have HB2 := Aside0.mk (HB0.out.grown hg1 HB0.out.size (fun k hk => by cases hk; exact Nat.le_refl _)); clear HO HB0 hown1 hg1; have HO := HO2; have HB0 := HB2; clear HO2 HB2) | ((with_reducible refine gate_lookup 84 _ _ rfl ?_); have HOF : Aside0 (World.ownsMap _ Tryz.prog 5 (plainElem Tryz.prog 5) w.heap.size 11 (mapOf escs)) := ⟨HO.out⟩; refine wpList_lookup_own_ok_int _ rfl _ _ 84 rfl 5 5 .u8 (int_keyed Tryz.underlying5) Tryz.underlying84 Tryz.underlying5 (zero_u8 _) w.heap.size _ (mapOf escs) rfl HOF.out _ (.int .u8 ((s[0]'h0).toNat : Int)) rfl (keyOf_u8 Tryz.underlying5 _ (wf_byte _)) ?_; intro cc hat hwc; have hcc := escs_at _ hat; rw [escs_has]; clear hat hwc HO HOF; rw [HE.out] at hcc ⊢; simp only [Option.getD_some, Option.getD_none, Option.isSome_some, Option.isSome_none] at hcc ⊢; subst hcc))
  go_region
  go_wp2
  go_ret3
  refine ⟨⟨_, _, rfl, Nat.le_refl _, ?_⟩, ?_⟩
  · exact reads_one _ b hb
  · repeat (first | exact HB0.out | apply below_alloc | apply pw_below_drewN | apply below_drew1)
def SpeltB (w : World) (bs : List UInt8) (t : ByteArray) (b : Bool) (e : Ending) (w' : World) : Prop :=
  (∃ A c, e = .returned (.tuple #[.slice A bs.length c, .string t, .bool b]) ∧ bs.length ≤ c ∧ Kd.C (Kd.int .u8) w' A bs.length (bl bs)) ∧ Below w.heap.size w w'
set_option maxRecDepth 100000 in
set_option maxHeartbeats 1600000 in
theorem spelt_x (s : ByteArray) (h0 : 0 < s.size) (hs : s.size ≤ 281474976710656) (he : esc1 (s[0]'h0) = none) (hx : (s[0]'h0).toNat = 120 ∨ (s[0]'h0).toNat = 88) (w : World) (hg : GV w) :
    Calls Tryz.prog 55 #[.string s] w fun e w' => SpeltB w [UInt8.ofNat (val 16 ((s.extract 1 s.size).data.toList.take (digN 16 2 (s.extract 1 s.size).data.toList)) 0)] ((s.extract 1 s.size).extract (digN 16 2 (s.extract 1 s.size).data.toList) (s.extract 1 s.size).size) (decide (0 < digN 16 2 (s.extract 1 s.size).data.toList)) e w' := by
  have hmm := @run_makeMap Tryz.prog
  have hemp := not_empty s h0
  have HO := Aside0.mk (World.ownsMap_made (H := Unit) w Tryz.prog 5 (plainElem Tryz.prog 5))
  have HB0 := Aside0.mk (below_alloc (Below.refl w.heap.size w) (.map #[] 0))
  have HE := Lib.hid he
  have HG := Aside0.mk hg
  have h1 : (1 : Int) ≤ (s.size : Int) := by omega
  have hd : ∀ w, GV w → Calls Tryz.prog 76 #[.string (s.extract 1 s.size), .int .i64 16, .int .i64 2] w _ := fun w hg => digits16 (s.extract 1 s.size) (by rw [ByteArray.size_extract]; omega) 2 (by omega) w hg
  have hmle := digN_le 16 2 (s.extract 1 s.size).data.toList
  have hvl := val_lt 16 ((s.extract 1 s.size).data.toList.take (digN 16 2 (s.extract 1 s.size).data.toList)) 0 (digN_all 16 2 _)
  have hpow : 16 ^ ((s.extract 1 s.size).data.toList.take (digN 16 2 (s.extract 1 s.size).data.toList)).length ≤ 16 ^ 2 := Nat.pow_le_pow_right (by omega) (by rw [List.length_take]; omega)
  generalize val 16 ((s.extract 1 s.size).data.toList.take (digN 16 2 (s.extract 1 s.size).data.toList)) 0 = nv at *
  generalize digN 16 2 (s.extract 1 s.size).data.toList = mv at *
  generalize (s.extract 1 s.size).extract mv (s.extract 1 s.size).size = rs at *
  have hn : nv < 256 := by omega
  have hni : (nv : Int) < 256 := by omega
  have HD := Lib.hid hd
  clear he hg hd hmle hvl hpow
  rcases hx with hx | hx
  rotate_left
  · have hx1 : (((s[0]'h0).toNat : Int) == 120) = false := by rw [hx]; rfl
    have hx2 : (((s[0]'h0).toNat : Int) == 88) = true := by rw [hx]; rfl
    clear hx
    go_enter Tryz.func55, Tryz.ntmps55
    go_wp2_with (first | ((with_reducible refine gate_insert 84 _ _ _ rfl ?_); refine wpList_insert_u8 _ rfl _ _ _ 84 rfl 5 5 Tryz.underlying84 Tryz.underlying5 Tryz.underlying5 w.heap.size _ _ rfl HO.out (by decide) _ _ rfl rfl (by decide) (by decide) ?_; intro w1 hown1 hg1; have HO2 := Aside0.mk hown1; have HB2 := Aside0.mk (HB0.out.grown hg1 HB0.out.size (fun k hk => by cases hk; exact Nat.le_refl _)); clear HO HB0 hown1 hg1; have HO := HO2; have HB0 := HB2; clear HO2 HB2) | ((with_reducible refine gate_lookup 84 _ _ rfl ?_); have HOF : Aside0 (World.ownsMap _ Tryz.prog 5 (plainElem Tryz.prog 5) w.heap.size 11 (mapOf escs)) := ⟨HO.out⟩; refine wpList_lookup_own_ok_int _ rfl _ _ 84 rfl 5 5 .u8 (int_keyed Tryz.underlying5) Tryz.underlying84 Tryz.underlying5 (zero_u8 _) w.heap.size _ (mapOf escs) rfl HOF.out _ (.int .u8 ((s[0]'h0).toNat : Int)) rfl (keyOf_u8 Tryz.underlying5 _ (wf_byte _)) ?_; intro cc hat hwc; have hcc := escs_at _ hat; rw [escs_has]; clear hat hwc HO HOF; rw [HE.out] at hcc ⊢; simp only [Option.getD_some, Option.getD_none, Option.isSome_some, Option.isSome_none] at hcc ⊢; subst hcc) | (go_at_call 76; refine (HD.out _ (GV.below HG.out HB0.out)).mono ?_; rintro e w2 ⟨rfl, hb⟩; have HB1 := Aside0.mk (below_then HB0.out HB0.out.size hb); clear hb))
    go_ret3
    refine ⟨⟨some ⟨w2.heap.size, 0, none⟩, 1, rfl, Nat.le_refl _, ?_⟩, ?_⟩
    · exact reads_one _ nv hn
    · repeat (first | exact HB1.out | apply below_alloc | apply pw_below_drewN | apply below_drew1)
  · have hx1 : (((s[0]'h0).toNat : Int) == 120) = true := by rw [hx]; rfl
    clear hx
    go_enter Tryz.func55, Tryz.ntmps55
    go_wp2_with (first | ((with_reducible refine gate_insert 84 _ _ _ rfl ?_); refine wpList_insert_u8 _ rfl _ _ _ 84 rfl 5 5 Tryz.underlying84 Tryz.underlying5 Tryz.underlying5 w.heap.size _ _ rfl HO.out (by decide) _ _ rfl rfl (by decide) (by decide) ?_; intro w1 hown1 hg1; have HO2 := Aside0.mk hown1; have HB2 := Aside0.mk (HB0.out.grown hg1 HB0.out.size (fun k hk => by cases hk; exact Nat.le_refl _)); clear HO HB0 hown1 hg1; have HO := HO2; have HB0 := HB2; clear HO2 HB2) | ((with_reducible refine gate_lookup 84 _ _ rfl ?_); have HOF : Aside0 (World.ownsMap _ Tryz.prog 5 (plainElem Tryz.prog 5) w.heap.size 11 (mapOf escs)) := ⟨HO.out⟩; refine wpList_lookup_own_ok_int _ rfl _ _ 84 rfl 5 5 .u8 (int_keyed Tryz.underlying5) Tryz.underlying84 Tryz.underlying5 (zero_u8 _) w.heap.size _ (mapOf escs) rfl HOF.out _ (.int .u8 ((s[0]'h0).toNat : Int)) rfl (keyOf_u8 Tryz.underlying5 _ (wf_byte _)) ?_; intro cc hat hwc; have hcc := escs_at _ hat; rw [escs_has]; clear hat hwc HO HOF; rw [HE.out] at hcc ⊢; simp only [Option.getD_some, Option.getD_none, Option.isSome_some, Option.isSome_none] at hcc ⊢; subst hcc) | (go_at_call 76; refine (HD.out _ (GV.below HG.out HB0.out)).mono ?_; rintro e w2 ⟨rfl, hb⟩; have HB1 := Aside0.mk (below_then HB0.out HB0.out.size hb); clear hb))
    go_ret3
    refine ⟨⟨some ⟨w2.heap.size, 0, none⟩, 1, rfl, Nat.le_refl _, ?_⟩, ?_⟩
    · exact reads_one _ nv hn
    · repeat (first | exact HB1.out | apply below_alloc | apply pw_below_drewN | apply below_drew1)
set_option maxRecDepth 100000 in
set_option maxHeartbeats 1600000 in
theorem spelt_u117 (s : ByteArray) (h0 : 0 < s.size) (hs : s.size ≤ 281474976710656) (he : esc1 (s[0]'h0) = none) (hx : (s[0]'h0).toNat = 117) (w : World) (hg : GV w) :
    Calls Tryz.prog 55 #[.string s] w fun e w' =>
      if digN 16 4 (s.extract 1 s.size).data.toList = 4 ∧ Lib.validRune (val 16 ((s.extract 1 s.size).data.toList.take (digN 16 4 (s.extract 1 s.size).data.toList)) 0 : Nat) = true then
        SpeltB w (Lib.encodeRune (val 16 ((s.extract 1 s.size).data.toList.take (digN 16 4 (s.extract 1 s.size).data.toList)) 0 : Nat)) ((s.extract 1 s.size).extract (digN 16 4 (s.extract 1 s.size).data.toList) (s.extract 1 s.size).size) true e w'
      else SpeltNo w e w' := by
  have hmm := @run_makeMap Tryz.prog
  have hemp := not_empty s h0
  have HO := Aside0.mk (World.ownsMap_made (H := Unit) w Tryz.prog 5 (plainElem Tryz.prog 5))
  have HB0 := Aside0.mk (below_alloc (Below.refl w.heap.size w) (.map #[] 0))
  have HE := Lib.hid he
  have HG := Aside0.mk hg
  have h1 : (1 : Int) ≤ (s.size : Int) := by omega
  have hd : ∀ w, GV w → Calls Tryz.prog 76 #[.string (s.extract 1 s.size), .int .i64 16, .int .i64 4] w _ := fun w hg => digits16 (s.extract 1 s.size) (by rw [ByteArray.size_extract]; omega) 4 (by omega) w hg
  have hmle := digN_le 16 4 (s.extract 1 s.size).data.toList
  have hvl := val_lt 16 ((s.extract 1 s.size).data.toList.take (digN 16 4 (s.extract 1 s.size).data.toList)) 0 (digN_all 16 4 _)
  have hpow : 16 ^ ((s.extract 1 s.size).data.toList.take (digN 16 4 (s.extract 1 s.size).data.toList)).length ≤ 16 ^ 8 := Nat.pow_le_pow_right (by omega) (by rw [List.length_take]; omega)
  have h16 : 16 ^ 8 = 4294967296 := by decide
  generalize val 16 ((s.extract 1 s.size).data.toList.take (digN 16 4 (s.extract 1 s.size).data.toList)) 0 = nv at *
  generalize digN 16 4 (s.extract 1 s.size).data.toList = mv at *
  generalize (s.extract 1 s.size).extract mv (s.extract 1 s.size).size = rs at *
  have hn : nv ≤ 4294967295 := by omega
  have hni : (nv : Int) ≤ 4294967295 := by omega
  have HD := Lib.hid hd
  clear he hg hd hmle hvl hpow h16
  have hx120 : (((s[0]'h0).toNat : Int) == 120) = false := by rw [hx]; rfl
  have hx88 : (((s[0]'h0).toNat : Int) == 88) = false := by rw [hx]; rfl
  have hx117 : (((s[0]'h0).toNat : Int) == 117) = true := by rw [hx]; rfl
  have hx85 : (((s[0]'h0).toNat : Int) == 85) = false := by rw [hx]; rfl
  clear hx
  by_cases hv : Lib.validRune (nv : Int) = true
  · have hnm : nv ≤ 1114111 := by simp [Lib.validRune] at hv; omega
    have HR := Lib.hid (Rune_ok nv hnm hv)
    by_cases hm : mv = 4
    · simp only [if_pos (And.intro hm hv)]
      have hmi : ((mv : Int) == 4) = true := by rw [hm]; rfl
      clear hm hv
      go_enter Tryz.func55, Tryz.ntmps55
      go_wp2_with (first | ((with_reducible refine gate_insert 84 _ _ _ rfl ?_); refine wpList_insert_u8 _ rfl _ _ _ 84 rfl 5 5 Tryz.underlying84 Tryz.underlying5 Tryz.underlying5 w.heap.size _ _ rfl HO.out (by decide) _ _ rfl rfl (by decide) (by decide) ?_; intro w1 hown1 hg1; have HO2 := Aside0.mk hown1; have HB2 := Aside0.mk (HB0.out.grown hg1 HB0.out.size (fun k hk => by cases hk; exact Nat.le_refl _)); clear HO HB0 hown1 hg1; have HO := HO2; have HB0 := HB2; clear HO2 HB2) | ((with_reducible refine gate_lookup 84 _ _ rfl ?_); have HOF : Aside0 (World.ownsMap _ Tryz.prog 5 (plainElem Tryz.prog 5) w.heap.size 11 (mapOf escs)) := ⟨HO.out⟩; refine wpList_lookup_own_ok_int _ rfl _ _ 84 rfl 5 5 .u8 (int_keyed Tryz.underlying5) Tryz.underlying84 Tryz.underlying5 (zero_u8 _) w.heap.size _ (mapOf escs) rfl HOF.out _ (.int .u8 ((s[0]'h0).toNat : Int)) rfl (keyOf_u8 Tryz.underlying5 _ (wf_byte _)) ?_; intro cc hat hwc; have hcc := escs_at _ hat; rw [escs_has]; clear hat hwc HO HOF; rw [HE.out] at hcc ⊢; simp only [Option.getD_some, Option.getD_none, Option.isSome_some, Option.isSome_none] at hcc ⊢; subst hcc) | (go_at_call 76; refine (HD.out _ (GV.below HG.out HB0.out)).mono ?_; rintro e w2 ⟨rfl, hb⟩; have HB1 := Aside0.mk (below_then HB0.out HB0.out.size hb); clear hb) | (go_at_call 77; refine (HR.out _).mono ?_; rintro e w3 ⟨⟨A, cA, rfl, hcA, hC⟩, hb⟩; have HX := Lib.hid (And.intro hcA (And.intro hC (below_then HB1.out HB1.out.size hb))); clear hcA hC hb))
      go_ret3
      exact ⟨⟨A, cA, rfl, HX.out.1, HX.out.2.1⟩, HX.out.2.2⟩
    · simp only [if_neg (fun h : mv = _ ∧ Lib.validRune (nv : Int) = true => hm h.1)]
      have hmi : ((mv : Int) == 4) = false := by rw [beq_eq_false_iff_ne]; omega
      clear hm hv
      go_enter Tryz.func55, Tryz.ntmps55
      go_wp2_with (first | ((with_reducible refine gate_insert 84 _ _ _ rfl ?_); refine wpList_insert_u8 _ rfl _ _ _ 84 rfl 5 5 Tryz.underlying84 Tryz.underlying5 Tryz.underlying5 w.heap.size _ _ rfl HO.out (by decide) _ _ rfl rfl (by decide) (by decide) ?_; intro w1 hown1 hg1; have HO2 := Aside0.mk hown1; have HB2 := Aside0.mk (HB0.out.grown hg1 HB0.out.size (fun k hk => by cases hk; exact Nat.le_refl _)); clear HO HB0 hown1 hg1; have HO := HO2; have HB0 := HB2; clear HO2 HB2) | ((with_reducible refine gate_lookup 84 _ _ rfl ?_); have HOF : Aside0 (World.ownsMap _ Tryz.prog 5 (plainElem Tryz.prog 5) w.heap.size 11 (mapOf escs)) := ⟨HO.out⟩; refine wpList_lookup_own_ok_int _ rfl _ _ 84 rfl 5 5 .u8 (int_keyed Tryz.underlying5) Tryz.underlying84 Tryz.underlying5 (zero_u8 _) w.heap.size _ (mapOf escs) rfl HOF.out _ (.int .u8 ((s[0]'h0).toNat : Int)) rfl (keyOf_u8 Tryz.underlying5 _ (wf_byte _)) ?_; intro cc hat hwc; have hcc := escs_at _ hat; rw [escs_has]; clear hat hwc HO HOF; rw [HE.out] at hcc ⊢; simp only [Option.getD_some, Option.getD_none, Option.isSome_some, Option.isSome_none] at hcc ⊢; subst hcc) | (go_at_call 76; refine (HD.out _ (GV.below HG.out HB0.out)).mono ?_; rintro e w2 ⟨rfl, hb⟩; have HB1 := Aside0.mk (below_then HB0.out HB0.out.size hb); clear hb) | (go_at_call 77; refine (HR.out _).mono ?_; rintro e w3 ⟨⟨A, cA, rfl, hcA, hC⟩, hb⟩; have HX := Lib.hid (And.intro hcA (And.intro hC (below_then HB1.out HB1.out.size hb))); clear hcA hC hb))
      go_ret3
      exact ⟨⟨_, _, rfl⟩, HX.out.2.2⟩
  · simp only [if_neg (fun h : mv = _ ∧ Lib.validRune (nv : Int) = true => hv h.2)]
    have HR := Lib.hid (Rune_bad nv hn (by simpa using hv))
    clear hv
    by_cases hm : mv = 4
    · have hmi : ((mv : Int) == 4) = true := by rw [hm]; rfl
      clear hm
      go_enter Tryz.func55, Tryz.ntmps55
      go_wp2_with (first | ((with_reducible refine gate_insert 84 _ _ _ rfl ?_); refine wpList_insert_u8 _ rfl _ _ _ 84 rfl 5 5 Tryz.underlying84 Tryz.underlying5 Tryz.underlying5 w.heap.size _ _ rfl HO.out (by decide) _ _ rfl rfl (by decide) (by decide) ?_; intro w1 hown1 hg1; have HO2 := Aside0.mk hown1; have HB2 := Aside0.mk (HB0.out.grown hg1 HB0.out.size (fun k hk => by cases hk; exact Nat.le_refl _)); clear HO HB0 hown1 hg1; have HO := HO2; have HB0 := HB2; clear HO2 HB2) | ((with_reducible refine gate_lookup 84 _ _ rfl ?_); have HOF : Aside0 (World.ownsMap _ Tryz.prog 5 (plainElem Tryz.prog 5) w.heap.size 11 (mapOf escs)) := ⟨HO.out⟩; refine wpList_lookup_own_ok_int _ rfl _ _ 84 rfl 5 5 .u8 (int_keyed Tryz.underlying5) Tryz.underlying84 Tryz.underlying5 (zero_u8 _) w.heap.size _ (mapOf escs) rfl HOF.out _ (.int .u8 ((s[0]'h0).toNat : Int)) rfl (keyOf_u8 Tryz.underlying5 _ (wf_byte _)) ?_; intro cc hat hwc; have hcc := escs_at _ hat; rw [escs_has]; clear hat hwc HO HOF; rw [HE.out] at hcc ⊢; simp only [Option.getD_some, Option.getD_none, Option.isSome_some, Option.isSome_none] at hcc ⊢; subst hcc) | (go_at_call 76; refine (HD.out _ (GV.below HG.out HB0.out)).mono ?_; rintro e w2 ⟨rfl, hb⟩; have HB1 := Aside0.mk (below_then HB0.out HB0.out.size hb); clear hb) | (go_at_call 77; refine (HR.out _).mono ?_; rintro e w3 ⟨rfl, rfl⟩))
      go_ret3
      exact ⟨⟨_, _, rfl⟩, HB1.out⟩
    · have hmi : ((mv : Int) == 4) = false := by rw [beq_eq_false_iff_ne]; omega
      clear hm
      go_enter Tryz.func55, Tryz.ntmps55
      go_wp2_with (first | ((with_reducible refine gate_insert 84 _ _ _ rfl ?_); refine wpList_insert_u8 _ rfl _ _ _ 84 rfl 5 5 Tryz.underlying84 Tryz.underlying5 Tryz.underlying5 w.heap.size _ _ rfl HO.out (by decide) _ _ rfl rfl (by decide) (by decide) ?_; intro w1 hown1 hg1; have HO2 := Aside0.mk hown1; have HB2 := Aside0.mk (HB0.out.grown hg1 HB0.out.size (fun k hk => by cases hk; exact Nat.le_refl _)); clear HO HB0 hown1 hg1; have HO := HO2; have HB0 := HB2; clear HO2 HB2) | ((with_reducible refine gate_lookup 84 _ _ rfl ?_); have HOF : Aside0 (World.ownsMap _ Tryz.prog 5 (plainElem Tryz.prog 5) w.heap.size 11 (mapOf escs)) := ⟨HO.out⟩; refine wpList_lookup_own_ok_int _ rfl _ _ 84 rfl 5 5 .u8 (int_keyed Tryz.underlying5) Tryz.underlying84 Tryz.underlying5 (zero_u8 _) w.heap.size _ (mapOf escs) rfl HOF.out _ (.int .u8 ((s[0]'h0).toNat : Int)) rfl (keyOf_u8 Tryz.underlying5 _ (wf_byte _)) ?_; intro cc hat hwc; have hcc := escs_at _ hat; rw [escs_has]; clear hat hwc HO HOF; rw [HE.out] at hcc ⊢; simp only [Option.getD_some, Option.getD_none, Option.isSome_some, Option.isSome_none] at hcc ⊢; subst hcc) | (go_at_call 76; refine (HD.out _ (GV.below HG.out HB0.out)).mono ?_; rintro e w2 ⟨rfl, hb⟩; have HB1 := Aside0.mk (below_then HB0.out HB0.out.size hb); clear hb) | (go_at_call 77; refine (HR.out _).mono ?_; rintro e w3 ⟨rfl, rfl⟩))
      go_ret3
      exact ⟨⟨_, _, rfl⟩, HB1.out⟩
set_option maxRecDepth 100000 in
set_option maxHeartbeats 1600000 in
theorem spelt_u85 (s : ByteArray) (h0 : 0 < s.size) (hs : s.size ≤ 281474976710656) (he : esc1 (s[0]'h0) = none) (hx : (s[0]'h0).toNat = 85) (w : World) (hg : GV w) :
    Calls Tryz.prog 55 #[.string s] w fun e w' =>
      if digN 16 8 (s.extract 1 s.size).data.toList = 8 ∧ Lib.validRune (val 16 ((s.extract 1 s.size).data.toList.take (digN 16 8 (s.extract 1 s.size).data.toList)) 0 : Nat) = true then
        SpeltB w (Lib.encodeRune (val 16 ((s.extract 1 s.size).data.toList.take (digN 16 8 (s.extract 1 s.size).data.toList)) 0 : Nat)) ((s.extract 1 s.size).extract (digN 16 8 (s.extract 1 s.size).data.toList) (s.extract 1 s.size).size) true e w'
      else SpeltNo w e w' := by
  have hmm := @run_makeMap Tryz.prog
  have hemp := not_empty s h0
  have HO := Aside0.mk (World.ownsMap_made (H := Unit) w Tryz.prog 5 (plainElem Tryz.prog 5))
  have HB0 := Aside0.mk (below_alloc (Below.refl w.heap.size w) (.map #[] 0))
  have HE := Lib.hid he
  have HG := Aside0.mk hg
  have h1 : (1 : Int) ≤ (s.size : Int) := by omega
  have hd : ∀ w, GV w → Calls Tryz.prog 76 #[.string (s.extract 1 s.size), .int .i64 16, .int .i64 8] w _ := fun w hg => digits16 (s.extract 1 s.size) (by rw [ByteArray.size_extract]; omega) 8 (by omega) w hg
  have hmle := digN_le 16 8 (s.extract 1 s.size).data.toList
  have hvl := val_lt 16 ((s.extract 1 s.size).data.toList.take (digN 16 8 (s.extract 1 s.size).data.toList)) 0 (digN_all 16 8 _)
  have hpow : 16 ^ ((s.extract 1 s.size).data.toList.take (digN 16 8 (s.extract 1 s.size).data.toList)).length ≤ 16 ^ 8 := Nat.pow_le_pow_right (by omega) (by rw [List.length_take]; omega)
  have h16 : 16 ^ 8 = 4294967296 := by decide
  generalize val 16 ((s.extract 1 s.size).data.toList.take (digN 16 8 (s.extract 1 s.size).data.toList)) 0 = nv at *
  generalize digN 16 8 (s.extract 1 s.size).data.toList = mv at *
  generalize (s.extract 1 s.size).extract mv (s.extract 1 s.size).size = rs at *
  have hn : nv ≤ 4294967295 := by omega
  have hni : (nv : Int) ≤ 4294967295 := by omega
  have HD := Lib.hid hd
  clear he hg hd hmle hvl hpow h16
  have hx120 : (((s[0]'h0).toNat : Int) == 120) = false := by rw [hx]; rfl
  have hx88 : (((s[0]'h0).toNat : Int) == 88) = false := by rw [hx]; rfl
  have hx117 : (((s[0]'h0).toNat : Int) == 117) = false := by rw [hx]; rfl
  have hx85 : (((s[0]'h0).toNat : Int) == 85) = true := by rw [hx]; rfl
  clear hx
  by_cases hv : Lib.validRune (nv : Int) = true
  · have hnm : nv ≤ 1114111 := by simp [Lib.validRune] at hv; omega
    have HR := Lib.hid (Rune_ok nv hnm hv)
    by_cases hm : mv = 8
    · simp only [if_pos (And.intro hm hv)]
      have hmi : ((mv : Int) == 8) = true := by rw [hm]; rfl
      clear hm hv
      go_enter Tryz.func55, Tryz.ntmps55
      go_wp2_with (first | ((with_reducible refine gate_insert 84 _ _ _ rfl ?_); refine wpList_insert_u8 _ rfl _ _ _ 84 rfl 5 5 Tryz.underlying84 Tryz.underlying5 Tryz.underlying5 w.heap.size _ _ rfl HO.out (by decide) _ _ rfl rfl (by decide) (by decide) ?_; intro w1 hown1 hg1; have HO2 := Aside0.mk hown1; have HB2 := Aside0.mk (HB0.out.grown hg1 HB0.out.size (fun k hk => by cases hk; exact Nat.le_refl _)); clear HO HB0 hown1 hg1; have HO := HO2; have HB0 := HB2; clear HO2 HB2) | ((with_reducible refine gate_lookup 84 _ _ rfl ?_); have HOF : Aside0 (World.ownsMap _ Tryz.prog 5 (plainElem Tryz.prog 5) w.heap.size 11 (mapOf escs)) := ⟨HO.out⟩; refine wpList_lookup_own_ok_int _ rfl _ _ 84 rfl 5 5 .u8 (int_keyed Tryz.underlying5) Tryz.underlying84 Tryz.underlying5 (zero_u8 _) w.heap.size _ (mapOf escs) rfl HOF.out _ (.int .u8 ((s[0]'h0).toNat : Int)) rfl (keyOf_u8 Tryz.underlying5 _ (wf_byte _)) ?_; intro cc hat hwc; have hcc := escs_at _ hat; rw [escs_has]; clear hat hwc HO HOF; rw [HE.out] at hcc ⊢; simp only [Option.getD_some, Option.getD_none, Option.isSome_some, Option.isSome_none] at hcc ⊢; subst hcc) | (go_at_call 76; refine (HD.out _ (GV.below HG.out HB0.out)).mono ?_; rintro e w2 ⟨rfl, hb⟩; have HB1 := Aside0.mk (below_then HB0.out HB0.out.size hb); clear hb) | (go_at_call 77; refine (HR.out _).mono ?_; rintro e w3 ⟨⟨A, cA, rfl, hcA, hC⟩, hb⟩; have HX := Lib.hid (And.intro hcA (And.intro hC (below_then HB1.out HB1.out.size hb))); clear hcA hC hb))
      go_ret3
      exact ⟨⟨A, cA, rfl, HX.out.1, HX.out.2.1⟩, HX.out.2.2⟩
    · simp only [if_neg (fun h : mv = _ ∧ Lib.validRune (nv : Int) = true => hm h.1)]
      have hmi : ((mv : Int) == 8) = false := by rw [beq_eq_false_iff_ne]; omega
      clear hm hv
      go_enter Tryz.func55, Tryz.ntmps55
      go_wp2_with (first | ((with_reducible refine gate_insert 84 _ _ _ rfl ?_); refine wpList_insert_u8 _ rfl _ _ _ 84 rfl 5 5 Tryz.underlying84 Tryz.underlying5 Tryz.underlying5 w.heap.size _ _ rfl HO.out (by decide) _ _ rfl rfl (by decide) (by decide) ?_; intro w1 hown1 hg1; have HO2 := Aside0.mk hown1; have HB2 := Aside0.mk (HB0.out.grown hg1 HB0.out.size (fun k hk => by cases hk; exact Nat.le_refl _)); clear HO HB0 hown1 hg1; have HO := HO2; have HB0 := HB2; clear HO2 HB2) | ((with_reducible refine gate_lookup 84 _ _ rfl ?_); have HOF : Aside0 (World.ownsMap _ Tryz.prog 5 (plainElem Tryz.prog 5) w.heap.size 11 (mapOf escs)) := ⟨HO.out⟩; refine wpList_lookup_own_ok_int _ rfl _ _ 84 rfl 5 5 .u8 (int_keyed Tryz.underlying5) Tryz.underlying84 Tryz.underlying5 (zero_u8 _) w.heap.size _ (mapOf escs) rfl HOF.out _ (.int .u8 ((s[0]'h0).toNat : Int)) rfl (keyOf_u8 Tryz.underlying5 _ (wf_byte _)) ?_; intro cc hat hwc; have hcc := escs_at _ hat; rw [escs_has]; clear hat hwc HO HOF; rw [HE.out] at hcc ⊢; simp only [Option.getD_some, Option.getD_none, Option.isSome_some, Option.isSome_none] at hcc ⊢; subst hcc) | (go_at_call 76; refine (HD.out _ (GV.below HG.out HB0.out)).mono ?_; rintro e w2 ⟨rfl, hb⟩; have HB1 := Aside0.mk (below_then HB0.out HB0.out.size hb); clear hb) | (go_at_call 77; refine (HR.out _).mono ?_; rintro e w3 ⟨⟨A, cA, rfl, hcA, hC⟩, hb⟩; have HX := Lib.hid (And.intro hcA (And.intro hC (below_then HB1.out HB1.out.size hb))); clear hcA hC hb))
      go_ret3
      exact ⟨⟨_, _, rfl⟩, HX.out.2.2⟩
  · simp only [if_neg (fun h : mv = _ ∧ Lib.validRune (nv : Int) = true => hv h.2)]
    have HR := Lib.hid (Rune_bad nv hn (by simpa using hv))
    clear hv
    by_cases hm : mv = 8
    · have hmi : ((mv : Int) == 8) = true := by rw [hm]; rfl
      clear hm
      go_enter Tryz.func55, Tryz.ntmps55
      go_wp2_with (first | ((with_reducible refine gate_insert 84 _ _ _ rfl ?_); refine wpList_insert_u8 _ rfl _ _ _ 84 rfl 5 5 Tryz.underlying84 Tryz.underlying5 Tryz.underlying5 w.heap.size _ _ rfl HO.out (by decide) _ _ rfl rfl (by decide) (by decide) ?_; intro w1 hown1 hg1; have HO2 := Aside0.mk hown1; have HB2 := Aside0.mk (HB0.out.grown hg1 HB0.out.size (fun k hk => by cases hk; exact Nat.le_refl _)); clear HO HB0 hown1 hg1; have HO := HO2; have HB0 := HB2; clear HO2 HB2) | ((with_reducible refine gate_lookup 84 _ _ rfl ?_); have HOF : Aside0 (World.ownsMap _ Tryz.prog 5 (plainElem Tryz.prog 5) w.heap.size 11 (mapOf escs)) := ⟨HO.out⟩; refine wpList_lookup_own_ok_int _ rfl _ _ 84 rfl 5 5 .u8 (int_keyed Tryz.underlying5) Tryz.underlying84 Tryz.underlying5 (zero_u8 _) w.heap.size _ (mapOf escs) rfl HOF.out _ (.int .u8 ((s[0]'h0).toNat : Int)) rfl (keyOf_u8 Tryz.underlying5 _ (wf_byte _)) ?_; intro cc hat hwc; have hcc := escs_at _ hat; rw [escs_has]; clear hat hwc HO HOF; rw [HE.out] at hcc ⊢; simp only [Option.getD_some, Option.getD_none, Option.isSome_some, Option.isSome_none] at hcc ⊢; subst hcc) | (go_at_call 76; refine (HD.out _ (GV.below HG.out HB0.out)).mono ?_; rintro e w2 ⟨rfl, hb⟩; have HB1 := Aside0.mk (below_then HB0.out HB0.out.size hb); clear hb) | (go_at_call 77; refine (HR.out _).mono ?_; rintro e w3 ⟨rfl, rfl⟩))
      go_ret3
      exact ⟨⟨_, _, rfl⟩, HB1.out⟩
    · have hmi : ((mv : Int) == 8) = false := by rw [beq_eq_false_iff_ne]; omega
      clear hm
      go_enter Tryz.func55, Tryz.ntmps55
      go_wp2_with (first | ((with_reducible refine gate_insert 84 _ _ _ rfl ?_); refine wpList_insert_u8 _ rfl _ _ _ 84 rfl 5 5 Tryz.underlying84 Tryz.underlying5 Tryz.underlying5 w.heap.size _ _ rfl HO.out (by decide) _ _ rfl rfl (by decide) (by decide) ?_; intro w1 hown1 hg1; have HO2 := Aside0.mk hown1; have HB2 := Aside0.mk (HB0.out.grown hg1 HB0.out.size (fun k hk => by cases hk; exact Nat.le_refl _)); clear HO HB0 hown1 hg1; have HO := HO2; have HB0 := HB2; clear HO2 HB2) | ((with_reducible refine gate_lookup 84 _ _ rfl ?_); have HOF : Aside0 (World.ownsMap _ Tryz.prog 5 (plainElem Tryz.prog 5) w.heap.size 11 (mapOf escs)) := ⟨HO.out⟩; refine wpList_lookup_own_ok_int _ rfl _ _ 84 rfl 5 5 .u8 (int_keyed Tryz.underlying5) Tryz.underlying84 Tryz.underlying5 (zero_u8 _) w.heap.size _ (mapOf escs) rfl HOF.out _ (.int .u8 ((s[0]'h0).toNat : Int)) rfl (keyOf_u8 Tryz.underlying5 _ (wf_byte _)) ?_; intro cc hat hwc; have hcc := escs_at _ hat; rw [escs_has]; clear hat hwc HO HOF; rw [HE.out] at hcc ⊢; simp only [Option.getD_some, Option.getD_none, Option.isSome_some, Option.isSome_none] at hcc ⊢; subst hcc) | (go_at_call 76; refine (HD.out _ (GV.below HG.out HB0.out)).mono ?_; rintro e w2 ⟨rfl, hb⟩; have HB1 := Aside0.mk (below_then HB0.out HB0.out.size hb); clear hb) | (go_at_call 77; refine (HR.out _).mono ?_; rintro e w3 ⟨rfl, rfl⟩))
      go_ret3
      exact ⟨⟨_, _, rfl⟩, HB1.out⟩
set_option maxRecDepth 100000 in
set_option maxHeartbeats 1600000 in
theorem spelt_o (s : ByteArray) (h0 : 0 < s.size) (hs : s.size ≤ 281474976710656) (he : esc1 (s[0]'h0) = none) (n120 : (s[0]'h0).toNat ≠ 120) (n88 : (s[0]'h0).toNat ≠ 88) (n117 : (s[0]'h0).toNat ≠ 117) (n85 : (s[0]'h0).toNat ≠ 85) (w : World) (hg : GV w) :
    Calls Tryz.prog 55 #[.string s] w fun e w' =>
      if 0 < digN 8 3 s.data.toList ∧ val 8 (s.data.toList.take (digN 8 3 s.data.toList)) 0 ≤ 255 then
        SpeltB w [UInt8.ofNat (val 8 (s.data.toList.take (digN 8 3 s.data.toList)) 0)] (s.extract (digN 8 3 s.data.toList) s.size) true e w'
      else SpeltNo w e w' := by
  have hmm := @run_makeMap Tryz.prog
  have hemp := not_empty s h0
  have HO := Aside0.mk (World.ownsMap_made (H := Unit) w Tryz.prog 5 (plainElem Tryz.prog 5))
  have HB0 := Aside0.mk (below_alloc (Below.refl w.heap.size w) (.map #[] 0))
  have HE := Lib.hid he
  have HG := Aside0.mk hg
  have hd : ∀ w, GV w → Calls Tryz.prog 76 #[.string s, .int .i64 8, .int .i64 3] w _ := fun w hg => digits8 s hs 3 (by omega) w hg
  have hmle := digN_le 8 3 s.data.toList
  have hvl := val_lt 8 (s.data.toList.take (digN 8 3 s.data.toList)) 0 (digN_all 8 3 _)
  have hpow : 8 ^ (s.data.toList.take (digN 8 3 s.data.toList)).length ≤ 8 ^ 3 := Nat.pow_le_pow_right (by omega) (by rw [List.length_take]; omega)
  generalize val 8 (s.data.toList.take (digN 8 3 s.data.toList)) 0 = nv at *
  generalize digN 8 3 s.data.toList = mv at *
  generalize s.extract mv s.size = rs at *
  have hn : nv < 512 := by omega
  have hni : (nv : Int) < 512 := by omega
  have HD := Lib.hid hd
  clear he hg hd hmle hvl hpow
  have hx120 : (((s[0]'h0).toNat : Int) == 120) = false := by rw [beq_eq_false_iff_ne]; omega
  have hx88 : (((s[0]'h0).toNat : Int) == 88) = false := by rw [beq_eq_false_iff_ne]; omega
  have hx117 : (((s[0]'h0).toNat : Int) == 117) = false := by rw [beq_eq_false_iff_ne]; omega
  have hx85 : (((s[0]'h0).toNat : Int) == 85) = false := by rw [beq_eq_false_iff_ne]; omega
  clear n120 n88 n117 n85
  by_cases hm : 0 < mv
  · have hmi : decide ((mv : Int) > 0) = true := by simp; omega
    have hmj : decide (0 < mv) = true := by simp; omega
    have hmk : 0 < mv := hm
    by_cases hv : nv ≤ 255
    · simp only [if_pos (And.intro hm hv)]
      have hvi : (nv : Int) ≤ 255 := by omega
      have hvj : decide ((nv : Int) ≤ 255) = true := by simp; omega
      clear hm hv
      go_enter Tryz.func55, Tryz.ntmps55
      go_wp2_with (first | ((with_reducible refine gate_insert 84 _ _ _ rfl ?_); refine wpList_insert_u8 _ rfl _ _ _ 84 rfl 5 5 Tryz.underlying84 Tryz.underlying5 Tryz.underlying5 w.heap.size _ _ rfl HO.out (by decide) _ _ rfl rfl (by decide) (by decide) ?_; intro w1 hown1 hg1; have HO2 := Aside0.mk hown1; have HB2 := Aside0.mk (HB0.out.grown hg1 HB0.out.size (fun k hk => by cases hk; exact Nat.le_refl _)); clear HO HB0 hown1 hg1; have HO := HO2; have HB0 := HB2; clear HO2 HB2) | ((with_reducible refine gate_lookup 84 _ _ rfl ?_); have HOF : Aside0 (World.ownsMap _ Tryz.prog 5 (plainElem Tryz.prog 5) w.heap.size 11 (mapOf escs)) := ⟨HO.out⟩; refine wpList_lookup_own_ok_int _ rfl _ _ 84 rfl 5 5 .u8 (int_keyed Tryz.underlying5) Tryz.underlying84 Tryz.underlying5 (zero_u8 _) w.heap.size _ (mapOf escs) rfl HOF.out _ (.int .u8 ((s[0]'h0).toNat : Int)) rfl (keyOf_u8 Tryz.underlying5 _ (wf_byte _)) ?_; intro cc hat hwc; have hcc := escs_at _ hat; rw [escs_has]; clear hat hwc HO HOF; rw [HE.out] at hcc ⊢; simp only [Option.getD_some, Option.getD_none, Option.isSome_some, Option.isSome_none] at hcc ⊢; subst hcc) | (go_at_call 76; refine (HD.out _ (GV.below HG.out HB0.out)).mono ?_; rintro e w2 ⟨rfl, hb⟩; have HB1 := Aside0.mk (below_then HB0.out HB0.out.size hb); clear hb))
      go_ret3
      refine ⟨⟨some ⟨w2.heap.size, 0, none⟩, 1, rfl, Nat.le_refl _, ?_⟩, ?_⟩
      · exact reads_one _ nv (by omega)
      · repeat (first | exact HB1.out | apply below_alloc | apply pw_below_drewN | apply below_drew1)
    · simp only [if_neg (fun h : 0 < mv ∧ nv ≤ 255 => hv h.2)]
      have hvi : 255 < (nv : Int) := by omega
      have hvj : decide ((nv : Int) ≤ 255) = false := by simp; omega
      clear hm hv
      go_enter Tryz.func55, Tryz.ntmps55
      go_wp2_with (first | ((with_reducible refine gate_insert 84 _ _ _ rfl ?_); refine wpList_insert_u8 _ rfl _ _ _ 84 rfl 5 5 Tryz.underlying84 Tryz.underlying5 Tryz.underlying5 w.heap.size _ _ rfl HO.out (by decide) _ _ rfl rfl (by decide) (by decide) ?_; intro w1 hown1 hg1; have HO2 := Aside0.mk hown1; have HB2 := Aside0.mk (HB0.out.grown hg1 HB0.out.size (fun k hk => by cases hk; exact Nat.le_refl _)); clear HO HB0 hown1 hg1; have HO := HO2; have HB0 := HB2; clear HO2 HB2) | ((with_reducible refine gate_lookup 84 _ _ rfl ?_); have HOF : Aside0 (World.ownsMap _ Tryz.prog 5 (plainElem Tryz.prog 5) w.heap.size 11 (mapOf escs)) := ⟨HO.out⟩; refine wpList_lookup_own_ok_int _ rfl _ _ 84 rfl 5 5 .u8 (int_keyed Tryz.underlying5) Tryz.underlying84 Tryz.underlying5 (zero_u8 _) w.heap.size _ (mapOf escs) rfl HOF.out _ (.int .u8 ((s[0]'h0).toNat : Int)) rfl (keyOf_u8 Tryz.underlying5 _ (wf_byte _)) ?_; intro cc hat hwc; have hcc := escs_at _ hat; rw [escs_has]; clear hat hwc HO HOF; rw [HE.out] at hcc ⊢; simp only [Option.getD_some, Option.getD_none, Option.isSome_some, Option.isSome_none] at hcc ⊢; subst hcc) | (go_at_call 76; refine (HD.out _ (GV.below HG.out HB0.out)).mono ?_; rintro e w2 ⟨rfl, hb⟩; have HB1 := Aside0.mk (below_then HB0.out HB0.out.size hb); clear hb))
      go_ret3
      refine ⟨⟨_, _, rfl⟩, ?_⟩
      repeat (first | exact HB1.out | apply below_alloc | apply pw_below_drewN | apply below_drew1)
  · simp only [if_neg (fun h : 0 < mv ∧ nv ≤ 255 => hm h.1)]
    have hmi : decide ((mv : Int) > 0) = false := by simp; omega
    have hmj : decide (0 < mv) = false := by simp; omega
    clear hm
    go_enter Tryz.func55, Tryz.ntmps55
    go_wp2_with (first | ((with_reducible refine gate_insert 84 _ _ _ rfl ?_); refine wpList_insert_u8 _ rfl _ _ _ 84 rfl 5 5 Tryz.underlying84 Tryz.underlying5 Tryz.underlying5 w.heap.size _ _ rfl HO.out (by decide) _ _ rfl rfl (by decide) (by decide) ?_; intro w1 hown1 hg1; have HO2 := Aside0.mk hown1; have HB2 := Aside0.mk (HB0.out.grown hg1 HB0.out.size (fun k hk => by cases hk; exact Nat.le_refl _)); clear HO HB0 hown1 hg1; have HO := HO2; have HB0 := HB2; clear HO2 HB2) | ((with_reducible refine gate_lookup 84 _ _ rfl ?_); have HOF : Aside0 (World.ownsMap _ Tryz.prog 5 (plainElem Tryz.prog 5) w.heap.size 11 (mapOf escs)) := ⟨HO.out⟩; refine wpList_lookup_own_ok_int _ rfl _ _ 84 rfl 5 5 .u8 (int_keyed Tryz.underlying5) Tryz.underlying84 Tryz.underlying5 (zero_u8 _) w.heap.size _ (mapOf escs) rfl HOF.out _ (.int .u8 ((s[0]'h0).toNat : Int)) rfl (keyOf_u8 Tryz.underlying5 _ (wf_byte _)) ?_; intro cc hat hwc; have hcc := escs_at _ hat; rw [escs_has]; clear hat hwc HO HOF; rw [HE.out] at hcc ⊢; simp only [Option.getD_some, Option.getD_none, Option.isSome_some, Option.isSome_none] at hcc ⊢; subst hcc) | (go_at_call 76; refine (HD.out _ (GV.below HG.out HB0.out)).mono ?_; rintro e w2 ⟨rfl, hb⟩; have HB1 := Aside0.mk (below_then HB0.out HB0.out.size hb); clear hb))
    go_ret3
    refine ⟨⟨_, _, rfl⟩, ?_⟩
    repeat (first | exact HB1.out | apply below_alloc | apply pw_below_drewN | apply below_drew1)
theorem toList_cons (s : ByteArray) (h0 : 0 < s.size) : s.data.toList = s[0]'h0 :: (s.extract 1 s.size).data.toList := by
  have hl : s.data.toList.length = s.size := (Lib.size_eq s).symm
  rw [ByteArray.data_extract, Array.toList_extract, List.extract_eq_take_drop]
  have h1 := List.drop_eq_getElem_cons (l := s.data.toList) (i := 0) (by omega)
  rw [List.drop_zero] at h1
  rw [List.take_of_length_le (by rw [List.length_drop]; omega)]
  exact h1
theorem extract_cut (s : ByteArray) (m : Nat) : (s.extract 1 s.size).extract m (s.extract 1 s.size).size = s.extract (m + 1) s.size := by
  apply ByteArray.ext
  apply Array.ext'
  simp only [ByteArray.data_extract, Array.toList_extract, List.extract_eq_take_drop, ByteArray.size_extract]
  rw [List.take_of_length_le (l := List.drop 1 _) (by rw [List.length_drop, (Lib.size_eq s).symm]; omega), List.drop_drop]
  rw [List.take_of_length_le (by rw [List.length_drop, (Lib.size_eq s).symm]; omega), List.take_of_length_le (by rw [List.length_drop, (Lib.size_eq s).symm]; omega), Nat.add_comm 1 m]
theorem SpeltB.no {w : World} {bs : List UInt8} {t : ByteArray} {b : Bool} {e : Ending} {w' : World} (h : SpeltB w bs t b e w') (hb : b = false) : SpeltNo w e w' := by
  obtain ⟨⟨A, c, rfl, _, _⟩, h2⟩ := h
  subst hb
  exact ⟨⟨_, _, rfl⟩, h2⟩
set_option maxRecDepth 100000 in
theorem spelt_calls (s : ByteArray) (hs : s.size ≤ 281474976710656) (w : World) (hg : GV w) :
    Calls Tryz.prog 55 #[.string s] w fun e w' =>
      match spell s.data.toList with
      | some (bs, n) => SpeltB w bs (s.extract n s.size) true e w'
      | none => SpeltNo w e w' := by
  by_cases h0 : 0 < s.size
  · have hl := toList_cons s h0
    cases he : esc1 (s[0]'h0) with
    | some b =>
      have hsp : spell s.data.toList = some ([UInt8.ofNat b], 1) := by rw [hl]; simp only [spell, he]
      have hb : b < 256 := by
        have h2 := he
        unfold esc1 at h2
        obtain ⟨p, hp, rfl⟩ := Option.map_eq_some_iff.1 h2
        have hm := List.mem_of_find?_eq_some hp
        revert hm
        have : ∀ p ∈ escs, p.2 < 256 := by decide
        exact this p
      rw [hsp]
      exact (spelt_one s h0 b he hb w).mono fun e w' ⟨⟨A, c, h1, h2, h3⟩, h4⟩ => ⟨⟨A, c, h1, h2, h3⟩, h4⟩
    | none =>
      by_cases hx : (s[0]'h0).toNat = 120 ∨ (s[0]'h0).toNat = 88
      · refine (spelt_x s h0 hs he hx w hg).mono ?_
        intro e w' h
        have hsp : spell s.data.toList = if 0 < digN 16 2 (s.extract 1 s.size).data.toList then some ([UInt8.ofNat (val 16 ((s.extract 1 s.size).data.toList.take (digN 16 2 (s.extract 1 s.size).data.toList)) 0)], digN 16 2 (s.extract 1 s.size).data.toList + 1) else none := by
          conv => lhs; rw [hl]
          simp only [spell, he, if_pos hx]
        rw [hsp]
        rw [extract_cut] at h
        by_cases hm : 0 < digN 16 2 (s.extract 1 s.size).data.toList
        · rw [if_pos hm]
          rw [decide_eq_true hm] at h
          exact h
        · rw [if_neg hm]
          exact h.no (decide_eq_false hm)
      · by_cases hu : (s[0]'h0).toNat = 117 ∨ (s[0]'h0).toNat = 85
        · by_cases h85 : (s[0]'h0).toNat = 85
          · refine (spelt_u85 s h0 hs he h85 w hg).mono ?_
            intro e w' h
            rw [extract_cut] at h
            have hsp : spell s.data.toList = if digN 16 8 (s.extract 1 s.size).data.toList = 8 ∧ Lib.validRune (val 16 ((s.extract 1 s.size).data.toList.take 8) 0 : Nat) = true then some (Lib.encodeRune (val 16 ((s.extract 1 s.size).data.toList.take 8) 0 : Nat), 8 + 1) else none := by
              conv => lhs; rw [hl]
              simp only [spell, he, if_neg hx, if_pos hu, if_pos h85]
            have hsp2 : spell s.data.toList = if digN 16 8 (s.extract 1 s.size).data.toList = 8 ∧ Lib.validRune (val 16 ((s.extract 1 s.size).data.toList.take (digN 16 8 (s.extract 1 s.size).data.toList)) 0 : Nat) = true then some (Lib.encodeRune (val 16 ((s.extract 1 s.size).data.toList.take (digN 16 8 (s.extract 1 s.size).data.toList)) 0 : Nat), digN 16 8 (s.extract 1 s.size).data.toList + 1) else none := by
              rw [hsp]
              clear hsp h
              generalize digN 16 8 (s.extract 1 s.size).data.toList = D
              by_cases hc : D = 8
              · subst hc
                rfl
              · rw [if_neg (fun x => hc x.1), if_neg (fun x => hc x.1)]
            rw [hsp2]
            clear hsp hsp2
            generalize val 16 ((s.extract 1 s.size).data.toList.take (digN 16 8 (s.extract 1 s.size).data.toList)) 0 = V at h ⊢
            generalize digN 16 8 (s.extract 1 s.size).data.toList = D at h ⊢
            split
            · rename_i hc
              split at hc
              · rename_i hq
                cases hc
                rw [if_pos hq] at h
                exact h
              · cases hc
            · rename_i hc
              split at hc
              · cases hc
              · rename_i hq
                rw [if_neg hq] at h
                exact h
          · have h117 : (s[0]'h0).toNat = 117 := by omega
            refine (spelt_u117 s h0 hs he h117 w hg).mono ?_
            intro e w' h
            rw [extract_cut] at h
            have hsp : spell s.data.toList = if digN 16 4 (s.extract 1 s.size).data.toList = 4 ∧ Lib.validRune (val 16 ((s.extract 1 s.size).data.toList.take 4) 0 : Nat) = true then some (Lib.encodeRune (val 16 ((s.extract 1 s.size).data.toList.take 4) 0 : Nat), 4 + 1) else none := by
              conv => lhs; rw [hl]
              simp only [spell, he, if_neg hx, if_pos hu, if_neg h85]
            have hsp2 : spell s.data.toList = if digN 16 4 (s.extract 1 s.size).data.toList = 4 ∧ Lib.validRune (val 16 ((s.extract 1 s.size).data.toList.take (digN 16 4 (s.extract 1 s.size).data.toList)) 0 : Nat) = true then some (Lib.encodeRune (val 16 ((s.extract 1 s.size).data.toList.take (digN 16 4 (s.extract 1 s.size).data.toList)) 0 : Nat), digN 16 4 (s.extract 1 s.size).data.toList + 1) else none := by
              rw [hsp]
              clear hsp h
              generalize digN 16 4 (s.extract 1 s.size).data.toList = D
              by_cases hc : D = 4
              · subst hc
                rfl
              · rw [if_neg (fun x => hc x.1), if_neg (fun x => hc x.1)]
            rw [hsp2]
            clear hsp hsp2
            generalize val 16 ((s.extract 1 s.size).data.toList.take (digN 16 4 (s.extract 1 s.size).data.toList)) 0 = V at h ⊢
            generalize digN 16 4 (s.extract 1 s.size).data.toList = D at h ⊢
            split
            · rename_i hc
              split at hc
              · rename_i hq
                cases hc
                rw [if_pos hq] at h
                exact h
              · cases hc
            · rename_i hc
              split at hc
              · cases hc
              · rename_i hq
                rw [if_neg hq] at h
                exact h
        · refine (spelt_o s h0 hs he (by omega) (by omega) (by omega) (by omega) w hg).mono ?_
          intro e w' h
          have hsp : spell s.data.toList = if 0 < digN 8 3 s.data.toList ∧ val 8 (s.data.toList.take (digN 8 3 s.data.toList)) 0 ≤ 255 then some ([UInt8.ofNat (val 8 (s.data.toList.take (digN 8 3 s.data.toList)) 0)], digN 8 3 s.data.toList) else none := by
            rw [hl]
            simp only [spell, he, if_neg hx, if_neg hu]
          rw [hsp]
          split
          · rename_i hc
            split at hc
            · rename_i hq
              cases hc
              rw [if_pos hq] at h
              exact h
            · cases hc
          · rename_i hc
            split at hc
            · cases hc
            · rename_i hq
              rw [if_neg hq] at h
              exact h
  · have he : s = ⟨#[]⟩ := by
      obtain ⟨⟨l⟩⟩ := s
      cases l with
      | nil => rfl
      | cons _ _ => simp [ByteArray.size] at h0
    subst he
    exact spelt_empty w
end Go.Proofs.YtihidbjffclfkaaGreatDoor.PLex
