/- Part of the proof: what it uses of HUnq. -/
import Derived.Deep.LoopGhost
import Derived.Deep.RegionLaw
import Derived.IntWalk
import Derived.Outline
import Derived.Test.YtihidbjffclfkaaGreatDoorBHSpec3
import Derived.Test.YtihidbjffclfkaaGreatDoorBHSpelt
import Derived.Test.YtihidbjffclfkaaGreatDoorBPLexL
import Derived.WalkMore
namespace Go.Proofs.YtihidbjffclfkaaGreatDoor.PLex
open Go.RowKit Go.Maps Go.Proofs.YtihidbjffclfkaaGreatDoorW.PrintWords Go.Proofs.YtihidbjffclfkaaGreatDoorW.PrintLast Go.Proofs.YtihidbjffclfkaaGreatDoorW.PrintMore Go.Proofs.YtihidbjffclfkaaGreatDoor.Lx
set_option linter.unusedVariables false
set_option linter.unusedSimpArgs false
theorem info_u8 : (Tryz.prog.info? 5).map (fun i => (i.zero, i.size, i.bytes)) = some (some (.int .u8 0), 1, 1) := by kernel_rfl
def text_Unquote.f (a0 : ByteArray) : Option (List Int × Int) :=
  if a0.size ≤ 1099511627776 then
    match unquote a0.data.toList with
    | some bs => some (bl bs, 0)
    | none => some ([], 21)
  else none
def UnqNo (w : World) (e : Ending) (w' : World) : Prop := e = .returned (.tuple #[.slice none 0 0, .int .i64 21]) ∧ Below w.heap.size w w'
set_option maxRecDepth 100000 in
theorem unq_short (s : ByteArray) (h : s.size < 2) (w : World) : Calls Tryz.prog 29 #[.string s] w fun e w' => UnqNo w e w' := by
  have h1 : decide ((s.size : Int) < 2) = true := by simp; omega
  have h2 : (s.size : Int) < 2 := by omega
  clear h
  go_enter Tryz.func29, Tryz.ntmps29
  go_wp2
  go_step3
  go_wp2
  go_quiet (fail)
  go_wp2
  try rw [Exit.noGoto_ret]
  go_ret2
  refine ⟨rfl, ?_⟩
  repeat (first | exact Below.refl _ _ | apply pw_below_drewN)
set_option maxRecDepth 100000 in
theorem unq_start (s : ByteArray) (h : 2 ≤ s.size) (hq : ¬ ((s[0]'(by omega)).toNat = 34 ∨ (s[0]'(by omega)).toNat = 39)) (w : World) : Calls Tryz.prog 29 #[.string s] w fun e w' => UnqNo w e w' := by
  have h0 : 0 < s.size := by omega
  have h1 : decide ((s.size : Int) < 2) = false := by simp; omega
  have h2 : (2 : Int) ≤ (s.size : Int) := by omega
  have h3 : (((s[0]'h0).toNat : Int) != 34) = true := by rw [bne_iff_ne]; omega
  have h4 : (((s[0]'h0).toNat : Int) != 39) = true := by rw [bne_iff_ne]; omega
  clear h hq
  go_enter Tryz.func29, Tryz.ntmps29
  go_wp2
  go_step3
  go_wp2
  go_quiet (fail)
  go_wp2
  try rw [Exit.noGoto_ret]
  go_ret2
  refine ⟨rfl, ?_⟩
  repeat (first | exact Below.refl _ _ | apply pw_below_drewN)
set_option maxRecDepth 100000 in
theorem unq_end (s : ByteArray) (hs : s.size ≤ 1099511627776) (h : 2 ≤ s.size) (hq : (s[0]'(by omega)).toNat = 34 ∨ (s[0]'(by omega)).toNat = 39) (hl : (s[s.size - 1]'(by omega)).toNat ≠ (s[0]'(by omega)).toNat) (w : World) : Calls Tryz.prog 29 #[.string s] w fun e w' => UnqNo w e w' := by
  have h0 : 0 < s.size := by omega
  have h1 : decide ((s.size : Int) < 2) = false := by simp; omega
  have h2 : (2 : Int) ≤ (s.size : Int) := by omega
  have h5 : (((s[s.size - 1]'(by omega)).toNat : Int) != ((s[0]'h0).toNat : Int)) = true := by rw [bne_iff_ne]; omega
  have h9 : s.size - 1 < s.size := by omega
  have hwr : IntKind.i64.wrap ((s.size : Int) - 1) = (s.size : Int) - 1 := IntWalk.i64_in _ (by omega)
  have h6 : (0 : Int) ≤ (s.size : Int) - 1 := by omega
  have h6b : decide ((0 : Int) ≤ (s.size : Int) - 1) = true := decide_eq_true h6
  have h8 : (s.size : Int) - 1 < (s.size : Int) := by omega
  have h8b : decide ((s.size : Int) - 1 < (s.size : Int)) = true := decide_eq_true h8
  have h10 : (1 : Int) ≤ (s.size : Int) := by omega
  rcases hq with hq | hq
  · have h3 : (((s[0]'h0).toNat : Int) != 34) = false := by rw [hq]; rfl
    clear hq hl
    go_enter Tryz.func29, Tryz.ntmps29
    go_wp2
    go_step3
    go_wp2
    go_quiet (fail)
    go_wp2
    try rw [Exit.noGoto_ret]
    go_ret2
    refine ⟨rfl, ?_⟩
    repeat (first | exact Below.refl _ _ | apply pw_below_drewN)
  · have h3 : (((s[0]'h0).toNat : Int) != 34) = true := by rw [hq]; rfl
    have h4 : (((s[0]'h0).toNat : Int) != 39) = false := by rw [hq]; rfl
    clear hq hl
    go_enter Tryz.func29, Tryz.ntmps29
    go_wp2
    go_step3
    go_wp2
    go_quiet (fail)
    go_wp2
    try rw [Exit.noGoto_ret]
    go_ret2
    refine ⟨rfl, ?_⟩
    repeat (first | exact Below.refl _ _ | apply pw_below_drewN)
theorem unq_nil (q : UInt8) (k : Nat) : unq q k [] = none := by cases k <;> rfl
theorem unq_at (t : ByteArray) (h0 : 0 < t.size) (q : UInt8) (k : Nat) (acc : List UInt8) (tot : Option (List UInt8)) (h : tot = (unq q (k + 1) t.data.toList).map (acc ++ ·)) :
    tot = (if t[0]'h0 = q then (if (t.extract 1 t.size).data.toList = [] then some [] else none) else if (t[0]'h0).toNat < 32 then none else if (t[0]'h0).toNat = 92 then (match spell (t.extract 1 t.size).data.toList with | some (bs, n) => (unq q k ((t.extract 1 t.size).data.toList.drop n)).map (bs ++ ·) | none => none) else (unq q k (t.extract 1 t.size).data.toList).map (t[0]'h0 :: ·)).map (acc ++ ·) := by
  rw [h, toList_cons t h0]
  rfl
theorem ext_drop (t : ByteArray) (n : Nat) : (t.extract n t.size).data.toList = t.data.toList.drop n := by
  rw [ByteArray.data_extract, Array.toList_extract, List.extract_eq_take_drop]
  rw [List.take_of_length_le (by rw [List.length_drop, (Lib.size_eq t).symm]; omega)]
theorem ext_nil (t : ByteArray) (h : t.size ≤ 1) : (t.extract 1 t.size).data.toList = [] := by
  rw [ext_drop]
  exact List.drop_eq_nil_of_le (by rw [← Lib.size_eq t]; exact h)
theorem ext_cons (t : ByteArray) (h : 1 < t.size) : (t.extract 1 t.size).data.toList ≠ [] := by
  rw [ext_drop]
  intro h1
  rw [List.drop_eq_nil_iff, ← Lib.size_eq t] at h1
  omega
theorem map_map_app (o : Option (List UInt8)) (a b : List UInt8) : (o.map (b ++ ·)).map (a ++ ·) = o.map ((a ++ b) ++ ·) := by
  cases o <;> simp
theorem map_map_cons (o : Option (List UInt8)) (a : List UInt8) (c : UInt8) : (o.map (c :: ·)).map (a ++ ·) = o.map ((a ++ [c]) ++ ·) := by
  cases o <;> simp
theorem bl_app (a b : List UInt8) : bl (a ++ b) = bl a ++ bl b := by simp [bl]
theorem bl_len (a : List UInt8) : (bl a).length = a.length := by simp [bl]
set_option maxRecDepth 100000 in
set_option maxHeartbeats 3200000 in
theorem unq_loop (s : ByteArray) (hs : s.size ≤ 1099511627776) (h : 2 ≤ s.size) (hq : (s[0]'(by omega)).toNat = 34 ∨ (s[0]'(by omega)).toNat = 39) (hl : (s[s.size - 1]'(by omega)).toNat = (s[0]'(by omega)).toNat) (w : World) (hg : GV w) :
    Calls Tryz.prog 29 #[.string s] w fun e w' => ∃ v0_ : Value, e = .returned (.tuple #[v0_, .int .i64 (match unq (s[0]'(by omega)) s.size (s.extract 1 s.size).data.toList with | some _ => 0 | none => 21)]) ∧ Kd.R (Kd.int .u8) 5 w' w.heap.size (fun _ => True) v0_ (match unq (s[0]'(by omega)) s.size (s.extract 1 s.size).data.toList with | some bs => bl bs | none => []) ∧ Below w.heap.size w w' := by
  have h0 : 0 < s.size := by omega
  have h1 : decide ((s.size : Int) < 2) = false := by simp; omega
  have h2 : (2 : Int) ≤ (s.size : Int) := by omega
  have h9 : s.size - 1 < s.size := by omega
  have h5 : (((s[s.size - 1]'h9).toNat : Int) != ((s[0]'h0).toNat : Int)) = false := by rw [bne_eq_false_iff_eq]; omega
  have hwr : IntKind.i64.wrap ((s.size : Int) - 1) = (s.size : Int) - 1 := IntWalk.i64_in _ (by omega)
  have h6 : (0 : Int) ≤ (s.size : Int) - 1 := by omega
  have h6b : decide ((0 : Int) ≤ (s.size : Int) - 1) = true := decide_eq_true h6
  have h8 : (s.size : Int) - 1 < (s.size : Int) := by omega
  have h8b : decide ((s.size : Int) - 1 < (s.size : Int)) = true := decide_eq_true h8
  have h10 : (1 : Int) ≤ (s.size : Int) := by omega
  have hsz : (s.extract 1 s.size).size < s.size := by rw [ByteArray.size_extract]; omega
  obtain ⟨tot, htot⟩ : ∃ tot, tot = unq (s[0]'h0) s.size (s.extract 1 s.size).data.toList := ⟨_, rfl⟩
  rw [← htot]
  have HT := Lib.hid htot
  have HSZ := Lib.hid hsz
  have HS := Lib.hid hs
  have HG := Aside0.mk hg
  have h3 : (((s[0]'h0).toNat : Int) != 34) = false ∨ (((s[0]'h0).toNat : Int) != 34) = true ∧ (((s[0]'h0).toNat : Int) != 39) = false := by
    rcases hq with hq | hq
    · left; rw [hq]; rfl
    · right; rw [hq]; exact ⟨rfl, rfl⟩
  clear htot hsz hg hl hq hs
  rcases h3 with h3 | ⟨h3, h4⟩
  all_goals (
    go_enter Tryz.func29, Tryz.ntmps29
    go_wp2
    go_step3
    go_wp2
    go_quiet (fail)
    go_wp2
    go_step3
    go_wp2
    go_loopg [5, 6] s.size (fun kq v5 v6 w' => ∃ (acc : List UInt8) (t : ByteArray), v6 = .string t ∧ Aside0 (tot = (unq (s[0]'h0) kq t.data.toList).map (acc ++ ·)) ∧ Aside0 (kq ≤ s.size) ∧ Aside0 (t.size < kq) ∧ Aside0 (acc.length + 4 * t.size ≤ 4 * s.size) ∧ Aside0 (Kd.R (Kd.int .u8) 5 w' w.heap.size (fun _ => True) v5 (bl acc)) ∧ Aside0 (Below w.heap.size w w'))
    case atStart => exact ⟨[], s.extract 1 s.size, rfl, ⟨by rw [HT.out]; cases unq (s[0]'h0) s.size (s.extract 1 s.size).data.toList <;> rfl⟩, ⟨Nat.le_refl _⟩, ⟨HSZ.out⟩, ⟨by have := HSZ.out; simp only [List.length_nil]; omega⟩, ⟨Kd.R_nil _ _ _ _ _⟩, ⟨by repeat (first | exact Below.refl _ _ | apply pw_below_drewN | apply below_drew1)⟩⟩
    case round =>
      clear HT
      try clear h3
      try clear h5
      try clear h6b
      try clear h8b
      try clear h1
      try clear h2
      obtain ⟨acc, t, rfl, HA, HK, HT1, HL, HO, HB⟩ := hrel
      cases gk with
      | zero => exact absurd HT1.out (by omega)
      | succ k1 =>
        by_cases ht : 0 < t.size
        · have HQ := Aside0.mk (unq_at t ht _ _ _ _ HA.out)
          have hemp := not_empty t ht
          clear HA
          have hti : (1 : Int) ≤ (t.size : Int) := by omega
          obtain ⟨r, hr⟩ : ∃ r, r = (t.extract 1 t.size).data.toList := ⟨_, rfl⟩
          have HR := Lib.hid hr
          rw [← hr] at HQ
          clear hr
          by_cases c1 : t[0]'ht = s[0]'h0
          · have hc1 : (((t[0]'ht).toNat : Int) == ((s[0]'h0).toNat : Int)) = true := by rw [c1, beq_iff_eq]
            by_cases c2 : t.size = 1
            · have hc2 : ((t.size : Int) == 1) = true := by rw [c2]; rfl
              have hn : tot = some acc := by
                rw [HQ.out, if_pos c1, HR.out, if_pos (ext_nil t (by omega))]
                simp
              subst hn
              clear HQ c1 c2
              go_wp2
              try rw [Exit.noGoto_ret]
              go_ret2
              exact ⟨_, rfl, (by (with_reducible repeat (first | apply Kd.R_alloc | apply Kd.R_drewN | apply Kd.R_drew)); exact HO.out), by repeat (first | exact HB.out | apply below_alloc | apply pw_below_drewN | apply below_drew1)⟩
            · have hc2 : ((t.size : Int) == 1) = false := by rw [beq_eq_false_iff_ne]; omega
              have hn : tot = none := by
                rw [HQ.out, if_pos c1, HR.out, if_neg (ext_cons t (by omega))]
                rfl
              subst hn
              clear HQ c1 c2
              go_wp2
              try rw [Exit.noGoto_ret]
              go_ret2
              exact ⟨_, rfl, Kd.R_nil _ _ _ _ _, by repeat (first | exact HB.out | apply below_alloc | apply pw_below_drewN | apply below_drew1)⟩
          · have hc1 : (((t[0]'ht).toNat : Int) == ((s[0]'h0).toNat : Int)) = false := by rw [beq_eq_false_iff_ne]; intro he; exact c1 (UInt8.toNat_inj.1 (by omega))
            by_cases c2 : (t[0]'ht).toNat < 32
            · have hc2 : decide (((t[0]'ht).toNat : Int) < 32) = true := by simp; omega
              have hc3 : ((t[0]'ht).toNat : Int) < 32 := by omega
              have hn : tot = none := by
                rw [HQ.out, if_neg c1, if_pos c2]
                rfl
              subst hn
              clear HQ c1
              go_wp2
              try rw [Exit.noGoto_ret]
              go_ret2
              exact ⟨_, rfl, Kd.R_nil _ _ _ _ _, by repeat (first | exact HB.out | apply below_alloc | apply pw_below_drewN | apply below_drew1)⟩
            · have hc2 : decide (((t[0]'ht).toNat : Int) < 32) = false := by simp; omega
              have hc3 : ¬ ((t[0]'ht).toNat : Int) < 32 := by omega
              by_cases c3 : (t[0]'ht).toNat = 92
              · have hc4 : (((t[0]'ht).toNat : Int) != 92) = false := by rw [c3]; rfl
                have hc5 : (t.extract 1 t.size).size ≤ 281474976710656 := by rw [ByteArray.size_extract]; have := HT1.out; have := HK.out; have := HS.out; omega
                have hsp : ∀ w, GV w → Calls Tryz.prog 55 #[.string (t.extract 1 t.size)] w _ := fun w hg => spelt_calls (t.extract 1 t.size) hc5 w hg
                clear hc5
                rw [← HR.out] at hsp
                cases hs1 : spell r with
                | none =>
                  rw [hs1] at hsp
                  simp only at hsp
                  have HC := Lib.hid hsp
                  have hn : tot = none := by
                    rw [HQ.out, if_neg c1, if_neg c2, if_pos c3, hs1]
                    rfl
                  subst hn
                  clear HQ c1 c2 c3 hsp hs1
                  go_wp2_with (go_at_call 55; refine (HC.out _ (GV.below HG.out HB.out)).mono ?_; rintro e w2 ⟨⟨vv, tt, rfl⟩, hb⟩; have HB1 := Aside0.mk (below_then HB.out HB.out.size hb); clear HB hb; have HB := HB1; clear HB1)
                  try rw [Exit.noGoto_ret]
                  go_ret2
                  exact ⟨_, rfl, Kd.R_nil _ _ _ _ _, by repeat (first | exact HB.out | apply below_alloc | apply pw_below_drewN | apply below_drew1)⟩
                | some p =>
                  obtain ⟨bs, n⟩ := p
                  rw [hs1] at hsp
                  simp only at hsp
                  have HC := Lib.hid hsp
                  have HN : Aside0 (tot = (unq (s[0]'h0) k1 ((t.extract 1 t.size).extract n (t.extract 1 t.size).size).data.toList).map ((acc ++ bs) ++ ·)) := ⟨by
                    rw [HQ.out, if_neg c1, if_neg c2, if_pos c3, hs1, ext_drop (t.extract 1 t.size) n, ← HR.out, ← map_map_app]⟩
                  have hsb := spell_bounds hs1
                  have HZ : Aside0 (bs.length ≤ 4 ∧ ((t.extract 1 t.size).extract n (t.extract 1 t.size).size).size + 2 ≤ t.size) := ⟨⟨hsb.1, by
                    have h1 : r.length = (t.extract 1 t.size).size := by rw [HR.out]; exact (Lib.size_eq _).symm
                    rw [ByteArray.size_extract]
                    rw [ByteArray.size_extract] at h1 ⊢
                    omega⟩⟩
                  have HY : Aside0 (bl acc ++ bl bs = bl (acc ++ bs)) := ⟨(bl_app _ _).symm⟩
                  have HL2 : Aside0 (acc.length + bs.length < 140737488355320) := ⟨by have := HL.out; have := HS.out; omega⟩
                  generalize (t.extract 1 t.size).extract n (t.extract 1 t.size).size = t2 at *
                  clear HQ c1 c2 c3 hsp hs1 hsb
                  go_wp2_with (first | (go_at_call 55; refine (HC.out _ (GV.below HG.out HB.out)).mono ?_; rintro e w2 ⟨⟨Ab, cb, rfl, hcb, hbr⟩, hb⟩; have HB1 := Aside0.mk (below_then HB.out HB.out.size hb); have HO1 := Aside0.mk (Kd.R_below HO.out hb); have HBR := Aside0.mk hbr; clear HB HO hb hbr; have HB := HB1; have HO := HO1; clear HB1 HO1) | ((with_reducible refine gate_builtin (b := .append) (xs := #[.tmp 76, .tmp 77]) rfl ?_); at_builtin; refine Kd.R_append_rows (Kd.int .u8) (w0 := w) w.heap.size rfl (.tmp 76) (.tmp 77) 29 5 (.int .u8 0) 1 rfl Tryz.underlying29 info_u8 rfl (by decide) (by omega) u5 (bl acc) (bl bs) _ _ _ (fun _ => True) (fun _ => False) rfl rfl ?aO ?aR (fun _ _ h => h) (fun _ h => h.elim) (fun _ _ => trivial) ?aB ?aS ?aL ?_; (case aR => exact HBR.out); (case aB => exact (by repeat (first | exact HB.out | apply below_alloc | apply pw_below_drewN | apply below_drew1))); (case aO => exact (by (with_reducible repeat (first | apply Kd.R_alloc | apply Kd.R_drewN | apply Kd.R_drew)); exact HO.out)); (case aS => exact (below_size (by repeat (first | exact HB.out | apply below_alloc | apply pw_below_drewN | apply below_drew1)))); (case aL => rw [bl_len]; have := HL2.out; omega); intro v1 w1 ho hb hg hat; rw [HY.out] at ho; have n0_ := Aside0.mk hb; have n1_ := Aside0.mk ho; clear HB HO ho hb hg hat; have HB := n0_; have HO := n1_; clear n0_ n1_))
                  go_roundg k1
                  case measure => have := HK.out; omega
                  case rel => exact ⟨_, _, rfl, HN, ⟨by have := HK.out; omega⟩, ⟨by have := HT1.out; have := HZ.out; omega⟩, ⟨by rw [List.length_append]; have := HL.out; have := HZ.out; omega⟩, ⟨(by (with_reducible repeat (first | apply Kd.R_alloc | apply Kd.R_drewN | apply Kd.R_drew)); exact HO.out)⟩, ⟨by repeat (first | exact HB.out | apply below_alloc | apply pw_below_drewN | apply below_drew1)⟩⟩
              · have hc4 : (((t[0]'ht).toNat : Int) != 92) = true := by rw [bne_iff_ne]; omega
                have HN : Aside0 (tot = (unq (s[0]'h0) k1 (t.extract 1 t.size).data.toList).map ((acc ++ [t[0]'ht]) ++ ·)) := ⟨by
                  rw [HQ.out, if_neg c1, if_neg c2, if_neg c3, HR.out, map_map_cons]⟩
                have HY : Aside0 (bl acc ++ [((t[0]'ht).toNat : Int)] = bl (acc ++ [t[0]'ht])) := ⟨by rw [bl_app]; rfl⟩
                have HL2 : Aside0 (acc.length < 140737488355320) := ⟨by have := HL.out; have := HS.out; omega⟩
                clear HQ c1 c2 c3
                go_wp2
                go_region_law (rw [show (wr.alloc (.cells #[.int .u8 ((t[0]'ht).toNat : Int)] 5)).drew = wr.drew.alloc (.cells #[.int .u8 ((t[0]'ht).toNat : Int)] 5) from rfl]; refine Kd.R_append_step (Kd.int .u8) (w0 := w) w.heap.size ?hw (.tmp 61) (.tmp 63) 29 5 (.int .u8 0) 1 ?ho Tryz.underlying29 info_u8 rfl (by decide) (by omega) u5 (bl acc) ((t[0]'ht).toNat : Int) [.int .u8 ((t[0]'ht).toNat : Int)] (fun _ => True) (fun _ => False) ?he1 ?he2 ?aP (fun _ hk => hk.elim) (fun _ _ => trivial) ?aO ?aB ?aS ?aL ?_; (case ho => rfl); (case hw => rfl); (case he1 => rfl); (case he2 => rfl); (case aP => exact rfl); (case aO => exact (by (with_reducible repeat (first | apply Kd.R_alloc | apply Kd.R_drewN | apply Kd.R_drew)); exact HO.out)); (case aB => exact (by repeat (first | exact HB.out | apply below_alloc | apply pw_below_drewN | apply below_drew1))); (case aS => exact (below_size (by repeat (first | exact HB.out | apply below_alloc | apply pw_below_drewN | apply below_drew1)))); (case aL => rw [bl_len]; have := HL2.out; omega); intro v1 w1 ho hb hg hat; rw [HY.out] at ho; have n0_ := Aside0.mk hb; have n1_ := Aside0.mk ho; clear HB HO ho hb hg hat; have HB := n0_; have HO := n1_; clear n0_ n1_)
                go_wp2
                go_roundg k1
                case measure => have := HK.out; omega
                case rel => exact ⟨_, _, rfl, HN, ⟨by have := HK.out; omega⟩, ⟨by rw [ByteArray.size_extract]; have := HT1.out; omega⟩, ⟨by rw [ByteArray.size_extract, List.length_append, List.length_singleton]; have := HL.out; omega⟩, ⟨(by (with_reducible repeat (first | apply Kd.R_alloc | apply Kd.R_drewN | apply Kd.R_drew)); exact HO.out)⟩, ⟨by repeat (first | exact HB.out | apply below_alloc | apply pw_below_drewN | apply below_drew1)⟩⟩
        · have ht2 : t = ⟨#[]⟩ := by
            apply ByteArray.ext
            apply Array.ext'
            have : t.data.toList.length = t.size := (Lib.size_eq t).symm
            exact List.length_eq_zero_iff.1 (by omega)
          subst ht2
          have hn : tot = none := by rw [HA.out]; exact congrArg _ (unq_nil _ _)
          subst hn
          clear HA
          go_wp2
          try rw [Exit.noGoto_ret]
          go_ret2
          exact ⟨_, rfl, Kd.R_nil _ _ _ _ _, by repeat (first | exact HB.out | apply below_alloc | apply pw_below_drewN | apply below_drew1)⟩)
theorem getLast_ext (s : ByteArray) (h : 2 ≤ s.size) : (s.extract 1 s.size).data.toList.getLast? = some (s[s.size - 1]'(by omega)) := by
  have hl : s.data.toList.length = s.size := (Lib.size_eq s).symm
  rw [ext_drop, List.getLast?_drop, if_neg (by omega), List.getLast?_eq_getElem?, hl, List.getElem?_eq_getElem (by omega)]
  rfl
theorem text_Unquote.calls (a0 : ByteArray) (r1 : List Int) (r2 : Int) (w : World) (h : text_Unquote.f a0 = some (r1, r2)) (hg : GV w) :
    Calls Tryz.prog 29 #[.string a0] w fun e w' => ∃ v0_ : Value, e = .returned (.tuple #[v0_, .int .i64 r2]) ∧ Kd.R (Kd.int .u8) 5 w' w.heap.size (fun _ => True) v0_ r1 ∧ Below w.heap.size w w' := by
  unfold text_Unquote.f at h
  by_cases hs : a0.size ≤ 1099511627776
  · rw [if_pos hs] at h
    have no : ∀ e w', unquote a0.data.toList = none → UnqNo w e w' → ∃ v0_ : Value, e = .returned (.tuple #[v0_, .int .i64 r2]) ∧ Kd.R (Kd.int .u8) 5 w' w.heap.size (fun _ => True) v0_ r1 ∧ Below w.heap.size w w' := by
      intro e w' hu ⟨he, hb⟩
      rw [hu] at h
      cases h
      exact ⟨_, he, Kd.R_nil _ _ _ _ _, hb⟩
    by_cases h2 : a0.size < 2
    · refine (unq_short a0 h2 w).mono fun e w' hw => no e w' ?_ hw
      have hl : a0.data.toList.length = a0.size := (Lib.size_eq a0).symm
      match hm : a0.data.toList with
      | [] => rfl
      | [c] => simp [unquote, unq]
      | a :: b :: c => rw [hm] at hl; simp at hl; omega
    · have h2' : 2 ≤ a0.size := by omega
      have hc := toList_cons a0 (by omega)
      have hlen : (a0.extract 1 a0.size).data.toList.length + 1 = a0.size := by rw [← Lib.size_eq, ByteArray.size_extract]; omega
      have hu : unquote a0.data.toList = if (a0[0]'(by omega)).toNat = 34 ∨ (a0[0]'(by omega)).toNat = 39 then unq (a0[0]'(by omega)) a0.size (a0.extract 1 a0.size).data.toList else none := by
        rw [hc]
        show (if _ then unq _ ((a0.extract 1 a0.size).data.toList.length + 1) _ else none) = _
        rw [hlen]
      by_cases hq : (a0[0]'(by omega)).toNat = 34 ∨ (a0[0]'(by omega)).toNat = 39
      · rw [if_pos hq] at hu
        by_cases hl : (a0[a0.size - 1]'(by omega)).toNat = (a0[0]'(by omega)).toNat
        · refine (unq_loop a0 hs h2' hq hl w hg).mono ?_
          rintro e w' ⟨v, he, hr, hb⟩
          rw [← hu] at he hr
          refine ⟨v, ?_, ?_, hb⟩
          · rw [he]
            cases hx : unquote a0.data.toList with
            | none => rw [hx] at h; cases h; rfl
            | some bs => rw [hx] at h; cases h; rfl
          · cases hx : unquote a0.data.toList with
            | none => rw [hx] at h hr; cases h; exact hr
            | some bs => rw [hx] at h hr; cases h; exact hr
        · refine (unq_end a0 hs h2' hq hl w).mono fun e w' hw => no e w' ?_ hw
          rw [hu]
          cases hx : unq (a0[0]'(by omega)) a0.size (a0.extract 1 a0.size).data.toList with
          | none => rfl
          | some bs =>
            have := unq_last _ _ _ _ hx
            rw [getLast_ext a0 h2'] at this
            injection this with this
            exact absurd (congrArg UInt8.toNat this) hl
      · refine (unq_start a0 h2' hq w).mono fun e w' hw => no e w' ?_ hw
        rw [hu, if_neg hq]
  · rw [if_neg hs] at h
    cases h
end Go.Proofs.YtihidbjffclfkaaGreatDoor.PLex
