/- Part of the proof: what it uses of HQuote. -/
import Derived.Test.YtihidbjffclfkaaGreatDoorBHUnq
namespace Go.Proofs.YtihidbjffclfkaaGreatDoor.Lx
def qsh : List (Nat × Nat) := [(10, 110), (13, 114), (9, 116), (34, 34), (92, 92)]
def sh1 (c : UInt8) : Option Nat := (qsh.find? fun p => p.1 == c.toNat).map (·.2)
def qOne (c : UInt8) : List UInt8 :=
  match sh1 c with
  | some x => [92, UInt8.ofNat x]
  | none => if c.toNat < 32 ∨ 126 < c.toNat then [92, UInt8.ofNat (48 + c.toNat / 64), UInt8.ofNat (48 + c.toNat / 8 % 8), UInt8.ofNat (48 + c.toNat % 8)] else [c]
def quoteL (l : List UInt8) : List UInt8 := 34 :: (l.flatMap qOne ++ [34])
end Go.Proofs.YtihidbjffclfkaaGreatDoor.Lx
namespace Go.Proofs.YtihidbjffclfkaaGreatDoor.PLex
open Go.RowKit Go.Maps Go.Proofs.YtihidbjffclfkaaGreatDoorW.PrintWords Go.Proofs.YtihidbjffclfkaaGreatDoorW.PrintLast Go.Proofs.YtihidbjffclfkaaGreatDoorW.PrintMore Go.Proofs.YtihidbjffclfkaaGreatDoor.Lx
set_option linter.unusedVariables false
set_option linter.unusedSimpArgs false
theorem qsh_has_nat : ∀ n : Nat, n < 256 → Maps.has (mapOf qsh) (.int .u8 (n : Int)) = ((qsh.find? fun p => p.1 == n).isSome) := by decide +kernel
theorem qsh_at_nat : ∀ n : Nat, n < 256 → isByte ((mapOf qsh).atKey (.int .u8 (n : Int)) (.lit (.int .u8 0))) (((qsh.find? fun p => p.1 == n).map (·.2)).getD 0) = true := by decide +kernel
theorem qsh_has (c : UInt8) : Maps.has (mapOf qsh) (.int .u8 (c.toNat : Int)) = (sh1 c).isSome := by
  rw [qsh_has_nat _ c.toNat_lt]
  simp [sh1]
theorem qsh_at (c : UInt8) {x : Int} (h : (mapOf qsh).atKey (.int .u8 (c.toNat : Int)) (.lit (.int .u8 0)) = .lit (.int .u8 x)) : x = ((sh1 c).getD 0 : Nat) :=
  isByte_eq (qsh_at_nat _ c.toNat_lt) h
theorem reads_lit (W : World) (xs : List Int) (h : xs.length ≤ 9223372036854775807) : Kd.C (Kd.int .u8) (W.alloc (.cells (xs.map fun x => Value.int .u8 x).toArray 5)) (some ⟨W.heap.size, 0, none⟩) xs.length xs := by
  refine Kd.C_of_reads (d := (0 : Int)) (h1 := fun _ => rfl) ⟨rfl, h, fun _ => ⟨_, rfl, fun j hj => ?_⟩⟩
  have hh := heap_alloc_new W (.cells (xs.map fun x => Value.int .u8 x).toArray 5)
  rw [add_plain]
  unfold World.cell?
  simp only [hh]
  simp [hj]
theorem bl_get (l : List UInt8) (j : Nat) (h : j < l.length) : rd (bl l) (j : Int) = ((l[j]'h).toNat : Int) := by
  unfold rd bl
  simp [h]
theorem sh1_lt {c : UInt8} {x : Nat} (h : sh1 c = some x) : x < 256 := by
  unfold sh1 at h
  obtain ⟨p, hp, rfl⟩ := Option.map_eq_some_iff.1 h
  have hm := List.mem_of_find?_eq_some hp
  revert hm
  have : ∀ p ∈ qsh, p.2 < 256 := by decide
  exact this p
theorem qfour (c : UInt8) (h : sh1 c = none) (hor : c.toNat < 32 ∨ 126 < c.toNat) : ([92, 48 + (c.toNat : Int) / 64, 48 + (c.toNat : Int) / 8 % 8, 48 + (c.toNat : Int) % 8] : List Int) = bl (qOne c) := by
  have hq : qOne c = [92, UInt8.ofNat (48 + c.toNat / 64), UInt8.ofNat (48 + c.toNat / 8 % 8), UInt8.ofNat (48 + c.toNat % 8)] := by
    unfold qOne
    rw [h]
    exact if_pos hor
  have hlt := c.toNat_lt
  rw [hq]
  simp [bl]
  omega
theorem qone_plain (c : UInt8) (h : sh1 c = none) (hor : ¬ (c.toNat < 32 ∨ 126 < c.toNat)) : qOne c = [c] := by
  unfold qOne
  rw [h]
  exact if_neg hor
theorem str_bl (l : List UInt8) : strOfNums (bl l ++ [34]) = ⟨(l ++ [34]).toArray⟩ := by
  apply ByteArray.ext
  apply Array.ext'
  rw [strOfNums_data]
  have : ∀ l : List UInt8, (bl l).map (fun n => UInt8.ofNat n.toNat) = l := by
    intro l
    unfold bl
    rw [List.map_map]
    conv => rhs; rw [← List.map_id l]
    apply List.map_congr_left
    intro a _
    simp
  rw [List.map_append, this]
  rfl
theorem quote_one_len (c : UInt8) : (qOne c).length ≤ 4 := by
  unfold qOne
  split
  · simp
  · split <;> simp
theorem quote_take (l : List UInt8) (i : Nat) (hi : i < l.length) : (l.take (i + 1)).flatMap qOne = (l.take i).flatMap qOne ++ qOne (l[i]'hi) := by
  rw [List.take_add_one, List.getElem?_eq_getElem hi, List.flatMap_append]
  simp
theorem quote_len (l : List UInt8) (i : Nat) : (34 :: (l.take i).flatMap qOne).length ≤ 1 + 4 * i := by
  have h : ∀ l : List UInt8, (l.flatMap qOne).length ≤ 4 * l.length := by
    intro l
    induction l with
    | nil => simp
    | cons a l ih =>
      rw [List.flatMap_cons, List.length_append, List.length_cons]
      have := quote_one_len a
      omega
  have h1 := h (l.take i)
  have h2 : (l.take i).length ≤ i := by rw [List.length_take]; omega
  rw [List.length_cons]
  omega
set_option maxRecDepth 100000 in
set_option maxHeartbeats 1600000 in
theorem text_Quote_calls (l : List UInt8) (A0 : Option Addr) (c0 : Nat) (w : World) (hr0 : Kd.C (Kd.int .u8) w A0 l.length (bl l)) (hc0 : l.length ≤ c0) (hl : l.length ≤ 1099511627776) :
    Calls Tryz.prog 41 #[.slice A0 l.length c0] w fun e w' => e = .returned (.string ⟨(quoteL l).toArray⟩) ∧ Below w.heap.size w w' := by
  have hmm := @run_makeMap Tryz.prog
  have HR0 := Aside0.mk hr0
  have HC0 := Aside0.mk hc0
  have HL := Aside0.mk hl
  clear hr0 hc0 hl
  have HO := Aside0.mk (World.ownsMap_made (H := Unit) w Tryz.prog 5 (plainElem Tryz.prog 5))
  have HB := Aside0.mk (below_alloc (Below.refl w.heap.size w) (.map #[] 0))
  go_enter Tryz.func41, Tryz.ntmps41
  have HN := Aside0.mk (show (bl (34 :: (l.take 0).flatMap qOne)) = [34] from rfl)
  go_wp2_with (first | ((with_reducible refine gate_insert 84 _ _ _ rfl ?_); refine wpList_insert_u8 _ rfl _ _ _ 84 rfl 5 5 Tryz.underlying84 Tryz.underlying5 Tryz.underlying5 w.heap.size _ _ rfl HO.out (by decide) _ _ rfl rfl (by decide) (by decide) ?_; intro w1 hown1 hg1; have HO2 := Aside0.mk hown1; have HB2 := Aside0.mk (HB.out.grown hg1 HB.out.size (fun k hk => by cases hk; exact Nat.le_refl _)); clear HO HB hown1 hg1; have HO := HO2; have HB := HB2; clear HO2 HB2) | ((with_reducible refine gate_dst (N := 11) rfl ?_); refine Kd.R_lit (Kd.int .u8) w.heap.size 5 ?hg (N := 11) ?hd (w0 := w) (xs := ([34] : List Int)) (inner := [.int .u8 34]) (ok := fun k => k ≠ w.heap.size) (okp := fun _ => False) ?hr ?hp (fun _ hk => hk.elim) ?hf ?hB ?hs (by simp) ?_; (case hd => rfl); (case hg => rfl); (case hr => first | (go_simp; done) | (go_simp; rfl)); (case hp => exact (Reps.one (show Kd.M (Kd.int .u8) _ _ _ 34 [.int .u8 34] from rfl) (Reps.none _ _))); (case hf => exact Nat.ne_of_gt HO.out.lt); (case hB => exact (by repeat (first | exact HB.out | apply below_alloc | apply pw_below_drewN | apply below_drew1))); (case hs => exact below_size (by repeat (first | exact HB.out | apply below_alloc | apply pw_below_drewN | apply below_drew1))); intro v1 w2 ho hb hg hat; have n0_ := Aside0.mk (HO.out.kept hg (by simp)); have n1_ := Aside0.mk hb; have HR := Aside0.mk ho; clear HO HB ho hb hg hat; have HO := n0_; have HB := n1_; clear n0_ n1_))
  go_loopg [4, 14] l.length (fun kq v4 v14 w' => ∃ i : Nat, v14 = .int .i64 (i : Int) ∧ Aside0 (kq + i = l.length) ∧ Aside0 (Kd.R (Kd.int .u8) 5 w' w.heap.size (fun k => k ≠ w.heap.size) v4 (bl (34 :: (l.take i).flatMap qOne))) ∧ Aside0 (World.ownsMap w' Tryz.prog 5 (plainElem Tryz.prog 5) w.heap.size 5 (mapOf qsh)) ∧ Aside0 (Below w.heap.size w w'))
  case atStart => exact ⟨0, rfl, ⟨by omega⟩, HR, ⟨HO.out⟩, HB⟩
  case round =>
    clear HR HO HB
    obtain ⟨i, rfl, HK, HR, HO, HB⟩ := hrel
    obtain ⟨acc, hacc⟩ : ∃ acc, acc = 34 :: (l.take i).flatMap qOne := ⟨_, rfl⟩
    rw [← hacc] at HR
    have HAC := Lib.hid hacc
    have HLA : Aside0 (acc.length ≤ 1 + 4 * i) := ⟨by rw [hacc]; exact quote_len _ _⟩
    clear hacc
    by_cases hi : i < l.length
    · have hii : (i : Int) < (l.length : Int) := by omega
      have hij : decide ((i : Int) < (l.length : Int)) = true := decide_eq_true hii
      obtain ⟨cc, hcc⟩ : ∃ c, c = l[i]'hi := ⟨_, rfl⟩
      have hrd : rd (bl l) (i : Int) = (cc.toNat : Int) := by rw [hcc]; exact bl_get l i hi
      have HNX : Aside0 (34 :: (l.take (i + 1)).flatMap qOne = acc ++ qOne cc) := ⟨by rw [HAC.out, hcc, quote_take l i hi]; rfl⟩
      clear hcc
      have hlb : (bl l).length = l.length := bl_len l
      obtain ⟨ad, e0, hx0⟩ := Kd.at_int HR0.out (i : Int) (by omega) hii
      cases e0
      rw [hrd] at hx0
      simp only [Int.toNat_natCast] at hx0
      replace hx0 := (HB.out.cell (World.block_lt_of_cell? w _ hx0)).trans hx0
      have p0 : (0 ≤ (i : Int)) = True := eq_true (by omega)
      have q0 : ((i : Int) < (l.length : Int)) = True := eq_true hii
      clear hrd hlb
      cases he : sh1 cc with
      | some x =>
        have HE := Lib.hid he
        have HY : Aside0 (bl acc ++ [92, (x : Int)] = bl (acc ++ qOne cc)) := ⟨by rw [bl_app]; congr 1; unfold qOne; rw [he]; have := sh1_lt he; simp [bl]; omega⟩
        clear he
        go_wp2_with (first | ((with_reducible refine gate_lookup 84 _ _ rfl ?_); have HOF : Aside0 (World.ownsMap _ Tryz.prog 5 (plainElem Tryz.prog 5) w.heap.size 5 (mapOf qsh)) := ⟨(by repeat (first | exact HO.out | apply World.ownsMap.alloc | apply World.ownsMap.drew))⟩; refine wpList_lookup_own_ok_int _ rfl _ _ 84 rfl 5 5 .u8 (int_keyed Tryz.underlying5) Tryz.underlying84 Tryz.underlying5 (zero_u8 _) w.heap.size _ (mapOf qsh) rfl HOF.out _ (.int .u8 (cc.toNat : Int)) rfl (keyOf_u8 Tryz.underlying5 _ (wf_byte _)) ?_; intro xx hat hwc; have hcc := qsh_at _ hat; rw [qsh_has]; clear hat hwc HOF; rw [HE.out] at hcc ⊢; simp only [Option.getD_some, Option.getD_none, Option.isSome_some, Option.isSome_none] at hcc ⊢; subst hcc) | ((with_reducible refine gate_builtin (b := .append) (xs := #[.tmp 30, .tmp 32]) rfl ?_); at_builtin; refine Kd.R_append_rows (Kd.int .u8) (w0 := w) w.heap.size rfl (.tmp 30) (.tmp 32) 29 5 (.int .u8 0) 1 rfl Tryz.underlying29 info_u8 rfl (by decide) (by omega) u4 (bl acc) ?ys _ _ _ (fun k => k ≠ w.heap.size) (fun _ => False) rfl rfl ?aO ?aR (fun _ _ h => h) (fun _ h => h.elim) ?aF ?aB ?aS ?aL ?_; (case aR => exact reads_lit _ [_, _] (by simp)); (case aB => exact (by repeat (first | exact HB.out | apply below_alloc | apply pw_below_drewN | apply below_drew1))); (case aF => exact fun k hk => Nat.ne_of_gt (Nat.lt_of_lt_of_le (World.ownsMap.lt (by repeat (first | exact HO.out | apply World.ownsMap.alloc | apply World.ownsMap.drew))) hk)); (case aO => exact (by (with_reducible repeat (first | apply Kd.R_alloc | apply Kd.R_drewN | apply Kd.R_drew)); exact HR.out)); (case aS => exact below_size (by repeat (first | exact HB.out | apply below_alloc | apply pw_below_drewN | apply below_drew1))); (case aL => have h1_ := HLA.out; have h2_ := HL.out; rw [bl_len]; (try simp only [List.length_cons, List.length_nil]); omega); intro v1 w1 ho hb hg hat; have n0_ := Aside0.mk (World.ownsMap.kept (by repeat (first | exact HO.out | apply World.ownsMap.alloc | apply World.ownsMap.drew)) hg (Kd.R_away HR.out (fun _ hk => hk))); have n1_ := Aside0.mk hb; have n2_ := Aside0.mk ho; clear HO HB HR ho hb hg hat; have HO := n0_; have HB := n1_; have HR := n2_; clear n0_ n1_ n2_))
        go_roundg (l.length - (i + 1))
        case measure => have := HK.out; omega
        case rel => exact ⟨i + 1, (by show Value.int .i64 (wrap64 ((i : Int) + 1)) = _; rw [IntWalk.wrap64_in _ (by have := HL.out; omega)]; rfl), ⟨by omega⟩, ⟨by rw [HNX.out, ← HY.out]; exact HR.out⟩, HO, HB⟩
      | none =>
        have HE := Lib.hid he
        by_cases hor : cc.toNat < 32 ∨ 126 < cc.toNat
        · have HY : Aside0 (bl acc ++ [92, 48 + (cc.toNat : Int) / 64, 48 + (cc.toNat : Int) / 8 % 8, 48 + (cc.toNat : Int) % 8] = bl (acc ++ qOne cc)) := ⟨by rw [bl_app]; congr 1; exact qfour cc he hor⟩
          by_cases h32 : cc.toNat < 32
          · have k1 : decide ((cc.toNat : Int) < 32) = true := by simp; omega
            have k2 : (cc.toNat : Int) < 32 := by omega
            clear he h32 hor
            go_wp2_with (first | ((with_reducible refine gate_lookup 84 _ _ rfl ?_); have HOF : Aside0 (World.ownsMap _ Tryz.prog 5 (plainElem Tryz.prog 5) w.heap.size 5 (mapOf qsh)) := ⟨(by repeat (first | exact HO.out | apply World.ownsMap.alloc | apply World.ownsMap.drew))⟩; refine wpList_lookup_own_ok_int _ rfl _ _ 84 rfl 5 5 .u8 (int_keyed Tryz.underlying5) Tryz.underlying84 Tryz.underlying5 (zero_u8 _) w.heap.size _ (mapOf qsh) rfl HOF.out _ (.int .u8 (cc.toNat : Int)) rfl (keyOf_u8 Tryz.underlying5 _ (wf_byte _)) ?_; intro xx hat hwc; have hcc := qsh_at _ hat; rw [qsh_has]; clear hat hwc HOF; rw [HE.out] at hcc ⊢; simp only [Option.getD_some, Option.getD_none, Option.isSome_some, Option.isSome_none] at hcc ⊢; subst hcc) | ((with_reducible refine gate_builtin (b := .append) (xs := #[.tmp 39, .tmp 50]) rfl ?_); at_builtin; refine Kd.R_append_rows (Kd.int .u8) (w0 := w) w.heap.size rfl (.tmp 39) (.tmp 50) 29 5 (.int .u8 0) 1 rfl Tryz.underlying29 info_u8 rfl (by decide) (by omega) u4 (bl acc) ([92, 48 + (cc.toNat : Int) / 64, 48 + (cc.toNat : Int) / 8 % 8, 48 + (cc.toNat : Int) % 8] : List Int) _ _ _ (fun k => k ≠ w.heap.size) (fun _ => False) rfl rfl ?aO ?aR (fun _ _ h => h) (fun _ h => h.elim) ?aF ?aB ?aS ?aL ?_; (case aR => exact reads_lit _ [92, 48 + (cc.toNat : Int) / 64, 48 + (cc.toNat : Int) / 8 % 8, 48 + (cc.toNat : Int) % 8] (by simp)); (case aB => exact (by repeat (first | exact HB.out | apply below_alloc | apply pw_below_drewN | apply below_drew1))); (case aF => exact fun k hk => Nat.ne_of_gt (Nat.lt_of_lt_of_le (World.ownsMap.lt (by repeat (first | exact HO.out | apply World.ownsMap.alloc | apply World.ownsMap.drew))) hk)); (case aO => exact (by (with_reducible repeat (first | apply Kd.R_alloc | apply Kd.R_drewN | apply Kd.R_drew)); exact HR.out)); (case aS => exact below_size (by repeat (first | exact HB.out | apply below_alloc | apply pw_below_drewN | apply below_drew1))); (case aL => have h1_ := HLA.out; have h2_ := HL.out; rw [bl_len]; (try simp only [List.length_cons, List.length_nil]); omega); intro v1 w1 ho hb hg hat; have n0_ := Aside0.mk (World.ownsMap.kept (by repeat (first | exact HO.out | apply World.ownsMap.alloc | apply World.ownsMap.drew)) hg (Kd.R_away HR.out (fun _ hk => hk))); have n1_ := Aside0.mk hb; have n2_ := Aside0.mk ho; clear HO HB HR ho hb hg hat; have HO := n0_; have HB := n1_; have HR := n2_; clear n0_ n1_ n2_))
            go_roundg (l.length - (i + 1))
            case measure => have := HK.out; omega
            case rel => exact ⟨i + 1, (by show Value.int .i64 (wrap64 ((i : Int) + 1)) = _; rw [IntWalk.wrap64_in _ (by have := HL.out; omega)]; rfl), ⟨by omega⟩, ⟨by rw [HNX.out, ← HY.out]; exact HR.out⟩, HO, HB⟩
          · have k1 : decide ((cc.toNat : Int) < 32) = false := by simp; omega
            have k2 : ¬ (cc.toNat : Int) < 32 := by omega
            have k3 : decide ((cc.toNat : Int) > 126) = true := by simp; omega
            have k4 : (126 : Int) < (cc.toNat : Int) := by omega
            have k5 : (cc.toNat : Int) ≤ 255 := by have := cc.toNat_lt; omega
            clear he h32 hor
            go_wp2_with (first | ((with_reducible refine gate_lookup 84 _ _ rfl ?_); have HOF : Aside0 (World.ownsMap _ Tryz.prog 5 (plainElem Tryz.prog 5) w.heap.size 5 (mapOf qsh)) := ⟨(by repeat (first | exact HO.out | apply World.ownsMap.alloc | apply World.ownsMap.drew))⟩; refine wpList_lookup_own_ok_int _ rfl _ _ 84 rfl 5 5 .u8 (int_keyed Tryz.underlying5) Tryz.underlying84 Tryz.underlying5 (zero_u8 _) w.heap.size _ (mapOf qsh) rfl HOF.out _ (.int .u8 (cc.toNat : Int)) rfl (keyOf_u8 Tryz.underlying5 _ (wf_byte _)) ?_; intro xx hat hwc; have hcc := qsh_at _ hat; rw [qsh_has]; clear hat hwc HOF; rw [HE.out] at hcc ⊢; simp only [Option.getD_some, Option.getD_none, Option.isSome_some, Option.isSome_none] at hcc ⊢; subst hcc) | ((with_reducible refine gate_builtin (b := .append) (xs := #[.tmp 39, .tmp 50]) rfl ?_); at_builtin; refine Kd.R_append_rows (Kd.int .u8) (w0 := w) w.heap.size rfl (.tmp 39) (.tmp 50) 29 5 (.int .u8 0) 1 rfl Tryz.underlying29 info_u8 rfl (by decide) (by omega) u4 (bl acc) ([92, 48 + (cc.toNat : Int) / 64, 48 + (cc.toNat : Int) / 8 % 8, 48 + (cc.toNat : Int) % 8] : List Int) _ _ _ (fun k => k ≠ w.heap.size) (fun _ => False) rfl rfl ?aO ?aR (fun _ _ h => h) (fun _ h => h.elim) ?aF ?aB ?aS ?aL ?_; (case aR => exact reads_lit _ [92, 48 + (cc.toNat : Int) / 64, 48 + (cc.toNat : Int) / 8 % 8, 48 + (cc.toNat : Int) % 8] (by simp)); (case aB => exact (by repeat (first | exact HB.out | apply below_alloc | apply pw_below_drewN | apply below_drew1))); (case aF => exact fun k hk => Nat.ne_of_gt (Nat.lt_of_lt_of_le (World.ownsMap.lt (by repeat (first | exact HO.out | apply World.ownsMap.alloc | apply World.ownsMap.drew))) hk)); (case aO => exact (by (with_reducible repeat (first | apply Kd.R_alloc | apply Kd.R_drewN | apply Kd.R_drew)); exact HR.out)); (case aS => exact below_size (by repeat (first | exact HB.out | apply below_alloc | apply pw_below_drewN | apply below_drew1))); (case aL => have h1_ := HLA.out; have h2_ := HL.out; rw [bl_len]; (try simp only [List.length_cons, List.length_nil]); omega); intro v1 w1 ho hb hg hat; have n0_ := Aside0.mk (World.ownsMap.kept (by repeat (first | exact HO.out | apply World.ownsMap.alloc | apply World.ownsMap.drew)) hg (Kd.R_away HR.out (fun _ hk => hk))); have n1_ := Aside0.mk hb; have n2_ := Aside0.mk ho; clear HO HB HR ho hb hg hat; have HO := n0_; have HB := n1_; have HR := n2_; clear n0_ n1_ n2_))
            go_roundg (l.length - (i + 1))
            case measure => have := HK.out; omega
            case rel => exact ⟨i + 1, (by show Value.int .i64 (wrap64 ((i : Int) + 1)) = _; rw [IntWalk.wrap64_in _ (by have := HL.out; omega)]; rfl), ⟨by omega⟩, ⟨by rw [HNX.out, ← HY.out]; exact HR.out⟩, HO, HB⟩
        · have HY : Aside0 (bl acc ++ [(cc.toNat : Int)] = bl (acc ++ qOne cc)) := ⟨by rw [bl_app]; congr 1; rw [qone_plain cc he hor]; rfl⟩
          have k1 : decide ((cc.toNat : Int) < 32) = false := by simp; omega
          have k2 : ¬ (cc.toNat : Int) < 32 := by omega
          have k3 : decide ((cc.toNat : Int) > 126) = false := by simp; omega
          have k4 : ¬ (126 : Int) < (cc.toNat : Int) := by omega
          clear he hor
          go_wp2_with (first | ((with_reducible refine gate_lookup 84 _ _ rfl ?_); have HOF : Aside0 (World.ownsMap _ Tryz.prog 5 (plainElem Tryz.prog 5) w.heap.size 5 (mapOf qsh)) := ⟨(by repeat (first | exact HO.out | apply World.ownsMap.alloc | apply World.ownsMap.drew))⟩; refine wpList_lookup_own_ok_int _ rfl _ _ 84 rfl 5 5 .u8 (int_keyed Tryz.underlying5) Tryz.underlying84 Tryz.underlying5 (zero_u8 _) w.heap.size _ (mapOf qsh) rfl HOF.out _ (.int .u8 (cc.toNat : Int)) rfl (keyOf_u8 Tryz.underlying5 _ (wf_byte _)) ?_; intro xx hat hwc; have hcc := qsh_at _ hat; rw [qsh_has]; clear hat hwc HOF; rw [HE.out] at hcc ⊢; simp only [Option.getD_some, Option.getD_none, Option.isSome_some, Option.isSome_none] at hcc ⊢; subst hcc) | ((with_reducible refine gate_builtin (b := .append) (xs := #[.tmp 24, .tmp 26]) rfl ?_); at_builtin; refine Kd.R_append_rows (Kd.int .u8) (w0 := w) w.heap.size rfl (.tmp 24) (.tmp 26) 29 5 (.int .u8 0) 1 rfl Tryz.underlying29 info_u8 rfl (by decide) (by omega) u4 (bl acc) ([(cc.toNat : Int)] : List Int) _ _ _ (fun k => k ≠ w.heap.size) (fun _ => False) rfl rfl ?aO ?aR (fun _ _ h => h) (fun _ h => h.elim) ?aF ?aB ?aS ?aL ?_; (case aR => exact reads_lit _ [(cc.toNat : Int)] (by simp)); (case aB => exact (by repeat (first | exact HB.out | apply below_alloc | apply pw_below_drewN | apply below_drew1))); (case aF => exact fun k hk => Nat.ne_of_gt (Nat.lt_of_lt_of_le (World.ownsMap.lt (by repeat (first | exact HO.out | apply World.ownsMap.alloc | apply World.ownsMap.drew))) hk)); (case aO => exact (by (with_reducible repeat (first | apply Kd.R_alloc | apply Kd.R_drewN | apply Kd.R_drew)); exact HR.out)); (case aS => exact below_size (by repeat (first | exact HB.out | apply below_alloc | apply pw_below_drewN | apply below_drew1))); (case aL => have h1_ := HLA.out; have h2_ := HL.out; rw [bl_len]; (try simp only [List.length_cons, List.length_nil]); omega); intro v1 w1 ho hb hg hat; have n0_ := Aside0.mk (World.ownsMap.kept (by repeat (first | exact HO.out | apply World.ownsMap.alloc | apply World.ownsMap.drew)) hg (Kd.R_away HR.out (fun _ hk => hk))); have n1_ := Aside0.mk hb; have n2_ := Aside0.mk ho; clear HO HB HR ho hb hg hat; have HO := n0_; have HB := n1_; have HR := n2_; clear n0_ n1_ n2_))
          go_roundg (l.length - (i + 1))
          case measure => have := HK.out; omega
          case rel => exact ⟨i + 1, (by show Value.int .i64 (wrap64 ((i : Int) + 1)) = _; rw [IntWalk.wrap64_in _ (by have := HL.out; omega)]; rfl), ⟨by omega⟩, ⟨by rw [HNX.out, ← HY.out]; exact HR.out⟩, HO, HB⟩
    · have hie : i = l.length := by have := HK.out; omega
      have hii : ¬ (i : Int) < (l.length : Int) := by omega
      have hij : decide ((i : Int) < (l.length : Int)) = false := decide_eq_false hii
      have HFIN : Aside0 (strOfNums (bl acc ++ [34]) = ⟨(quoteL l).toArray⟩) := ⟨by rw [HAC.out, hie, List.take_length]; exact str_bl (34 :: l.flatMap qOne)⟩
      have hi2 : i ≤ l.length := by omega
      have hil : (l.length : Int) ≤ (l.length : Int) := Int.le_refl _
      clear hie
      go_wp2_with (((with_reducible refine gate_builtin (b := .append) (xs := #[.tmp 53, .tmp 54]) rfl ?_); at_builtin; refine Kd.R_append_rows (Kd.int .u8) (w0 := w) w.heap.size rfl (.tmp 53) (.tmp 54) 29 5 (.int .u8 0) 1 rfl Tryz.underlying29 info_u8 rfl (by decide) (by omega) u4 (bl acc) ([34] : List Int) _ _ _ (fun k => k ≠ w.heap.size) (fun _ => False) rfl rfl ?aO ?aR (fun _ _ h => h) (fun _ h => h.elim) ?aF ?aB ?aS ?aL ?_; (case aR => exact reads_lit _ [34] (by simp)); (case aB => exact (by repeat (first | exact HB.out | apply below_alloc | apply pw_below_drewN | apply below_drew1))); (case aF => exact fun k hk => Nat.ne_of_gt (Nat.lt_of_lt_of_le (World.ownsMap.lt (by repeat (first | exact HO.out | apply World.ownsMap.alloc | apply World.ownsMap.drew))) hk)); (case aO => exact (by (with_reducible repeat (first | apply Kd.R_alloc | apply Kd.R_drewN | apply Kd.R_drew)); exact HR.out)); (case aS => exact below_size (by repeat (first | exact HB.out | apply below_alloc | apply pw_below_drewN | apply below_drew1))); (case aL => have h1_ := HLA.out; have h2_ := HL.out; rw [bl_len]; (try simp only [List.length_cons, List.length_nil]); omega); intro v1 w1 ho hb hg hat; have n0_ := Aside0.mk (World.ownsMap.kept (by repeat (first | exact HO.out | apply World.ownsMap.alloc | apply World.ownsMap.drew)) hg (Kd.R_away HR.out (fun _ hk => hk))); have n1_ := Aside0.mk hb; have n2_ := Aside0.mk ho; clear HO HB HR ho hb hg hat; have HO := n0_; have HB := n1_; have HR := n2_; clear n0_ n1_ n2_; have hcv := own_string (P := Tryz.prog) Tryz.underlying29 Tryz.underlying5 Tryz.underlying9 (Kd.own_of_R HR.out); rw [HFIN.out] at hcv))
      go_ret
      exact ⟨rfl, HB.out⟩
end Go.Proofs.YtihidbjffclfkaaGreatDoor.PLex
