/- Part of the proof: what it uses of HJoin. -/
import Derived.Lib.ConvBytes
import Derived.Test.YtihidbjffclfkaaGreatDoorBHQuote
namespace Go.Proofs.YtihidbjffclfkaaGreatDoor.PLex
open Go.RowKit Go.Maps Go.Proofs.YtihidbjffclfkaaGreatDoorW.PrintWords Go.Proofs.YtihidbjffclfkaaGreatDoorW.PrintLast Go.Proofs.YtihidbjffclfkaaGreatDoorW.PrintMore Go.Proofs.YtihidbjffclfkaaGreatDoor.Lx
set_option linter.unusedVariables false
set_option linter.unusedSimpArgs false
def wordB (x : S33) : Option ByteArray := if x.f0 = 3 then some ⟨(quoteL x.f2.data.toList).toArray⟩ else if x.f2.size = 0 then none else some x.f2
def joinL (l : List S33) : List ByteArray := l.filterMap wordB
def lex_Join.f (l : List S33) : Option ByteArray :=
  if l.length ≤ 1048576 ∧ (l.all fun x => decide (x.f2.size ≤ 1099511627776)) = true ∧ (Lib.join ((joinL l).map (·.data.toList)) [32]).length ≤ 140737488355328 then some ⟨(Lib.join ((joinL l).map (·.data.toList)) [32]).toArray⟩ else none
theorem join_take (l : List S33) (i : Nat) (h : i < l.length) : joinL (l.take (i + 1)) = joinL (l.take i) ++ (wordB (l[i]'h)).toList := by
  unfold joinL
  rw [List.take_add_one, List.getElem?_eq_getElem h, List.filterMap_append]
  congr 1
theorem join_len (l : List S33) (i : Nat) : (joinL (l.take i)).length ≤ i := by
  have h1 := List.length_filterMap_le wordB (l.take i)
  have h2 : (l.take i).length ≤ i := by rw [List.length_take]; omega
  unfold joinL
  omega
theorem rdT_get (l : List S33) (i : Nat) (h : i < l.length) : rd_T33 l (i : Int) = l[i]'h := by
  unfold rd_T33
  simp [h]
theorem bytes_C (W : World) (e : TypeId) (s : ByteArray) (n : Nat) (hn : n = W.heap.size) (hs : s.size ≤ 9223372036854775807) : Kd.C (Kd.int .u8) (Lib.bytesWorld W e s) (some ⟨n, 0, none⟩) s.data.toList.length (bl s.data.toList) := by
  subst hn
  exact Kd.C_of_reads (d := (0 : Int)) (h1 := fun _ => rfl) (bytes_reads W e s hs)
theorem join_row {W : World} {base : Nat} {ok : Nat → Prop} {v : Value} {acc : List ByteArray} (h : Kd.R Kd.string 9 W base ok v acc) (hl : acc.length ≤ 1048576) (hj : (Lib.join (acc.map (·.data.toList)) [32]).length ≤ 140737488355328) :
    ∃ Ao co, v = .slice Ao acc.length co ∧ Calls Tryz.prog 42 #[.slice Ao acc.length co, .string ⟨#[32]⟩] W fun e w' => e = .returned (.string ⟨(Lib.join (acc.map (·.data.toList)) [32]).toArray⟩) ∧ Below W.heap.size W w' := by
  by_cases hz : acc.length = 0
  · have hn : acc = [] := List.length_eq_zero_iff.1 hz
    subst hn
    obtain ⟨Ao, co, eo⟩ := Kd.R_slice h
    exact ⟨Ao, co, eo, (Tryz.strings_Join_none _ _ _ _).mono fun e w' ⟨h1, h2⟩ => ⟨h1, by rw [h2]; exact Below.refl _ _⟩⟩
  · obtain ⟨g, cap, he, hb1, hb2, _⟩ := Kd.R_form h (by omega)
    subst he
    have hr := Kd.R_reads' h
    refine ⟨_, _, rfl, ?_⟩
    refine Tryz.strings_Join g 0 cap acc ⟨#[32]⟩ W ?_ hb2 (by omega) hr.2.1 hj
    intro j x hx
    obtain ⟨hjl, rfl⟩ := List.getElem?_eq_some_iff.1 hx
    obtain ⟨ad, ha, hc⟩ := Kd.at_string hr.2.2 (j : Int) (by omega) (by omega)
    cases ha
    rw [add_plain] at hc
    simpa [rdOf, hjl] using hc
set_option maxRecDepth 100000 in
set_option maxHeartbeats 1600000 in
theorem lex_Join_walk (l : List S33) (A0 : Option Addr) (c0 : Nat) (w : World) (hr0 : Kd.C k33 w A0 l.length l) (hc0 : l.length ≤ c0) (hl : l.length ≤ 1048576) (hsz : ∀ x ∈ l, x.f2.size ≤ 1099511627776) (hjl : (Lib.join ((joinL l).map (·.data.toList)) [32]).length ≤ 140737488355328) :
    Calls Tryz.prog 19 #[.slice A0 l.length c0] w fun e w' => e = .returned (.string ⟨(Lib.join ((joinL l).map (·.data.toList)) [32]).toArray⟩) ∧ Below w.heap.size w w' := by
  have HR0 := Aside0.mk hr0
  have HC0 := Aside0.mk hc0
  have HL := Aside0.mk hl
  have HSZ := Aside0.mk hsz
  have HJL := Aside0.mk hjl
  clear hr0 hc0 hl hsz hjl
  have HB := Aside0.mk (Below.refl w.heap.size w)
  go_enter Tryz.func19, Tryz.ntmps19
  go_wp2
  go_loopg [3, 8] l.length (fun kq v3 v8 w' => ∃ i : Nat, v8 = .int .i64 (i : Int) ∧ Aside0 (kq + i = l.length) ∧ Aside0 (Kd.R Kd.string 9 w' w.heap.size (fun _ => True) v3 (joinL (l.take i))) ∧ Aside0 (Below w.heap.size w w'))
  case atStart => exact ⟨0, rfl, ⟨by omega⟩, ⟨Kd.R_nil _ _ _ _ _⟩, HB⟩
  case round =>
    clear HB
    obtain ⟨i, rfl, HK, HR, HB⟩ := hrel
    obtain ⟨acc, hacc⟩ : ∃ acc, acc = joinL (l.take i) := ⟨_, rfl⟩
    rw [← hacc] at HR
    have HAC := Lib.hid hacc
    have HLA : Aside0 (acc.length ≤ i) := ⟨by rw [hacc]; exact join_len _ _⟩
    clear hacc
    by_cases hi : i < l.length
    · have hii : (i : Int) < (l.length : Int) := by omega
      have hij : decide ((i : Int) < (l.length : Int)) = true := decide_eq_true hii
      obtain ⟨ad, e0, hx0, hx1, hx2, hx3⟩ := at_T33 HR0.out (i : Int) (by omega) hii
      cases e0
      rw [rdT_get l i hi] at hx0 hx1 hx2 hx3
      have HNX := Aside0.mk (join_take l i hi)
      have HSX := Aside0.mk (HSZ.out (l[i]'hi) (List.getElem_mem hi))
      obtain ⟨x, hx⟩ : ∃ x, x = l[i]'hi := ⟨_, rfl⟩
      rw [← hx] at hx0 hx1 hx2 hx3 HNX HSX
      clear hx
      obtain ⟨xk, xa, xt, xn⟩ := x
      simp only [Int.toNat_natCast] at hx0 hx1 hx2 hx3
      replace hx0 := (HB.out.cell (World.block_lt_of_cell? w _ hx0)).trans hx0
      replace hx1 := (HB.out.cell (World.block_lt_of_cell? w _ hx1)).trans hx1
      replace hx2 := (HB.out.cell (World.block_lt_of_cell? w _ hx2)).trans hx2
      replace hx3 := (HB.out.cell (World.block_lt_of_cell? w _ hx3)).trans hx3
      have p0 : (0 ≤ (i : Int)) = True := eq_true (by omega)
      have q0 : ((i : Int) < (l.length : Int)) = True := eq_true hii
      by_cases h3 : xk = 3
      · have k1 : (xk == 3) = true := by rw [h3]; rfl
        have HY : Aside0 ((wordB ⟨xk, xa, xt, xn⟩).toList = [⟨(quoteL xt.data.toList).toArray⟩]) := ⟨by unfold wordB; rw [if_pos h3]; rfl⟩
        clear h3
        have kb := fun W => print_bytes (P := Tryz.prog) 9 29 5 Tryz.underlying9 Tryz.underlying29 Tryz.underlying5 xt W
        have HXL : Aside0 (xt.size ≤ 1099511627776) := ⟨HSX.out⟩
        go_wp2_with (first | (go_at_call 41; refine (text_Quote_calls xt.data.toList _ _ _ ?side1 ?side2 HXL.out).mono ?_; (case side1 => exact bytes_C _ _ xt _ (by simp) (by have := HXL.out; omega)); (case side2 => exact grownCap_ge _ _ _ _); rintro e w5 ⟨rfl, hb⟩; have HB1 := Aside0.mk (below_step (bytes_below (by repeat (first | exact HB.out | apply below_alloc | apply pw_below_drewN | apply below_drew1)) (below_size (by repeat (first | exact HB.out | apply below_alloc | apply pw_below_drewN | apply below_drew1))) _ _) hb); have HR1 := Aside0.mk (Kd.R_below (Kd.R_below HR.out (bytes_below (below_alloc (Below.refl _ _) _) (by simp) _ _)) hb); clear HB HR hb; have HB := HB1; have HR := HR1; clear HB1 HR1) | ((with_reducible refine gate_builtin (b := .append) (xs := #[.tmp 16, .tmp 21]) rfl ?_); at_builtin; refine Kd.R_append Kd.string (w0 := w) w.heap.size rfl (.tmp 16) (.tmp 21) 30 9 (.string ⟨#[]⟩) 16 rfl Tryz.underlying30 info9 rfl (by decide) (by omega) u3 acc (⟨(quoteL xt.data.toList).toArray⟩ : ByteArray) [.string ⟨(quoteL xt.data.toList).toArray⟩] (fun _ => True) (fun _ => False) rfl ?hx ?aP (fun _ hk => hk.elim) ?aF ?aO ?aB ?aS ?aL ?_; (case hx => first | rfl | (simp [Act.eval, Act.put]; done)); (case aP => exact rfl); (case aB => exact (by repeat (first | exact HB.out | apply below_alloc | apply pw_below_drewN | apply below_drew1))); (case aF => exact (fun _ _ => trivial)); (case aO => exact (by (with_reducible repeat (first | apply Kd.R_alloc | apply Kd.R_drewN | apply Kd.R_drew)); exact HR.out)); (case aS => exact (below_size (by repeat (first | exact HB.out | apply below_alloc | apply pw_below_drewN | apply below_drew1)))); (case aL => have h1_ := HLA.out; have h2_ := HL.out; omega); intro v1 w1 ho hb hg hat; have n0_ := Aside0.mk (hb); have n1_ := Aside0.mk (ho); clear HB HR ho hb hg hat; have HB := n0_; have HR := n1_; clear n0_ n1_))
        go_roundg (l.length - (i + 1))
        case measure => have := HK.out; omega
        case rel => exact ⟨i + 1, (by show Value.int .i64 (wrap64 ((i : Int) + 1)) = _; rw [IntWalk.wrap64_in _ (by have := HL.out; omega)]; rfl), ⟨by omega⟩, ⟨by rw [HNX.out, ← HAC.out, HY.out]; exact HR.out⟩, ⟨by repeat (first | exact HB.out | apply below_alloc | apply pw_below_drewN | apply below_drew1)⟩⟩
      · have k1 : (xk == 3) = false := beq_eq_false_iff_ne.mpr h3
        by_cases h0 : 0 < xt.size
        · have HY : Aside0 ((wordB ⟨xk, xa, xt, xn⟩).toList = [xt]) := ⟨by unfold wordB; rw [if_neg h3, if_neg (by show ¬ xt.size = 0; omega)]; rfl⟩
          have k2 := not_empty xt h0
          clear h3 h0
          go_wp2_with ((with_reducible refine gate_builtin (b := .append) (xs := #[.tmp 27, .tmp 30]) rfl ?_); at_builtin; refine Kd.R_append Kd.string (w0 := w) w.heap.size rfl (.tmp 27) (.tmp 30) 30 9 (.string ⟨#[]⟩) 16 rfl Tryz.underlying30 info9 rfl (by decide) (by omega) u3 acc xt [.string xt] (fun _ => True) (fun _ => False) rfl ?hx ?aP (fun _ hk => hk.elim) ?aF ?aO ?aB ?aS ?aL ?_; (case hx => first | rfl | (simp [Act.eval, Act.put]; done)); (case aP => exact rfl); (case aB => exact (by repeat (first | exact HB.out | apply below_alloc | apply pw_below_drewN | apply below_drew1))); (case aF => exact (fun _ _ => trivial)); (case aO => exact (by (with_reducible repeat (first | apply Kd.R_alloc | apply Kd.R_drewN | apply Kd.R_drew)); exact HR.out)); (case aS => exact (below_size (by repeat (first | exact HB.out | apply below_alloc | apply pw_below_drewN | apply below_drew1)))); (case aL => have h1_ := HLA.out; have h2_ := HL.out; omega); intro v1 w1 ho hb hg hat; have n0_ := Aside0.mk (hb); have n1_ := Aside0.mk (ho); clear HB HR ho hb hg hat; have HB := n0_; have HR := n1_; clear n0_ n1_)
          go_roundg (l.length - (i + 1))
          case measure => have := HK.out; omega
          case rel => exact ⟨i + 1, (by show Value.int .i64 (wrap64 ((i : Int) + 1)) = _; rw [IntWalk.wrap64_in _ (by have := HL.out; omega)]; rfl), ⟨by omega⟩, ⟨by rw [HNX.out, ← HAC.out, HY.out]; exact HR.out⟩, ⟨by repeat (first | exact HB.out | apply below_alloc | apply pw_below_drewN | apply below_drew1)⟩⟩
        · have hxe : xt.size = 0 := by omega
          have HY : Aside0 ((wordB ⟨xk, xa, xt, xn⟩).toList = []) := ⟨by unfold wordB; rw [if_neg h3, if_pos hxe]; rfl⟩
          have k2 : xt.toList.isEmpty = true := by
            rw [← decide_eq_emptyBytes]
            refine decide_eq_true ?_
            apply ByteArray.ext
            apply Array.ext'
            have : xt.data.toList.length = xt.size := (Lib.size_eq xt).symm
            exact List.length_eq_zero_iff.1 (by omega)
          clear h3 h0 hxe
          go_wp2
          go_roundg (l.length - (i + 1))
          case measure => have := HK.out; omega
          case rel => exact ⟨i + 1, (by show Value.int .i64 (wrap64 ((i : Int) + 1)) = _; rw [IntWalk.wrap64_in _ (by have := HL.out; omega)]; rfl), ⟨by omega⟩, ⟨by rw [HNX.out, ← HAC.out, HY.out]; rw [List.append_nil]; exact (by (with_reducible repeat (first | apply Kd.R_alloc | apply Kd.R_drewN | apply Kd.R_drew)); exact HR.out)⟩, ⟨by repeat (first | exact HB.out | apply below_alloc | apply pw_below_drewN | apply below_drew1)⟩⟩
    · have hie : i = l.length := by have := HK.out; omega
      have hii : ¬ (i : Int) < (l.length : Int) := by omega
      have hij : decide ((i : Int) < (l.length : Int)) = false := decide_eq_false hii
      have HFIN : Aside0 (acc = joinL l) := ⟨by rw [HAC.out, hie, List.take_length]⟩
      have hin : (l.length : Int) ≤ (i : Int) := by omega
      clear hie
      obtain ⟨Ao, co, eo, hjn⟩ := join_row HR.out (by have := HLA.out; have := HL.out; have := HK.out; omega) (by have := HJL.out; rw [← HFIN.out] at this; exact this)
      subst eo
      replace hjn := hjn.mono (R' := fun e w' => e = .returned (.string ⟨(Lib.join ((joinL l).map (·.data.toList)) [32]).toArray⟩) ∧ Below wr.heap.size wr w') (fun e w' ⟨h1, h2⟩ => ⟨by rw [h1, HFIN.out], h2⟩)
      have HJN := Lib.hid hjn
      clear hjn
      go_wp2_with (go_at_call 42; refine HJN.out.mono ?_; rintro e w5 ⟨rfl, hb⟩; have HB1 := Aside0.mk (below_step HB.out hb); clear HB hb; have HB := HB1; clear HB1)
      go_ret
      exact ⟨rfl, HB.out⟩
theorem lex_Join.calls (A0 : Option Addr) (c0 : Nat) (l0 : List S33) (r : ByteArray) (w : World) (hr0 : Kd.C k33 w A0 l0.length l0) (hc0 : l0.length ≤ c0) (h : lex_Join.f l0 = some r) :
    Calls Tryz.prog 19 #[.slice A0 l0.length c0] w fun e w' => e = .returned (.string r) ∧ Below w.heap.size w w' := by
  unfold lex_Join.f at h
  by_cases hc : l0.length ≤ 1048576 ∧ (l0.all fun x => decide (x.f2.size ≤ 1099511627776)) = true ∧ (Lib.join ((joinL l0).map (·.data.toList)) [32]).length ≤ 140737488355328
  · rw [if_pos hc] at h
    cases h
    exact lex_Join_walk l0 A0 c0 w hr0 hc0 hc.1 (fun x hx => of_decide_eq_true (List.all_eq_true.1 hc.2.1 x hx)) hc.2.2
  · rw [if_neg hc] at h
    cases h
end Go.Proofs.YtihidbjffclfkaaGreatDoor.PLex
