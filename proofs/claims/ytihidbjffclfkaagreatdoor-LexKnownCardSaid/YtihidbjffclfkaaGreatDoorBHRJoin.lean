/- Part of the proof: what it uses of HRJoin. -/
import Derived.Test.YtihidbjffclfkaaGreatDoorBHJoin
import Derived.Test.YtihidbjffclfkaaGreatDoorBPLexL1
namespace Go.Proofs.YtihidbjffclfkaaGreatDoor.PLex
open Go.RowKit Go.Maps Go.Proofs.YtihidbjffclfkaaGreatDoorW.PrintWords Go.Proofs.YtihidbjffclfkaaGreatDoorW.PrintLast Go.Proofs.YtihidbjffclfkaaGreatDoorW.PrintMore Go.Proofs.YtihidbjffclfkaaGreatDoor.Lx
set_option linter.unusedVariables false
set_option linter.unusedSimpArgs false
def rquote (t : ByteArray) : Option ByteArray := signetryref02_Quote.f (2 * t.size + 5) (bl t.data.toList)
def rword (x : S33) : Option ByteArray := if x.f0 = 3 then rquote x.f2 else some x.f2
def rput (s t : ByteArray) : Option ByteArray := if s.size + t.size ≤ 1099511627776 then some (if 0 < t.size ∧ 0 < s.size then (s ++ ⟨#[32]⟩) ++ t else s ++ t) else none
def rjoin : List S33 → ByteArray → Option ByteArray
  | [], s => some s
  | x :: r, s => (rword x).bind fun t => (rput s t).bind fun s2 => rjoin r s2
def signetryref03_Join.f (l : List S33) : Option ByteArray := if l.length ≤ 1048576 ∧ (l.all fun x => decide (x.f2.size ≤ 1099511627776)) = true then rjoin l ⟨#[]⟩ else none
theorem rput_le {s t s2 : ByteArray} (h : rput s t = some s2) : s.size + t.size ≤ 1099511627776 := by
  unfold rput at h
  split at h
  · assumption
  · cases h
theorem rput_size {s t s2 : ByteArray} (h : rput s t = some s2) : s2.size ≤ 2199023255552 := by
  have h1 := rput_le h
  unfold rput at h
  rw [if_pos h1] at h
  have h2 : (⟨#[32]⟩ : ByteArray).size = 1 := rfl
  split at h
  · injection h with h
    subst h
    rw [ByteArray.size_append, ByteArray.size_append]
    omega
  · injection h with h
    subst h
    rw [ByteArray.size_append]
    omega
theorem is_empty2 (s : ByteArray) (h0 : s.size = 0) : s.toList.isEmpty = true := by
  rw [← decide_eq_emptyBytes]
  refine decide_eq_true ?_
  apply ByteArray.ext
  apply Array.ext'
  have : s.data.toList.length = s.size := (Lib.size_eq s).symm
  exact List.length_eq_zero_iff.1 (by omega)
theorem bl_size (s : ByteArray) : (bl s.data.toList).length = s.size := by
  rw [bl_len]
  exact (Lib.size_eq s).symm
theorem bytes_C2 (W : World) (e : TypeId) (s : ByteArray) (hs : s.size ≤ 9223372036854775807) : Kd.C (Kd.int .u8) (Lib.bytesWorld W e s) (some ⟨W.heap.size, 0, none⟩) s.size (bl s.data.toList) := by
  rw [← bl_size s, bl_len]
  exact bytes_C W e s _ rfl hs
theorem rquote_calls (xt t : ByteArray) (A0 : Option Addr) (c0 : Nat) (w : World) (hr0 : Kd.C (Kd.int .u8) w A0 xt.size (bl xt.data.toList)) (hc0 : xt.size ≤ c0) (h : signetryref02_Quote.f (2 * xt.size + 5) (bl xt.data.toList) = some t) :
    Calls Tryz.prog 43 #[.slice A0 xt.size c0] w fun e w' => e = .returned (.string t) ∧ Below w.heap.size w w' := by
  have h1 := signetryref02_Quote.calls (2 * xt.size + 5) A0 c0 (bl xt.data.toList) t w (by rw [bl_size]; exact hr0) (by rw [bl_size]; exact hc0) h
  rw [bl_size] at h1
  exact h1
set_option maxRecDepth 100000 in
set_option maxHeartbeats 1600000 in
theorem signetryref03_Join.calls (A0 : Option Addr) (c0 : Nat) (l0 : List S33) (r : ByteArray) (w : World) (hr0 : Kd.C k33 w A0 l0.length l0) (hc0 : l0.length ≤ c0) (h : signetryref03_Join.f l0 = some r) :
    Calls Tryz.prog 20 #[.slice A0 l0.length c0] w fun e w' => e = .returned (.string r) ∧ Below w.heap.size w w' := by
  unfold signetryref03_Join.f at h
  by_cases hcc : l0.length ≤ 1048576 ∧ (l0.all fun x => decide (x.f2.size ≤ 1099511627776)) = true
  rotate_left
  · rw [if_neg hcc] at h
    cases h
  rw [if_pos hcc] at h
  have HL := Aside0.mk hcc.1
  have HSZ : Aside0 (∀ x ∈ l0, x.f2.size ≤ 1099511627776) := ⟨fun x hx => of_decide_eq_true (List.all_eq_true.1 hcc.2 x hx)⟩
  have H := Lib.hid h
  have HR0 := Aside0.mk hr0
  have HC0 := Aside0.mk hc0
  clear hr0 hc0 hcc h
  have HB := Aside0.mk (Below.refl w.heap.size w)
  go_enter Tryz.func20, Tryz.ntmps20
  go_wp2
  go_loopg [3, 4] l0.length (fun kq v3 v4 w' => ∃ (i : Nat) (s : ByteArray), v3 = .string s ∧ v4 = .int .i64 (i : Int) ∧ Aside0 (kq + i = l0.length) ∧ Aside0 (rjoin (l0.drop i) s = some r) ∧ Aside0 (s.size ≤ 2199023255552) ∧ Aside0 (Below w.heap.size w w'))
  case atStart => exact ⟨0, _, rfl, rfl, ⟨by omega⟩, ⟨H.out⟩, ⟨by decide⟩, HB⟩
  case round =>
    clear HB H
    obtain ⟨i, s, rfl, rfl, HK, H, HS, HB⟩ := hrel
    by_cases hi : i < l0.length
    · have hii : (i : Int) < (l0.length : Int) := by omega
      have hij : decide ((i : Int) < (l0.length : Int)) = true := decide_eq_true hii
      obtain ⟨ad, e0, hx0, hx1, hx2, hx3⟩ := at_T33 HR0.out (i : Int) (by omega) hii
      cases e0
      rw [rdT_get l0 i hi] at hx0 hx1 hx2 hx3
      have hd := List.drop_eq_getElem_cons hi
      have HSX := Aside0.mk (HSZ.out (l0[i]'hi) (List.getElem_mem hi))
      obtain ⟨x, hx⟩ : ∃ x, x = l0[i]'hi := ⟨_, rfl⟩
      rw [← hx] at hx0 hx1 hx2 hx3 hd HSX
      have H1 := H.out
      rw [hd] at H1
      obtain ⟨t, HT, H2⟩ := Option.bind_eq_some_iff.1 H1
      obtain ⟨s2, HP, H3⟩ := Option.bind_eq_some_iff.1 H2
      clear hx hd H H1 H2
      have HT := Lib.hid HT
      have HP := Lib.hid HP
      have H := Lib.hid H3
      clear H3
      obtain ⟨xk, xa, xt, xn⟩ := x
      simp only [Int.toNat_natCast] at hx0 hx1 hx2 hx3
      replace hx0 := (HB.out.cell (World.block_lt_of_cell? w _ hx0)).trans hx0
      replace hx1 := (HB.out.cell (World.block_lt_of_cell? w _ hx1)).trans hx1
      replace hx2 := (HB.out.cell (World.block_lt_of_cell? w _ hx2)).trans hx2
      replace hx3 := (HB.out.cell (World.block_lt_of_cell? w _ hx3)).trans hx3
      have p0 : (0 ≤ (i : Int)) = True := eq_true (by omega)
      have q0 : ((i : Int) < (l0.length : Int)) = True := eq_true hii
      by_cases h3 : xk = 3
      · have k1 : (xk == 3) = true := by rw [h3]; rfl
        have kb := fun W => print_bytes (P := Tryz.prog) 9 29 5 Tryz.underlying9 Tryz.underlying29 Tryz.underlying5 xt W
        have HXL : Aside0 (xt.size ≤ 1099511627776) := ⟨HSX.out⟩
        have HQ : Aside0 (signetryref02_Quote.f (2 * xt.size + 5) (bl xt.data.toList) = some t) := ⟨by
          have := HT.out
          unfold rword at this
          rw [if_pos h3] at this
          exact this⟩
        clear h3
        have HSS : Aside0 (s.size + t.size ≤ 1099511627776) := ⟨rput_le HP.out⟩
        have hc1 : ¬ 9223372036854775807 < s.size + t.size := by have := HSS.out; omega
        have hc2 : ¬ 9223372036854775807 < s.size + 1 := by have := HSS.out; omega
        have hc3 : ¬ 9223372036854775807 < s.size + 1 + t.size := by have := HSS.out; omega
        have hc4 : ¬ 9223372036854775807 < (s ++ ⟨#[32]⟩ : ByteArray).size + t.size := by rw [ByteArray.size_append]; have h1 : (⟨#[32]⟩ : ByteArray).size = 1 := rfl; have := HSS.out; omega
        have hc5 : ¬ 9223372036854775807 < s.size + (⟨#[32]⟩ : ByteArray).size := by have h1 : (⟨#[32]⟩ : ByteArray).size = 1 := rfl; have := HSS.out; omega
        by_cases ht0 : 0 < t.size
        · have k2 := not_empty t ht0
          by_cases hs0 : 0 < s.size
          · have k3 := not_empty s hs0
            have HE : Aside0 ((s ++ ⟨#[32]⟩) ++ t = s2) := ⟨by have h1 := HP.out; unfold rput at h1; rw [if_pos HSS.out, if_pos ⟨ht0, hs0⟩] at h1; injection h1⟩
            clear ht0 hs0
            go_wp2_with (go_at_call 43; refine (rquote_calls xt t _ _ _ ?side1 ?side2 HQ.out).mono ?_; (case side1 => exact bytes_C2 _ _ xt (by have := HXL.out; omega)); (case side2 => exact grownCap_ge _ _ _ _); rintro e w5 ⟨rfl, hb⟩; have HB1 := Aside0.mk (below_step (bytes_below (by repeat (first | exact HB.out | apply below_alloc | apply pw_below_drewN | apply below_drew1)) (below_size (by repeat (first | exact HB.out | apply below_alloc | apply pw_below_drewN | apply below_drew1))) _ _) hb); clear HB hb; have HB := HB1; clear HB1)
            go_roundg (l0.length - (i + 1))
            case measure => have := HK.out; omega
            case rel => exact ⟨i + 1, _, rfl, (by show Value.int .i64 (wrap64 ((i : Int) + 1)) = _; rw [IntWalk.wrap64_in _ (by have := HL.out; omega)]; rfl), ⟨by omega⟩, ⟨by first | (rw [HE.out]; exact H.out) | (rw [← HE.out]; exact H.out)⟩, ⟨by rw [HE.out]; exact rput_size HP.out⟩, ⟨by repeat (first | exact HB.out | apply below_alloc | apply pw_below_drewN | apply below_drew1)⟩⟩
          · have k3 := is_empty2 s (by omega)
            have HE : Aside0 (s ++ t = s2) := ⟨by have h1 := HP.out; unfold rput at h1; rw [if_pos HSS.out, if_neg (fun h => hs0 h.2)] at h1; injection h1⟩
            clear ht0 hs0
            go_wp2_with (go_at_call 43; refine (rquote_calls xt t _ _ _ ?side1 ?side2 HQ.out).mono ?_; (case side1 => exact bytes_C2 _ _ xt (by have := HXL.out; omega)); (case side2 => exact grownCap_ge _ _ _ _); rintro e w5 ⟨rfl, hb⟩; have HB1 := Aside0.mk (below_step (bytes_below (by repeat (first | exact HB.out | apply below_alloc | apply pw_below_drewN | apply below_drew1)) (below_size (by repeat (first | exact HB.out | apply below_alloc | apply pw_below_drewN | apply below_drew1))) _ _) hb); clear HB hb; have HB := HB1; clear HB1)
            go_roundg (l0.length - (i + 1))
            case measure => have := HK.out; omega
            case rel => exact ⟨i + 1, _, rfl, (by show Value.int .i64 (wrap64 ((i : Int) + 1)) = _; rw [IntWalk.wrap64_in _ (by have := HL.out; omega)]; rfl), ⟨by omega⟩, ⟨by first | (rw [HE.out]; exact H.out) | (rw [← HE.out]; exact H.out)⟩, ⟨by rw [HE.out]; exact rput_size HP.out⟩, ⟨by repeat (first | exact HB.out | apply below_alloc | apply pw_below_drewN | apply below_drew1)⟩⟩
        · have k2 := is_empty2 t (by omega)
          have HE : Aside0 (s ++ t = s2) := ⟨by have h1 := HP.out; unfold rput at h1; rw [if_pos HSS.out, if_neg (fun h => ht0 h.1)] at h1; injection h1⟩
          clear ht0
          go_wp2_with (go_at_call 43; refine (rquote_calls xt t _ _ _ ?side1 ?side2 HQ.out).mono ?_; (case side1 => exact bytes_C2 _ _ xt (by have := HXL.out; omega)); (case side2 => exact grownCap_ge _ _ _ _); rintro e w5 ⟨rfl, hb⟩; have HB1 := Aside0.mk (below_step (bytes_below (by repeat (first | exact HB.out | apply below_alloc | apply pw_below_drewN | apply below_drew1)) (below_size (by repeat (first | exact HB.out | apply below_alloc | apply pw_below_drewN | apply below_drew1))) _ _) hb); clear HB hb; have HB := HB1; clear HB1)
          go_roundg (l0.length - (i + 1))
          case measure => have := HK.out; omega
          case rel => exact ⟨i + 1, _, rfl, (by show Value.int .i64 (wrap64 ((i : Int) + 1)) = _; rw [IntWalk.wrap64_in _ (by have := HL.out; omega)]; rfl), ⟨by omega⟩, ⟨by first | (rw [HE.out]; exact H.out) | (rw [← HE.out]; exact H.out)⟩, ⟨by rw [HE.out]; exact rput_size HP.out⟩, ⟨by repeat (first | exact HB.out | apply below_alloc | apply pw_below_drewN | apply below_drew1)⟩⟩
      · have k1 : (xk == 3) = false := beq_eq_false_iff_ne.mpr h3
        have ht : t = xt := by
          have := HT.out
          unfold rword at this
          rw [if_neg h3] at this
          injection this with this
          exact this.symm
        subst ht
        clear h3
        have HSS : Aside0 (s.size + t.size ≤ 1099511627776) := ⟨rput_le HP.out⟩
        have hc1 : ¬ 9223372036854775807 < s.size + t.size := by have := HSS.out; omega
        have hc2 : ¬ 9223372036854775807 < s.size + 1 := by have := HSS.out; omega
        have hc3 : ¬ 9223372036854775807 < s.size + 1 + t.size := by have := HSS.out; omega
        have hc4 : ¬ 9223372036854775807 < (s ++ ⟨#[32]⟩ : ByteArray).size + t.size := by rw [ByteArray.size_append]; have h1 : (⟨#[32]⟩ : ByteArray).size = 1 := rfl; have := HSS.out; omega
        have hc5 : ¬ 9223372036854775807 < s.size + (⟨#[32]⟩ : ByteArray).size := by have h1 : (⟨#[32]⟩ : ByteArray).size = 1 := rfl; have := HSS.out; omega
        by_cases ht0 : 0 < t.size
        · have k2 := not_empty t ht0
          by_cases hs0 : 0 < s.size
          · have k3 := not_empty s hs0
            have HE : Aside0 ((s ++ ⟨#[32]⟩) ++ t = s2) := ⟨by have h1 := HP.out; unfold rput at h1; rw [if_pos HSS.out, if_pos ⟨ht0, hs0⟩] at h1; injection h1⟩
            clear ht0 hs0
            go_wp2
            go_roundg (l0.length - (i + 1))
            case measure => have := HK.out; omega
            case rel => exact ⟨i + 1, _, rfl, (by show Value.int .i64 (wrap64 ((i : Int) + 1)) = _; rw [IntWalk.wrap64_in _ (by have := HL.out; omega)]; rfl), ⟨by omega⟩, ⟨by first | (rw [HE.out]; exact H.out) | (rw [← HE.out]; exact H.out)⟩, ⟨by rw [HE.out]; exact rput_size HP.out⟩, ⟨by repeat (first | exact HB.out | apply below_alloc | apply pw_below_drewN | apply below_drew1)⟩⟩
          · have k3 := is_empty2 s (by omega)
            have HE : Aside0 (s ++ t = s2) := ⟨by have h1 := HP.out; unfold rput at h1; rw [if_pos HSS.out, if_neg (fun h => hs0 h.2)] at h1; injection h1⟩
            clear ht0 hs0
            go_wp2
            go_roundg (l0.length - (i + 1))
            case measure => have := HK.out; omega
            case rel => exact ⟨i + 1, _, rfl, (by show Value.int .i64 (wrap64 ((i : Int) + 1)) = _; rw [IntWalk.wrap64_in _ (by have := HL.out; omega)]; rfl), ⟨by omega⟩, ⟨by first | (rw [HE.out]; exact H.out) | (rw [← HE.out]; exact H.out)⟩, ⟨by rw [HE.out]; exact rput_size HP.out⟩, ⟨by repeat (first | exact HB.out | apply below_alloc | apply pw_below_drewN | apply below_drew1)⟩⟩
        · have k2 := is_empty2 t (by omega)
          have HE : Aside0 (s ++ t = s2) := ⟨by have h1 := HP.out; unfold rput at h1; rw [if_pos HSS.out, if_neg (fun h => ht0 h.1)] at h1; injection h1⟩
          clear ht0
          go_wp2
          go_roundg (l0.length - (i + 1))
          case measure => have := HK.out; omega
          case rel => exact ⟨i + 1, _, rfl, (by show Value.int .i64 (wrap64 ((i : Int) + 1)) = _; rw [IntWalk.wrap64_in _ (by have := HL.out; omega)]; rfl), ⟨by omega⟩, ⟨by first | (rw [HE.out]; exact H.out) | (rw [← HE.out]; exact H.out)⟩, ⟨by rw [HE.out]; exact rput_size HP.out⟩, ⟨by repeat (first | exact HB.out | apply below_alloc | apply pw_below_drewN | apply below_drew1)⟩⟩
    · have hii : ¬ (i : Int) < (l0.length : Int) := by omega
      have hij : decide ((i : Int) < (l0.length : Int)) = false := decide_eq_false hii
      have hin : (l0.length : Int) ≤ (i : Int) := by omega
      have hr : s = r := by
        have h1 := H.out
        rw [List.drop_eq_nil_of_le (by omega)] at h1
        injection h1
      subst hr
      go_wp2
      go_ret
      exact ⟨rfl, HB.out⟩
end Go.Proofs.YtihidbjffclfkaaGreatDoor.PLex
