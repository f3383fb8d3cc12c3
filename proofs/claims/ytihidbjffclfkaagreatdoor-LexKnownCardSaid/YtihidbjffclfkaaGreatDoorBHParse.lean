/- Part of the proof: what it uses of HParse. -/
import Derived.BigCall
import Derived.BigGuard
import Derived.KernelRfl
import Derived.Laws.Closers25
import Derived.Laws.Closers25b
import Derived.Laws.Strings3
import Derived.Lib.AtoiErrMem
import Derived.Lib.ConvBytes
import Derived.Lib.Hide
import Derived.Lib.Strings
import Derived.Lib.Walk
import Derived.Test.YtihidbjffclfkaaGreatDoorBHSpec
import Derived.Test.YtihidbjffclfkaaGreatDoorBW
import Derived.Test.YtihidbjffclfkaaGreatDoorProg
import Derived.WalkKit
namespace Go.Proofs.YtihidbjffclfkaaGreatDoor.PLex
open Go.RowKit Go.Proofs.YtihidbjffclfkaaGreatDoorW.PrintWords Go.Proofs.YtihidbjffclfkaaGreatDoor.Lx
set_option linter.unusedVariables false
set_option linter.unusedSimpArgs false
theorem low_bits_nat : ∀ n : Nat, n < 256 → bits .or .u8 (n : Int) 32 = ((n ||| 32 : Nat) : Int) := by decide +kernel
theorem low_bits (c : UInt8) : bits .or .u8 (c.toNat : Int) 32 = (low c : Int) := by
  rw [low_bits_nat _ c.toNat_lt]
  unfold low
  rw [UInt8.toNat_or]
  rfl
theorem low_lt (c : UInt8) : low c < 256 := UInt8.toNat_lt _
theorem lower_calls (c : UInt8) (w : World) :
    Calls Tryz.prog 70 #[.int .u8 c.toNat] w fun e w' => e = .returned (.int .u8 (low c)) ∧ w' = w := by
  rw [← low_bits]
  go_enter Tryz.func70, Tryz.ntmps70
  go_wp2
  go_ret
  exact ⟨rfl, rfl⟩
theorem lower_95 (w : World) :
    Calls Tryz.prog 70 #[.int .u8 95] w fun e w' => e = .returned (.int .u8 127) ∧ w' = w := by
  go_enter Tryz.func70, Tryz.ntmps70
  go_wp2
  go_ret
  exact ⟨by
    have h : bits .or .u8 95 32 = 127 := by decide +kernel
    rw [← h]
    rfl, rfl⟩
theorem low_95 {c : UInt8} (h : low c ≤ 122) : ((c.toNat : Int) == 95) = false := by
  rw [beq_eq_false_iff_ne]
  intro hc
  have h2 : c.toNat = 95 := by omega
  have h3 : low c = 127 := by
    unfold low
    rw [UInt8.toNat_or, h2]
    rfl
  omega
def puTuple (maxv : Nat) : NumEnd → Value
  | .ok n => .tuple #[.int .u64 n, .nilIface]
  | .synt => .tuple #[.int .u64 0, .iface 93 (.int .i64 2)]
  | .range => .tuple #[.int .u64 maxv, .iface 93 (.int .i64 1)]
set_option maxHeartbeats 32000000 in
set_option maxRecDepth 100000 in
theorem parseUint_8_8 (t : ByteArray) (hne : t.size ≠ 0) (hmax : t.size ≤ 9223372036854775806) (w : World) :
    Calls Tryz.prog 53 #[.string t, .int .i64 8, .int .i64 8] w fun e w' => e = .returned (puTuple 255 (pu 8 255 t.data.toList 0)) ∧ w' = Lib.bytesWorld w 5 t := by
  have hemp : t.toList.isEmpty = false := by
    rw [← decide_eq_emptyBytes]
    exact decide_eq_false (fun h => hne (by rw [h]; rfl))
  have hcv := Lib.run_convert_string_bytes (P := Tryz.prog) w 9 29 5 t (u := .string) Tryz.underlying9 Tryz.underlying29 Tryz.underlying5
  have hB : ∀ j, j < t.size → (Lib.bytesWorld w 5 t).cell? ⟨w.heap.size, j, none⟩ = some (.int .u8 (t.data.toList.getD j 0).toNat) := fun j hj => Lib.bytesWorld_cell w 5 t j hj
  obtain ⟨W1, hW1⟩ : ∃ W1, W1 = Lib.bytesWorld w 5 t := ⟨_, rfl⟩
  rw [← hW1] at hcv hB ⊢
  clear hW1
  obtain ⟨bs, hL⟩ : ∃ bs, bs = t.data.toList := ⟨_, rfl⟩
  have hLn : bs.length = t.size := by rw [hL, Lib.size_eq]
  rw [← hL] at hB ⊢
  clear hL
  have hmv : IntKind.u64.wrap (IntKind.u64.wrap 18446744073709551616 - 1) = 18446744073709551615 := by
    rw [IntKind.wrap_u64, IntKind.wrap_u64]
    decide
  go_enter Tryz.func53, Tryz.ntmps53
  go_wp2
  go_loop [12, 13, 101] (fun vu vn vi => ∃ (k acc : Nat) (a : Int), vu = .bool false ∧ vn = .int .u64 a ∧ vi = .int .i64 k ∧ k ≤ t.size ∧ Hid (a = (acc : Int) ∧ acc ≤ 255 ∧ pu 8 255 bs 0 = pu 8 255 (bs.drop k) acc))
    (fun _ _ vi => t.size - (intOf vi).toNat)
  case atStart => exact ⟨0, 0, 0, rfl, rfl, rfl, by omega, rfl, by omega, rfl⟩
  case round =>
    obtain ⟨k, acc, a, rfl, rfl, rfl, hk, hh⟩ := hrel
    obtain ⟨ha, hacc, hdec⟩ := hh.out
    clear hh
    have a0 : 0 ≤ a := by omega
    have a1 : a ≤ 255 := by omega
    by_cases hkn : k < t.size
    · have hc := hB k hkn
      have hdrop : bs.drop k = bs[k]'(by omega) :: bs.drop (k + 1) := List.drop_eq_getElem_cons (by omega)
      have hget : bs.getD k 0 = bs[k]'(by omega) := by simp [List.getD, List.getElem?_eq_getElem (show k < bs.length by omega)]
      rw [hdrop] at hdec
      rw [hget] at hc
      generalize bs[k]'(by omega) = c at hc hdec
      have hc256 : c.toNat < 256 := c.toNat_lt
      clear hB hdrop hget
      have hpu : pu 8 255 (c :: bs.drop (k + 1)) acc = if 8 ≤ dig c then .synt else if 255 < acc * 8 + dig c then .range else pu 8 255 (bs.drop (k + 1)) (acc * 8 + dig c) := rfl
      rw [hpu] at hdec
      clear hpu
      by_cases hdig : 48 ≤ c.toNat ∧ c.toNat ≤ 57
      · have hD : dig c = c.toNat - 48 := by simp [dig, hdig]
        rw [hD] at hdec
        clear hD
        obtain ⟨hd0, hd1⟩ := hdig
        by_cases hb : 8 ≤ c.toNat - 48
        · first
          | (exfalso; omega)
          | (rw [if_pos hb] at hdec
             have hb2 : 8 ≤ (c.toNat : Int) - 48 := by omega
             clear hb ha hacc
             go_wp2
             go_ret2
             exact ⟨by first | rfl | (rw [hdec]; rfl), rfl⟩)
        · rw [if_neg hb] at hdec
          have hb2 : (c.toNat : Int) - 48 < 8 := by omega
          clear hb
          by_cases hov : 255 < acc * 8 + (c.toNat - 48)
          · rw [if_pos hov] at hdec
            by_cases hcut : 2305843009213693952 ≤ acc
            · first
              | (exfalso; omega)
              | (have icut : 2305843009213693952 ≤ a := by omega
                 clear hcut hacc ha hov
                 go_wp2
                 go_ret2
                 exact ⟨by first | rfl | (rw [hdec]; rfl), rfl⟩)
            · have icut : a < 2305843009213693952 := by omega
              by_cases hw : 18446744073709551616 ≤ acc * 8 + (c.toNat - 48)
              · first
                | (exfalso; omega)
                | (have iov : 18446744073709551616 ≤ a * 8 + ((c.toNat : Int) - 48) := by omega
                   have hwr : IntKind.u64.wrap (a * 8 + ((c.toNat : Int) - 48)) = a * 8 + ((c.toNat : Int) - 48) - 18446744073709551616 := by
                     rw [IntKind.wrap_u64]
                     omega
                   clear hcut hacc hov ha hw
                   go_wp2
                   go_ret2
                   exact ⟨by first | rfl | (rw [hdec]; rfl), rfl⟩)
              · first
                | (exfalso; omega)
                | (have iov : a * 8 + ((c.toNat : Int) - 48) < 18446744073709551616 := by omega
                   have imx : 255 < a * 8 + ((c.toNat : Int) - 48) := by omega
                   clear hcut hacc hov ha hw
                   go_wp2
                   go_ret2
                   exact ⟨by first | rfl | (rw [hdec]; rfl), rfl⟩)
          · rw [if_neg hov] at hdec
            have HN : Hid (a * 8 + ((c.toNat : Int) - 48) = ((acc * 8 + (c.toNat - 48) : Nat) : Int) ∧ acc * 8 + (c.toNat - 48) ≤ 255 ∧ pu 8 255 bs 0 = pu 8 255 (bs.drop (k + 1)) (acc * 8 + (c.toNat - 48))) := Lib.hid ⟨by omega, by omega, hdec⟩
            have icut : a < 2305843009213693952 := by omega
            have iov : a * 8 + ((c.toNat : Int) - 48) < 18446744073709551616 := by omega
            have imx : a * 8 + ((c.toNat : Int) - 48) ≤ 255 := by omega
            clear hacc hov hdec ha
            go_wp2
            refine ⟨⟨k + 1, acc * 8 + (c.toNat - 48), a * 8 + ((c.toNat : Int) - 48), rfl, (by first | rfl | (congr 1; omega)), (by first | rfl | (congr 1; omega)), by omega, HN⟩, by simp [intOf]; omega⟩
      · have hl := low_lt c
        have hlc := lower_calls c
        have HLC := Lib.hid hlc
        clear hlc
        by_cases hlet : 97 ≤ low c ∧ low c ≤ 122
        · have hD : dig c = low c - 87 := by simp [dig, hdig, hlet]
          rw [hD] at hdec
          clear hD
          obtain ⟨hl0, hl1⟩ := hlet
          have h95 := low_95 hl1
          generalize low c = l at *
          by_cases hb : 8 ≤ l - 87
          · rw [if_pos hb] at hdec
            have hb2 : 8 ≤ (l : Int) - 97 + 10 := by omega
            clear hb ha hacc
            go_wp2_with (go_at_call 70; refine (HLC.out _).mono ?_; rintro e w' ⟨rfl, rfl⟩)
            all_goals go_ret2
            all_goals exact ⟨by first | rfl | (rw [hdec]; rfl), rfl⟩
          · first
            | (exfalso; omega)
            | (rw [if_neg hb] at hdec
               have hb2 : (l : Int) - 97 + 10 < 8 := by omega
               clear hb
               have hu0 := bits_lo_u8 .or 95 32
               have hu1 := bits_hi_u8 .or 95 32
               by_cases hov : 255 < acc * 8 + (l - 87)
               · rw [if_pos hov] at hdec
                 by_cases hcut : 2305843009213693952 ≤ acc
                 · first
                   | (exfalso; omega)
                   | (have icut : 2305843009213693952 ≤ a := by omega
                      clear hcut hacc ha hov
                      go_wp2_with (go_at_call 70; refine (HLC.out _).mono ?_; rintro e w' ⟨rfl, rfl⟩)
                      all_goals go_ret2
                      all_goals exact ⟨by first | rfl | (rw [hdec]; rfl), rfl⟩)
                 · first
                   | (exfalso; omega)
                   | (have icut : a < 2305843009213693952 := by omega
                      have iov : a * 8 + ((l : Int) - 97 + 10) < 18446744073709551616 := by omega
                      have imx : 255 < a * 8 + ((l : Int) - 97 + 10) := by omega
                      clear hcut hacc hov ha
                      go_wp2_with (go_at_call 70; refine (HLC.out _).mono ?_; rintro e w' ⟨rfl, rfl⟩)
                      all_goals go_ret2
                      all_goals exact ⟨by first | rfl | (rw [hdec]; rfl), rfl⟩)
               · rw [if_neg hov] at hdec
                 have HN : Hid (a * 8 + ((l : Int) - 97 + 10) = ((acc * 8 + (l - 87) : Nat) : Int) ∧ acc * 8 + (l - 87) ≤ 255 ∧ pu 8 255 bs 0 = pu 8 255 (bs.drop (k + 1)) (acc * 8 + (l - 87))) := Lib.hid ⟨by omega, by omega, hdec⟩
                 have icut : a < 2305843009213693952 := by omega
                 have iov : a * 8 + ((l : Int) - 97 + 10) < 18446744073709551616 := by omega
                 have imx : a * 8 + ((l : Int) - 97 + 10) ≤ 255 := by omega
                 clear hacc hov hdec ha
                 go_wp2_with (go_at_call 70; refine (HLC.out _).mono ?_; rintro e w' ⟨rfl, rfl⟩)
                 all_goals (refine ⟨⟨k + 1, acc * 8 + (l - 87), a * 8 + ((l : Int) - 97 + 10), rfl, (by first | rfl | (congr 1; omega)), (by first | rfl | (congr 1; omega)), by omega, HN⟩, by simp [intOf]; omega⟩))
        · have hD : dig c = 99 := by simp [dig, hdig, hlet]
          rw [hD, if_pos (by omega)] at hdec
          clear hD ha hacc
          generalize low c = l at *
          go_wp2_with (first | (go_at_call 70; (with_reducible refine (HLC.out _).mono ?_); rintro e w' ⟨rfl, rfl⟩) | (go_at_call 70; (with_reducible refine (lower_95 _).mono ?_); rintro e w' ⟨rfl, rfl⟩))
          all_goals go_ret2
          all_goals exact ⟨by first | rfl | (rw [hdec]; rfl), rfl⟩
    ·
      have hkk : k = t.size := by omega
      subst hkk
      have hF : pu 8 255 (bs.drop t.size) acc = .ok acc := by rw [List.drop_eq_nil_of_le (by omega)]; rfl
      rw [hF] at hdec
      subst ha
      clear hacc hF a0 a1
      go_wp2
      go_ret2
      exact ⟨by first | rfl | (rw [hdec]; rfl), rfl⟩
set_option maxHeartbeats 32000000 in
set_option maxRecDepth 100000 in
theorem parseUint_16_8 (t : ByteArray) (hne : t.size ≠ 0) (hmax : t.size ≤ 9223372036854775806) (w : World) :
    Calls Tryz.prog 53 #[.string t, .int .i64 16, .int .i64 8] w fun e w' => e = .returned (puTuple 255 (pu 16 255 t.data.toList 0)) ∧ w' = Lib.bytesWorld w 5 t := by
  have hemp : t.toList.isEmpty = false := by
    rw [← decide_eq_emptyBytes]
    exact decide_eq_false (fun h => hne (by rw [h]; rfl))
  have hcv := Lib.run_convert_string_bytes (P := Tryz.prog) w 9 29 5 t (u := .string) Tryz.underlying9 Tryz.underlying29 Tryz.underlying5
  have hB : ∀ j, j < t.size → (Lib.bytesWorld w 5 t).cell? ⟨w.heap.size, j, none⟩ = some (.int .u8 (t.data.toList.getD j 0).toNat) := fun j hj => Lib.bytesWorld_cell w 5 t j hj
  obtain ⟨W1, hW1⟩ : ∃ W1, W1 = Lib.bytesWorld w 5 t := ⟨_, rfl⟩
  rw [← hW1] at hcv hB ⊢
  clear hW1
  obtain ⟨bs, hL⟩ : ∃ bs, bs = t.data.toList := ⟨_, rfl⟩
  have hLn : bs.length = t.size := by rw [hL, Lib.size_eq]
  rw [← hL] at hB ⊢
  clear hL
  have hmv : IntKind.u64.wrap (IntKind.u64.wrap 18446744073709551616 - 1) = 18446744073709551615 := by
    rw [IntKind.wrap_u64, IntKind.wrap_u64]
    decide
  go_enter Tryz.func53, Tryz.ntmps53
  go_wp2
  go_loop [12, 13, 101] (fun vu vn vi => ∃ (k acc : Nat) (a : Int), vu = .bool false ∧ vn = .int .u64 a ∧ vi = .int .i64 k ∧ k ≤ t.size ∧ Hid (a = (acc : Int) ∧ acc ≤ 255 ∧ pu 16 255 bs 0 = pu 16 255 (bs.drop k) acc))
    (fun _ _ vi => t.size - (intOf vi).toNat)
  case atStart => exact ⟨0, 0, 0, rfl, rfl, rfl, by omega, rfl, by omega, rfl⟩
  case round =>
    obtain ⟨k, acc, a, rfl, rfl, rfl, hk, hh⟩ := hrel
    obtain ⟨ha, hacc, hdec⟩ := hh.out
    clear hh
    have a0 : 0 ≤ a := by omega
    have a1 : a ≤ 255 := by omega
    by_cases hkn : k < t.size
    · have hc := hB k hkn
      have hdrop : bs.drop k = bs[k]'(by omega) :: bs.drop (k + 1) := List.drop_eq_getElem_cons (by omega)
      have hget : bs.getD k 0 = bs[k]'(by omega) := by simp [List.getD, List.getElem?_eq_getElem (show k < bs.length by omega)]
      rw [hdrop] at hdec
      rw [hget] at hc
      generalize bs[k]'(by omega) = c at hc hdec
      have hc256 : c.toNat < 256 := c.toNat_lt
      clear hB hdrop hget
      have hpu : pu 16 255 (c :: bs.drop (k + 1)) acc = if 16 ≤ dig c then .synt else if 255 < acc * 16 + dig c then .range else pu 16 255 (bs.drop (k + 1)) (acc * 16 + dig c) := rfl
      rw [hpu] at hdec
      clear hpu
      by_cases hdig : 48 ≤ c.toNat ∧ c.toNat ≤ 57
      · have hD : dig c = c.toNat - 48 := by simp [dig, hdig]
        rw [hD] at hdec
        clear hD
        obtain ⟨hd0, hd1⟩ := hdig
        by_cases hb : 16 ≤ c.toNat - 48
        · first
          | (exfalso; omega)
          | (rw [if_pos hb] at hdec
             have hb2 : 16 ≤ (c.toNat : Int) - 48 := by omega
             clear hb ha hacc
             go_wp2
             go_ret2
             exact ⟨by first | rfl | (rw [hdec]; rfl), rfl⟩)
        · rw [if_neg hb] at hdec
          have hb2 : (c.toNat : Int) - 48 < 16 := by omega
          clear hb
          by_cases hov : 255 < acc * 16 + (c.toNat - 48)
          · rw [if_pos hov] at hdec
            by_cases hcut : 1152921504606846976 ≤ acc
            · first
              | (exfalso; omega)
              | (have icut : 1152921504606846976 ≤ a := by omega
                 clear hcut hacc ha hov
                 go_wp2
                 go_ret2
                 exact ⟨by first | rfl | (rw [hdec]; rfl), rfl⟩)
            · have icut : a < 1152921504606846976 := by omega
              by_cases hw : 18446744073709551616 ≤ acc * 16 + (c.toNat - 48)
              · first
                | (exfalso; omega)
                | (have iov : 18446744073709551616 ≤ a * 16 + ((c.toNat : Int) - 48) := by omega
                   have hwr : IntKind.u64.wrap (a * 16 + ((c.toNat : Int) - 48)) = a * 16 + ((c.toNat : Int) - 48) - 18446744073709551616 := by
                     rw [IntKind.wrap_u64]
                     omega
                   clear hcut hacc hov ha hw
                   go_wp2
                   go_ret2
                   exact ⟨by first | rfl | (rw [hdec]; rfl), rfl⟩)
              · first
                | (exfalso; omega)
                | (have iov : a * 16 + ((c.toNat : Int) - 48) < 18446744073709551616 := by omega
                   have imx : 255 < a * 16 + ((c.toNat : Int) - 48) := by omega
                   clear hcut hacc hov ha hw
                   go_wp2
                   go_ret2
                   exact ⟨by first | rfl | (rw [hdec]; rfl), rfl⟩)
          · rw [if_neg hov] at hdec
            have HN : Hid (a * 16 + ((c.toNat : Int) - 48) = ((acc * 16 + (c.toNat - 48) : Nat) : Int) ∧ acc * 16 + (c.toNat - 48) ≤ 255 ∧ pu 16 255 bs 0 = pu 16 255 (bs.drop (k + 1)) (acc * 16 + (c.toNat - 48))) := Lib.hid ⟨by omega, by omega, hdec⟩
            have icut : a < 1152921504606846976 := by omega
            have iov : a * 16 + ((c.toNat : Int) - 48) < 18446744073709551616 := by omega
            have imx : a * 16 + ((c.toNat : Int) - 48) ≤ 255 := by omega
            clear hacc hov hdec ha
            go_wp2
            refine ⟨⟨k + 1, acc * 16 + (c.toNat - 48), a * 16 + ((c.toNat : Int) - 48), rfl, (by first | rfl | (congr 1; omega)), (by first | rfl | (congr 1; omega)), by omega, HN⟩, by simp [intOf]; omega⟩
      · have hl := low_lt c
        have hlc := lower_calls c
        have HLC := Lib.hid hlc
        clear hlc
        by_cases hlet : 97 ≤ low c ∧ low c ≤ 122
        · have hD : dig c = low c - 87 := by simp [dig, hdig, hlet]
          rw [hD] at hdec
          clear hD
          obtain ⟨hl0, hl1⟩ := hlet
          have h95 := low_95 hl1
          generalize low c = l at *
          by_cases hb : 16 ≤ l - 87
          · rw [if_pos hb] at hdec
            have hb2 : 16 ≤ (l : Int) - 97 + 10 := by omega
            clear hb ha hacc
            go_wp2_with (go_at_call 70; refine (HLC.out _).mono ?_; rintro e w' ⟨rfl, rfl⟩)
            all_goals go_ret2
            all_goals exact ⟨by first | rfl | (rw [hdec]; rfl), rfl⟩
          · first
            | (exfalso; omega)
            | (rw [if_neg hb] at hdec
               have hb2 : (l : Int) - 97 + 10 < 16 := by omega
               clear hb
               have hu0 := bits_lo_u8 .or 95 32
               have hu1 := bits_hi_u8 .or 95 32
               by_cases hov : 255 < acc * 16 + (l - 87)
               · rw [if_pos hov] at hdec
                 by_cases hcut : 1152921504606846976 ≤ acc
                 · first
                   | (exfalso; omega)
                   | (have icut : 1152921504606846976 ≤ a := by omega
                      clear hcut hacc ha hov
                      go_wp2_with (go_at_call 70; refine (HLC.out _).mono ?_; rintro e w' ⟨rfl, rfl⟩)
                      all_goals go_ret2
                      all_goals exact ⟨by first | rfl | (rw [hdec]; rfl), rfl⟩)
                 · first
                   | (exfalso; omega)
                   | (have icut : a < 1152921504606846976 := by omega
                      have iov : a * 16 + ((l : Int) - 97 + 10) < 18446744073709551616 := by omega
                      have imx : 255 < a * 16 + ((l : Int) - 97 + 10) := by omega
                      clear hcut hacc hov ha
                      go_wp2_with (go_at_call 70; refine (HLC.out _).mono ?_; rintro e w' ⟨rfl, rfl⟩)
                      all_goals go_ret2
                      all_goals exact ⟨by first | rfl | (rw [hdec]; rfl), rfl⟩)
               · rw [if_neg hov] at hdec
                 have HN : Hid (a * 16 + ((l : Int) - 97 + 10) = ((acc * 16 + (l - 87) : Nat) : Int) ∧ acc * 16 + (l - 87) ≤ 255 ∧ pu 16 255 bs 0 = pu 16 255 (bs.drop (k + 1)) (acc * 16 + (l - 87))) := Lib.hid ⟨by omega, by omega, hdec⟩
                 have icut : a < 1152921504606846976 := by omega
                 have iov : a * 16 + ((l : Int) - 97 + 10) < 18446744073709551616 := by omega
                 have imx : a * 16 + ((l : Int) - 97 + 10) ≤ 255 := by omega
                 clear hacc hov hdec ha
                 go_wp2_with (go_at_call 70; refine (HLC.out _).mono ?_; rintro e w' ⟨rfl, rfl⟩)
                 all_goals (refine ⟨⟨k + 1, acc * 16 + (l - 87), a * 16 + ((l : Int) - 97 + 10), rfl, (by first | rfl | (congr 1; omega)), (by first | rfl | (congr 1; omega)), by omega, HN⟩, by simp [intOf]; omega⟩))
        · have hD : dig c = 99 := by simp [dig, hdig, hlet]
          rw [hD, if_pos (by omega)] at hdec
          clear hD ha hacc
          generalize low c = l at *
          go_wp2_with (first | (go_at_call 70; (with_reducible refine (HLC.out _).mono ?_); rintro e w' ⟨rfl, rfl⟩) | (go_at_call 70; (with_reducible refine (lower_95 _).mono ?_); rintro e w' ⟨rfl, rfl⟩))
          all_goals go_ret2
          all_goals exact ⟨by first | rfl | (rw [hdec]; rfl), rfl⟩
    ·
      have hkk : k = t.size := by omega
      subst hkk
      have hF : pu 16 255 (bs.drop t.size) acc = .ok acc := by rw [List.drop_eq_nil_of_le (by omega)]; rfl
      rw [hF] at hdec
      subst ha
      clear hacc hF a0 a1
      go_wp2
      go_ret2
      exact ⟨by first | rfl | (rw [hdec]; rfl), rfl⟩
set_option maxHeartbeats 32000000 in
set_option maxRecDepth 100000 in
theorem parseUint_8_64 (t : ByteArray) (hne : t.size ≠ 0) (hmax : t.size ≤ 9223372036854775806) (w : World) :
    Calls Tryz.prog 53 #[.string t, .int .i64 8, .int .i64 64] w fun e w' => e = .returned (puTuple 18446744073709551615 (pu 8 18446744073709551615 t.data.toList 0)) ∧ w' = Lib.bytesWorld w 5 t := by
  have hemp : t.toList.isEmpty = false := by
    rw [← decide_eq_emptyBytes]
    exact decide_eq_false (fun h => hne (by rw [h]; rfl))
  have hcv := Lib.run_convert_string_bytes (P := Tryz.prog) w 9 29 5 t (u := .string) Tryz.underlying9 Tryz.underlying29 Tryz.underlying5
  have hB : ∀ j, j < t.size → (Lib.bytesWorld w 5 t).cell? ⟨w.heap.size, j, none⟩ = some (.int .u8 (t.data.toList.getD j 0).toNat) := fun j hj => Lib.bytesWorld_cell w 5 t j hj
  obtain ⟨W1, hW1⟩ : ∃ W1, W1 = Lib.bytesWorld w 5 t := ⟨_, rfl⟩
  rw [← hW1] at hcv hB ⊢
  clear hW1
  obtain ⟨bs, hL⟩ : ∃ bs, bs = t.data.toList := ⟨_, rfl⟩
  have hLn : bs.length = t.size := by rw [hL, Lib.size_eq]
  rw [← hL] at hB ⊢
  clear hL
  have hmv : IntKind.u64.wrap (IntKind.u64.wrap 18446744073709551616 - 1) = 18446744073709551615 := by
    rw [IntKind.wrap_u64, IntKind.wrap_u64]
    decide
  go_enter Tryz.func53, Tryz.ntmps53
  go_wp2
  go_loop [12, 13, 101] (fun vu vn vi => ∃ (k acc : Nat) (a : Int), vu = .bool false ∧ vn = .int .u64 a ∧ vi = .int .i64 k ∧ k ≤ t.size ∧ Hid (a = (acc : Int) ∧ acc ≤ 18446744073709551615 ∧ pu 8 18446744073709551615 bs 0 = pu 8 18446744073709551615 (bs.drop k) acc))
    (fun _ _ vi => t.size - (intOf vi).toNat)
  case atStart => exact ⟨0, 0, 0, rfl, rfl, rfl, by omega, rfl, by omega, rfl⟩
  case round =>
    obtain ⟨k, acc, a, rfl, rfl, rfl, hk, hh⟩ := hrel
    obtain ⟨ha, hacc, hdec⟩ := hh.out
    clear hh
    have a0 : 0 ≤ a := by omega
    have a1 : a ≤ 18446744073709551615 := by omega
    by_cases hkn : k < t.size
    · have hc := hB k hkn
      have hdrop : bs.drop k = bs[k]'(by omega) :: bs.drop (k + 1) := List.drop_eq_getElem_cons (by omega)
      have hget : bs.getD k 0 = bs[k]'(by omega) := by simp [List.getD, List.getElem?_eq_getElem (show k < bs.length by omega)]
      rw [hdrop] at hdec
      rw [hget] at hc
      generalize bs[k]'(by omega) = c at hc hdec
      have hc256 : c.toNat < 256 := c.toNat_lt
      clear hB hdrop hget
      have hpu : pu 8 18446744073709551615 (c :: bs.drop (k + 1)) acc = if 8 ≤ dig c then .synt else if 18446744073709551615 < acc * 8 + dig c then .range else pu 8 18446744073709551615 (bs.drop (k + 1)) (acc * 8 + dig c) := rfl
      rw [hpu] at hdec
      clear hpu
      by_cases hdig : 48 ≤ c.toNat ∧ c.toNat ≤ 57
      · have hD : dig c = c.toNat - 48 := by simp [dig, hdig]
        rw [hD] at hdec
        clear hD
        obtain ⟨hd0, hd1⟩ := hdig
        by_cases hb : 8 ≤ c.toNat - 48
        · first
          | (exfalso; omega)
          | (rw [if_pos hb] at hdec
             have hb2 : 8 ≤ (c.toNat : Int) - 48 := by omega
             clear hb ha hacc
             go_wp2
             go_ret2
             exact ⟨by first | rfl | (rw [hdec]; rfl), rfl⟩)
        · rw [if_neg hb] at hdec
          have hb2 : (c.toNat : Int) - 48 < 8 := by omega
          clear hb
          by_cases hov : 18446744073709551615 < acc * 8 + (c.toNat - 48)
          · rw [if_pos hov] at hdec
            by_cases hcut : 2305843009213693952 ≤ acc
            · first
              | (exfalso; omega)
              | (have icut : 2305843009213693952 ≤ a := by omega
                 clear hcut hacc ha hov
                 go_wp2
                 go_ret2
                 exact ⟨by first | rfl | (rw [hdec]; rfl), rfl⟩)
            · have icut : a < 2305843009213693952 := by omega
              by_cases hw : 18446744073709551616 ≤ acc * 8 + (c.toNat - 48)
              · first
                | (exfalso; omega)
                | (have iov : 18446744073709551616 ≤ a * 8 + ((c.toNat : Int) - 48) := by omega
                   have hwr : IntKind.u64.wrap (a * 8 + ((c.toNat : Int) - 48)) = a * 8 + ((c.toNat : Int) - 48) - 18446744073709551616 := by
                     rw [IntKind.wrap_u64]
                     omega
                   clear hcut hacc hov ha hw
                   go_wp2
                   go_ret2
                   exact ⟨by first | rfl | (rw [hdec]; rfl), rfl⟩)
              · first
                | (exfalso; omega)
                | (have iov : a * 8 + ((c.toNat : Int) - 48) < 18446744073709551616 := by omega
                   have imx : 18446744073709551615 < a * 8 + ((c.toNat : Int) - 48) := by omega
                   clear hcut hacc hov ha hw
                   go_wp2
                   go_ret2
                   exact ⟨by first | rfl | (rw [hdec]; rfl), rfl⟩)
          · rw [if_neg hov] at hdec
            have HN : Hid (a * 8 + ((c.toNat : Int) - 48) = ((acc * 8 + (c.toNat - 48) : Nat) : Int) ∧ acc * 8 + (c.toNat - 48) ≤ 18446744073709551615 ∧ pu 8 18446744073709551615 bs 0 = pu 8 18446744073709551615 (bs.drop (k + 1)) (acc * 8 + (c.toNat - 48))) := Lib.hid ⟨by omega, by omega, hdec⟩
            have icut : a < 2305843009213693952 := by omega
            have iov : a * 8 + ((c.toNat : Int) - 48) < 18446744073709551616 := by omega
            have imx : a * 8 + ((c.toNat : Int) - 48) ≤ 18446744073709551615 := by omega
            clear hacc hov hdec ha
            go_wp2
            refine ⟨⟨k + 1, acc * 8 + (c.toNat - 48), a * 8 + ((c.toNat : Int) - 48), rfl, (by first | rfl | (congr 1; omega)), (by first | rfl | (congr 1; omega)), by omega, HN⟩, by simp [intOf]; omega⟩
      · have hl := low_lt c
        have hlc := lower_calls c
        have HLC := Lib.hid hlc
        clear hlc
        by_cases hlet : 97 ≤ low c ∧ low c ≤ 122
        · have hD : dig c = low c - 87 := by simp [dig, hdig, hlet]
          rw [hD] at hdec
          clear hD
          obtain ⟨hl0, hl1⟩ := hlet
          have h95 := low_95 hl1
          generalize low c = l at *
          by_cases hb : 8 ≤ l - 87
          · rw [if_pos hb] at hdec
            have hb2 : 8 ≤ (l : Int) - 97 + 10 := by omega
            clear hb ha hacc
            go_wp2_with (go_at_call 70; refine (HLC.out _).mono ?_; rintro e w' ⟨rfl, rfl⟩)
            all_goals go_ret2
            all_goals exact ⟨by first | rfl | (rw [hdec]; rfl), rfl⟩
          · first
            | (exfalso; omega)
            | (rw [if_neg hb] at hdec
               have hb2 : (l : Int) - 97 + 10 < 8 := by omega
               clear hb
               have hu0 := bits_lo_u8 .or 95 32
               have hu1 := bits_hi_u8 .or 95 32
               by_cases hov : 18446744073709551615 < acc * 8 + (l - 87)
               · rw [if_pos hov] at hdec
                 by_cases hcut : 2305843009213693952 ≤ acc
                 · first
                   | (exfalso; omega)
                   | (have icut : 2305843009213693952 ≤ a := by omega
                      clear hcut hacc ha hov
                      go_wp2_with (go_at_call 70; refine (HLC.out _).mono ?_; rintro e w' ⟨rfl, rfl⟩)
                      all_goals go_ret2
                      all_goals exact ⟨by first | rfl | (rw [hdec]; rfl), rfl⟩)
                 · first
                   | (exfalso; omega)
                   | (have icut : a < 2305843009213693952 := by omega
                      have iov : a * 8 + ((l : Int) - 97 + 10) < 18446744073709551616 := by omega
                      have imx : 18446744073709551615 < a * 8 + ((l : Int) - 97 + 10) := by omega
                      clear hcut hacc hov ha
                      go_wp2_with (go_at_call 70; refine (HLC.out _).mono ?_; rintro e w' ⟨rfl, rfl⟩)
                      all_goals go_ret2
                      all_goals exact ⟨by first | rfl | (rw [hdec]; rfl), rfl⟩)
               · rw [if_neg hov] at hdec
                 have HN : Hid (a * 8 + ((l : Int) - 97 + 10) = ((acc * 8 + (l - 87) : Nat) : Int) ∧ acc * 8 + (l - 87) ≤ 18446744073709551615 ∧ pu 8 18446744073709551615 bs 0 = pu 8 18446744073709551615 (bs.drop (k + 1)) (acc * 8 + (l - 87))) := Lib.hid ⟨by omega, by omega, hdec⟩
                 have icut : a < 2305843009213693952 := by omega
                 have iov : a * 8 + ((l : Int) - 97 + 10) < 18446744073709551616 := by omega
                 have imx : a * 8 + ((l : Int) - 97 + 10) ≤ 18446744073709551615 := by omega
                 clear hacc hov hdec ha
                 go_wp2_with (go_at_call 70; refine (HLC.out _).mono ?_; rintro e w' ⟨rfl, rfl⟩)
                 all_goals (refine ⟨⟨k + 1, acc * 8 + (l - 87), a * 8 + ((l : Int) - 97 + 10), rfl, (by first | rfl | (congr 1; omega)), (by first | rfl | (congr 1; omega)), by omega, HN⟩, by simp [intOf]; omega⟩))
        · have hD : dig c = 99 := by simp [dig, hdig, hlet]
          rw [hD, if_pos (by omega)] at hdec
          clear hD ha hacc
          generalize low c = l at *
          go_wp2_with (first | (go_at_call 70; (with_reducible refine (HLC.out _).mono ?_); rintro e w' ⟨rfl, rfl⟩) | (go_at_call 70; (with_reducible refine (lower_95 _).mono ?_); rintro e w' ⟨rfl, rfl⟩))
          all_goals go_ret2
          all_goals exact ⟨by first | rfl | (rw [hdec]; rfl), rfl⟩
    ·
      have hkk : k = t.size := by omega
      subst hkk
      have hF : pu 8 18446744073709551615 (bs.drop t.size) acc = .ok acc := by rw [List.drop_eq_nil_of_le (by omega)]; rfl
      rw [hF] at hdec
      subst ha
      clear hacc hF a0 a1
      go_wp2
      go_ret2
      exact ⟨by first | rfl | (rw [hdec]; rfl), rfl⟩
set_option maxHeartbeats 32000000 in
set_option maxRecDepth 100000 in
theorem parseUint_16_64 (t : ByteArray) (hne : t.size ≠ 0) (hmax : t.size ≤ 9223372036854775806) (w : World) :
    Calls Tryz.prog 53 #[.string t, .int .i64 16, .int .i64 64] w fun e w' => e = .returned (puTuple 18446744073709551615 (pu 16 18446744073709551615 t.data.toList 0)) ∧ w' = Lib.bytesWorld w 5 t := by
  have hemp : t.toList.isEmpty = false := by
    rw [← decide_eq_emptyBytes]
    exact decide_eq_false (fun h => hne (by rw [h]; rfl))
  have hcv := Lib.run_convert_string_bytes (P := Tryz.prog) w 9 29 5 t (u := .string) Tryz.underlying9 Tryz.underlying29 Tryz.underlying5
  have hB : ∀ j, j < t.size → (Lib.bytesWorld w 5 t).cell? ⟨w.heap.size, j, none⟩ = some (.int .u8 (t.data.toList.getD j 0).toNat) := fun j hj => Lib.bytesWorld_cell w 5 t j hj
  obtain ⟨W1, hW1⟩ : ∃ W1, W1 = Lib.bytesWorld w 5 t := ⟨_, rfl⟩
  rw [← hW1] at hcv hB ⊢
  clear hW1
  obtain ⟨bs, hL⟩ : ∃ bs, bs = t.data.toList := ⟨_, rfl⟩
  have hLn : bs.length = t.size := by rw [hL, Lib.size_eq]
  rw [← hL] at hB ⊢
  clear hL
  have hmv : IntKind.u64.wrap (IntKind.u64.wrap 18446744073709551616 - 1) = 18446744073709551615 := by
    rw [IntKind.wrap_u64, IntKind.wrap_u64]
    decide
  go_enter Tryz.func53, Tryz.ntmps53
  go_wp2
  go_loop [12, 13, 101] (fun vu vn vi => ∃ (k acc : Nat) (a : Int), vu = .bool false ∧ vn = .int .u64 a ∧ vi = .int .i64 k ∧ k ≤ t.size ∧ Hid (a = (acc : Int) ∧ acc ≤ 18446744073709551615 ∧ pu 16 18446744073709551615 bs 0 = pu 16 18446744073709551615 (bs.drop k) acc))
    (fun _ _ vi => t.size - (intOf vi).toNat)
  case atStart => exact ⟨0, 0, 0, rfl, rfl, rfl, by omega, rfl, by omega, rfl⟩
  case round =>
    obtain ⟨k, acc, a, rfl, rfl, rfl, hk, hh⟩ := hrel
    obtain ⟨ha, hacc, hdec⟩ := hh.out
    clear hh
    have a0 : 0 ≤ a := by omega
    have a1 : a ≤ 18446744073709551615 := by omega
    by_cases hkn : k < t.size
    · have hc := hB k hkn
      have hdrop : bs.drop k = bs[k]'(by omega) :: bs.drop (k + 1) := List.drop_eq_getElem_cons (by omega)
      have hget : bs.getD k 0 = bs[k]'(by omega) := by simp [List.getD, List.getElem?_eq_getElem (show k < bs.length by omega)]
      rw [hdrop] at hdec
      rw [hget] at hc
      generalize bs[k]'(by omega) = c at hc hdec
      have hc256 : c.toNat < 256 := c.toNat_lt
      clear hB hdrop hget
      have hpu : pu 16 18446744073709551615 (c :: bs.drop (k + 1)) acc = if 16 ≤ dig c then .synt else if 18446744073709551615 < acc * 16 + dig c then .range else pu 16 18446744073709551615 (bs.drop (k + 1)) (acc * 16 + dig c) := rfl
      rw [hpu] at hdec
      clear hpu
      by_cases hdig : 48 ≤ c.toNat ∧ c.toNat ≤ 57
      · have hD : dig c = c.toNat - 48 := by simp [dig, hdig]
        rw [hD] at hdec
        clear hD
        obtain ⟨hd0, hd1⟩ := hdig
        by_cases hb : 16 ≤ c.toNat - 48
        · first
          | (exfalso; omega)
          | (rw [if_pos hb] at hdec
             have hb2 : 16 ≤ (c.toNat : Int) - 48 := by omega
             clear hb ha hacc
             go_wp2
             go_ret2
             exact ⟨by first | rfl | (rw [hdec]; rfl), rfl⟩)
        · rw [if_neg hb] at hdec
          have hb2 : (c.toNat : Int) - 48 < 16 := by omega
          clear hb
          by_cases hov : 18446744073709551615 < acc * 16 + (c.toNat - 48)
          · rw [if_pos hov] at hdec
            by_cases hcut : 1152921504606846976 ≤ acc
            · first
              | (exfalso; omega)
              | (have icut : 1152921504606846976 ≤ a := by omega
                 clear hcut hacc ha hov
                 go_wp2
                 go_ret2
                 exact ⟨by first | rfl | (rw [hdec]; rfl), rfl⟩)
            · have icut : a < 1152921504606846976 := by omega
              by_cases hw : 18446744073709551616 ≤ acc * 16 + (c.toNat - 48)
              · first
                | (exfalso; omega)
                | (have iov : 18446744073709551616 ≤ a * 16 + ((c.toNat : Int) - 48) := by omega
                   have hwr : IntKind.u64.wrap (a * 16 + ((c.toNat : Int) - 48)) = a * 16 + ((c.toNat : Int) - 48) - 18446744073709551616 := by
                     rw [IntKind.wrap_u64]
                     omega
                   clear hcut hacc hov ha hw
                   go_wp2
                   go_ret2
                   exact ⟨by first | rfl | (rw [hdec]; rfl), rfl⟩)
              · first
                | (exfalso; omega)
                | (have iov : a * 16 + ((c.toNat : Int) - 48) < 18446744073709551616 := by omega
                   have imx : 18446744073709551615 < a * 16 + ((c.toNat : Int) - 48) := by omega
                   clear hcut hacc hov ha hw
                   go_wp2
                   go_ret2
                   exact ⟨by first | rfl | (rw [hdec]; rfl), rfl⟩)
          · rw [if_neg hov] at hdec
            have HN : Hid (a * 16 + ((c.toNat : Int) - 48) = ((acc * 16 + (c.toNat - 48) : Nat) : Int) ∧ acc * 16 + (c.toNat - 48) ≤ 18446744073709551615 ∧ pu 16 18446744073709551615 bs 0 = pu 16 18446744073709551615 (bs.drop (k + 1)) (acc * 16 + (c.toNat - 48))) := Lib.hid ⟨by omega, by omega, hdec⟩
            have icut : a < 1152921504606846976 := by omega
            have iov : a * 16 + ((c.toNat : Int) - 48) < 18446744073709551616 := by omega
            have imx : a * 16 + ((c.toNat : Int) - 48) ≤ 18446744073709551615 := by omega
            clear hacc hov hdec ha
            go_wp2
            refine ⟨⟨k + 1, acc * 16 + (c.toNat - 48), a * 16 + ((c.toNat : Int) - 48), rfl, (by first | rfl | (congr 1; omega)), (by first | rfl | (congr 1; omega)), by omega, HN⟩, by simp [intOf]; omega⟩
      · have hl := low_lt c
        have hlc := lower_calls c
        have HLC := Lib.hid hlc
        clear hlc
        by_cases hlet : 97 ≤ low c ∧ low c ≤ 122
        · have hD : dig c = low c - 87 := by simp [dig, hdig, hlet]
          rw [hD] at hdec
          clear hD
          obtain ⟨hl0, hl1⟩ := hlet
          have h95 := low_95 hl1
          generalize low c = l at *
          by_cases hb : 16 ≤ l - 87
          · rw [if_pos hb] at hdec
            have hb2 : 16 ≤ (l : Int) - 97 + 10 := by omega
            clear hb ha hacc
            go_wp2_with (go_at_call 70; refine (HLC.out _).mono ?_; rintro e w' ⟨rfl, rfl⟩)
            all_goals go_ret2
            all_goals exact ⟨by first | rfl | (rw [hdec]; rfl), rfl⟩
          · first
            | (exfalso; omega)
            | (rw [if_neg hb] at hdec
               have hb2 : (l : Int) - 97 + 10 < 16 := by omega
               clear hb
               have hu0 := bits_lo_u8 .or 95 32
               have hu1 := bits_hi_u8 .or 95 32
               by_cases hov : 18446744073709551615 < acc * 16 + (l - 87)
               · rw [if_pos hov] at hdec
                 by_cases hcut : 1152921504606846976 ≤ acc
                 · first
                   | (exfalso; omega)
                   | (have icut : 1152921504606846976 ≤ a := by omega
                      clear hcut hacc ha hov
                      go_wp2_with (go_at_call 70; refine (HLC.out _).mono ?_; rintro e w' ⟨rfl, rfl⟩)
                      all_goals go_ret2
                      all_goals exact ⟨by first | rfl | (rw [hdec]; rfl), rfl⟩)
                 · first
                   | (exfalso; omega)
                   | (have icut : a < 1152921504606846976 := by omega
                      have iov : a * 16 + ((l : Int) - 97 + 10) < 18446744073709551616 := by omega
                      have imx : 18446744073709551615 < a * 16 + ((l : Int) - 97 + 10) := by omega
                      clear hcut hacc hov ha
                      go_wp2_with (go_at_call 70; refine (HLC.out _).mono ?_; rintro e w' ⟨rfl, rfl⟩)
                      all_goals go_ret2
                      all_goals exact ⟨by first | rfl | (rw [hdec]; rfl), rfl⟩)
               · rw [if_neg hov] at hdec
                 have HN : Hid (a * 16 + ((l : Int) - 97 + 10) = ((acc * 16 + (l - 87) : Nat) : Int) ∧ acc * 16 + (l - 87) ≤ 18446744073709551615 ∧ pu 16 18446744073709551615 bs 0 = pu 16 18446744073709551615 (bs.drop (k + 1)) (acc * 16 + (l - 87))) := Lib.hid ⟨by omega, by omega, hdec⟩
                 have icut : a < 1152921504606846976 := by omega
                 have iov : a * 16 + ((l : Int) - 97 + 10) < 18446744073709551616 := by omega
                 have imx : a * 16 + ((l : Int) - 97 + 10) ≤ 18446744073709551615 := by omega
                 clear hacc hov hdec ha
                 go_wp2_with (go_at_call 70; refine (HLC.out _).mono ?_; rintro e w' ⟨rfl, rfl⟩)
                 all_goals (refine ⟨⟨k + 1, acc * 16 + (l - 87), a * 16 + ((l : Int) - 97 + 10), rfl, (by first | rfl | (congr 1; omega)), (by first | rfl | (congr 1; omega)), by omega, HN⟩, by simp [intOf]; omega⟩))
        · have hD : dig c = 99 := by simp [dig, hdig, hlet]
          rw [hD, if_pos (by omega)] at hdec
          clear hD ha hacc
          generalize low c = l at *
          go_wp2_with (first | (go_at_call 70; (with_reducible refine (HLC.out _).mono ?_); rintro e w' ⟨rfl, rfl⟩) | (go_at_call 70; (with_reducible refine (lower_95 _).mono ?_); rintro e w' ⟨rfl, rfl⟩))
          all_goals go_ret2
          all_goals exact ⟨by first | rfl | (rw [hdec]; rfl), rfl⟩
    ·
      have hkk : k = t.size := by omega
      subst hkk
      have hF : pu 16 18446744073709551615 (bs.drop t.size) acc = .ok acc := by rw [List.drop_eq_nil_of_le (by omega)]; rfl
      rw [hF] at hdec
      subst ha
      clear hacc hF a0 a1
      go_wp2
      go_ret2
      exact ⟨by first | rfl | (rw [hdec]; rfl), rfl⟩
set_option maxHeartbeats 32000000 in
set_option maxRecDepth 100000 in
theorem parseUint_8_63 (t : ByteArray) (hne : t.size ≠ 0) (hmax : t.size ≤ 9223372036854775806) (w : World) :
    Calls Tryz.prog 53 #[.string t, .int .i64 8, .int .i64 63] w fun e w' => e = .returned (puTuple 9223372036854775807 (pu 8 9223372036854775807 t.data.toList 0)) ∧ w' = Lib.bytesWorld w 5 t := by
  have hemp : t.toList.isEmpty = false := by
    rw [← decide_eq_emptyBytes]
    exact decide_eq_false (fun h => hne (by rw [h]; rfl))
  have hcv := Lib.run_convert_string_bytes (P := Tryz.prog) w 9 29 5 t (u := .string) Tryz.underlying9 Tryz.underlying29 Tryz.underlying5
  have hB : ∀ j, j < t.size → (Lib.bytesWorld w 5 t).cell? ⟨w.heap.size, j, none⟩ = some (.int .u8 (t.data.toList.getD j 0).toNat) := fun j hj => Lib.bytesWorld_cell w 5 t j hj
  obtain ⟨W1, hW1⟩ : ∃ W1, W1 = Lib.bytesWorld w 5 t := ⟨_, rfl⟩
  rw [← hW1] at hcv hB ⊢
  clear hW1
  obtain ⟨bs, hL⟩ : ∃ bs, bs = t.data.toList := ⟨_, rfl⟩
  have hLn : bs.length = t.size := by rw [hL, Lib.size_eq]
  rw [← hL] at hB ⊢
  clear hL
  have hmv : IntKind.u64.wrap (IntKind.u64.wrap 18446744073709551616 - 1) = 18446744073709551615 := by
    rw [IntKind.wrap_u64, IntKind.wrap_u64]
    decide
  go_enter Tryz.func53, Tryz.ntmps53
  go_wp2
  go_loop [12, 13, 101] (fun vu vn vi => ∃ (k acc : Nat) (a : Int), vu = .bool false ∧ vn = .int .u64 a ∧ vi = .int .i64 k ∧ k ≤ t.size ∧ Hid (a = (acc : Int) ∧ acc ≤ 9223372036854775807 ∧ pu 8 9223372036854775807 bs 0 = pu 8 9223372036854775807 (bs.drop k) acc))
    (fun _ _ vi => t.size - (intOf vi).toNat)
  case atStart => exact ⟨0, 0, 0, rfl, rfl, rfl, by omega, rfl, by omega, rfl⟩
  case round =>
    obtain ⟨k, acc, a, rfl, rfl, rfl, hk, hh⟩ := hrel
    obtain ⟨ha, hacc, hdec⟩ := hh.out
    clear hh
    have a0 : 0 ≤ a := by omega
    have a1 : a ≤ 9223372036854775807 := by omega
    by_cases hkn : k < t.size
    · have hc := hB k hkn
      have hdrop : bs.drop k = bs[k]'(by omega) :: bs.drop (k + 1) := List.drop_eq_getElem_cons (by omega)
      have hget : bs.getD k 0 = bs[k]'(by omega) := by simp [List.getD, List.getElem?_eq_getElem (show k < bs.length by omega)]
      rw [hdrop] at hdec
      rw [hget] at hc
      generalize bs[k]'(by omega) = c at hc hdec
      have hc256 : c.toNat < 256 := c.toNat_lt
      clear hB hdrop hget
      have hpu : pu 8 9223372036854775807 (c :: bs.drop (k + 1)) acc = if 8 ≤ dig c then .synt else if 9223372036854775807 < acc * 8 + dig c then .range else pu 8 9223372036854775807 (bs.drop (k + 1)) (acc * 8 + dig c) := rfl
      rw [hpu] at hdec
      clear hpu
      by_cases hdig : 48 ≤ c.toNat ∧ c.toNat ≤ 57
      · have hD : dig c = c.toNat - 48 := by simp [dig, hdig]
        rw [hD] at hdec
        clear hD
        obtain ⟨hd0, hd1⟩ := hdig
        by_cases hb : 8 ≤ c.toNat - 48
        · first
          | (exfalso; omega)
          | (rw [if_pos hb] at hdec
             have hb2 : 8 ≤ (c.toNat : Int) - 48 := by omega
             clear hb ha hacc
             go_wp2
             go_ret2
             exact ⟨by first | rfl | (rw [hdec]; rfl), rfl⟩)
        · rw [if_neg hb] at hdec
          have hb2 : (c.toNat : Int) - 48 < 8 := by omega
          clear hb
          by_cases hov : 9223372036854775807 < acc * 8 + (c.toNat - 48)
          · rw [if_pos hov] at hdec
            by_cases hcut : 2305843009213693952 ≤ acc
            · first
              | (exfalso; omega)
              | (have icut : 2305843009213693952 ≤ a := by omega
                 clear hcut hacc ha hov
                 go_wp2
                 go_ret2
                 exact ⟨by first | rfl | (rw [hdec]; rfl), rfl⟩)
            · have icut : a < 2305843009213693952 := by omega
              by_cases hw : 18446744073709551616 ≤ acc * 8 + (c.toNat - 48)
              · first
                | (exfalso; omega)
                | (have iov : 18446744073709551616 ≤ a * 8 + ((c.toNat : Int) - 48) := by omega
                   have hwr : IntKind.u64.wrap (a * 8 + ((c.toNat : Int) - 48)) = a * 8 + ((c.toNat : Int) - 48) - 18446744073709551616 := by
                     rw [IntKind.wrap_u64]
                     omega
                   clear hcut hacc hov ha hw
                   go_wp2
                   go_ret2
                   exact ⟨by first | rfl | (rw [hdec]; rfl), rfl⟩)
              · first
                | (exfalso; omega)
                | (have iov : a * 8 + ((c.toNat : Int) - 48) < 18446744073709551616 := by omega
                   have imx : 9223372036854775807 < a * 8 + ((c.toNat : Int) - 48) := by omega
                   clear hcut hacc hov ha hw
                   go_wp2
                   go_ret2
                   exact ⟨by first | rfl | (rw [hdec]; rfl), rfl⟩)
          · rw [if_neg hov] at hdec
            have HN : Hid (a * 8 + ((c.toNat : Int) - 48) = ((acc * 8 + (c.toNat - 48) : Nat) : Int) ∧ acc * 8 + (c.toNat - 48) ≤ 9223372036854775807 ∧ pu 8 9223372036854775807 bs 0 = pu 8 9223372036854775807 (bs.drop (k + 1)) (acc * 8 + (c.toNat - 48))) := Lib.hid ⟨by omega, by omega, hdec⟩
            have icut : a < 2305843009213693952 := by omega
            have iov : a * 8 + ((c.toNat : Int) - 48) < 18446744073709551616 := by omega
            have imx : a * 8 + ((c.toNat : Int) - 48) ≤ 9223372036854775807 := by omega
            clear hacc hov hdec ha
            go_wp2
            refine ⟨⟨k + 1, acc * 8 + (c.toNat - 48), a * 8 + ((c.toNat : Int) - 48), rfl, (by first | rfl | (congr 1; omega)), (by first | rfl | (congr 1; omega)), by omega, HN⟩, by simp [intOf]; omega⟩
      · have hl := low_lt c
        have hlc := lower_calls c
        have HLC := Lib.hid hlc
        clear hlc
        by_cases hlet : 97 ≤ low c ∧ low c ≤ 122
        · have hD : dig c = low c - 87 := by simp [dig, hdig, hlet]
          rw [hD] at hdec
          clear hD
          obtain ⟨hl0, hl1⟩ := hlet
          have h95 := low_95 hl1
          generalize low c = l at *
          by_cases hb : 8 ≤ l - 87
          · rw [if_pos hb] at hdec
            have hb2 : 8 ≤ (l : Int) - 97 + 10 := by omega
            clear hb ha hacc
            go_wp2_with (go_at_call 70; refine (HLC.out _).mono ?_; rintro e w' ⟨rfl, rfl⟩)
            all_goals go_ret2
            all_goals exact ⟨by first | rfl | (rw [hdec]; rfl), rfl⟩
          · first
            | (exfalso; omega)
            | (rw [if_neg hb] at hdec
               have hb2 : (l : Int) - 97 + 10 < 8 := by omega
               clear hb
               have hu0 := bits_lo_u8 .or 95 32
               have hu1 := bits_hi_u8 .or 95 32
               by_cases hov : 9223372036854775807 < acc * 8 + (l - 87)
               · rw [if_pos hov] at hdec
                 by_cases hcut : 2305843009213693952 ≤ acc
                 · first
                   | (exfalso; omega)
                   | (have icut : 2305843009213693952 ≤ a := by omega
                      clear hcut hacc ha hov
                      go_wp2_with (go_at_call 70; refine (HLC.out _).mono ?_; rintro e w' ⟨rfl, rfl⟩)
                      all_goals go_ret2
                      all_goals exact ⟨by first | rfl | (rw [hdec]; rfl), rfl⟩)
                 · first
                   | (exfalso; omega)
                   | (have icut : a < 2305843009213693952 := by omega
                      have iov : a * 8 + ((l : Int) - 97 + 10) < 18446744073709551616 := by omega
                      have imx : 9223372036854775807 < a * 8 + ((l : Int) - 97 + 10) := by omega
                      clear hcut hacc hov ha
                      go_wp2_with (go_at_call 70; refine (HLC.out _).mono ?_; rintro e w' ⟨rfl, rfl⟩)
                      all_goals go_ret2
                      all_goals exact ⟨by first | rfl | (rw [hdec]; rfl), rfl⟩)
               · rw [if_neg hov] at hdec
                 have HN : Hid (a * 8 + ((l : Int) - 97 + 10) = ((acc * 8 + (l - 87) : Nat) : Int) ∧ acc * 8 + (l - 87) ≤ 9223372036854775807 ∧ pu 8 9223372036854775807 bs 0 = pu 8 9223372036854775807 (bs.drop (k + 1)) (acc * 8 + (l - 87))) := Lib.hid ⟨by omega, by omega, hdec⟩
                 have icut : a < 2305843009213693952 := by omega
                 have iov : a * 8 + ((l : Int) - 97 + 10) < 18446744073709551616 := by omega
                 have imx : a * 8 + ((l : Int) - 97 + 10) ≤ 9223372036854775807 := by omega
                 clear hacc hov hdec ha
                 go_wp2_with (go_at_call 70; refine (HLC.out _).mono ?_; rintro e w' ⟨rfl, rfl⟩)
                 all_goals (refine ⟨⟨k + 1, acc * 8 + (l - 87), a * 8 + ((l : Int) - 97 + 10), rfl, (by first | rfl | (congr 1; omega)), (by first | rfl | (congr 1; omega)), by omega, HN⟩, by simp [intOf]; omega⟩))
        · have hD : dig c = 99 := by simp [dig, hdig, hlet]
          rw [hD, if_pos (by omega)] at hdec
          clear hD ha hacc
          generalize low c = l at *
          go_wp2_with (first | (go_at_call 70; (with_reducible refine (HLC.out _).mono ?_); rintro e w' ⟨rfl, rfl⟩) | (go_at_call 70; (with_reducible refine (lower_95 _).mono ?_); rintro e w' ⟨rfl, rfl⟩))
          all_goals go_ret2
          all_goals exact ⟨by first | rfl | (rw [hdec]; rfl), rfl⟩
    ·
      have hkk : k = t.size := by omega
      subst hkk
      have hF : pu 8 9223372036854775807 (bs.drop t.size) acc = .ok acc := by rw [List.drop_eq_nil_of_le (by omega)]; rfl
      rw [hF] at hdec
      subst ha
      clear hacc hF a0 a1
      go_wp2
      go_ret2
      exact ⟨by first | rfl | (rw [hdec]; rfl), rfl⟩
set_option maxHeartbeats 32000000 in
set_option maxRecDepth 100000 in
theorem parseUint_10_63 (t : ByteArray) (hne : t.size ≠ 0) (hmax : t.size ≤ 9223372036854775806) (w : World) :
    Calls Tryz.prog 53 #[.string t, .int .i64 10, .int .i64 63] w fun e w' => e = .returned (puTuple 9223372036854775807 (pu 10 9223372036854775807 t.data.toList 0)) ∧ w' = Lib.bytesWorld w 5 t := by
  have hemp : t.toList.isEmpty = false := by
    rw [← decide_eq_emptyBytes]
    exact decide_eq_false (fun h => hne (by rw [h]; rfl))
  have hcv := Lib.run_convert_string_bytes (P := Tryz.prog) w 9 29 5 t (u := .string) Tryz.underlying9 Tryz.underlying29 Tryz.underlying5
  have hB : ∀ j, j < t.size → (Lib.bytesWorld w 5 t).cell? ⟨w.heap.size, j, none⟩ = some (.int .u8 (t.data.toList.getD j 0).toNat) := fun j hj => Lib.bytesWorld_cell w 5 t j hj
  obtain ⟨W1, hW1⟩ : ∃ W1, W1 = Lib.bytesWorld w 5 t := ⟨_, rfl⟩
  rw [← hW1] at hcv hB ⊢
  clear hW1
  obtain ⟨bs, hL⟩ : ∃ bs, bs = t.data.toList := ⟨_, rfl⟩
  have hLn : bs.length = t.size := by rw [hL, Lib.size_eq]
  rw [← hL] at hB ⊢
  clear hL
  have hmv : IntKind.u64.wrap (IntKind.u64.wrap 18446744073709551616 - 1) = 18446744073709551615 := by
    rw [IntKind.wrap_u64, IntKind.wrap_u64]
    decide
  go_enter Tryz.func53, Tryz.ntmps53
  go_wp2
  go_loop [12, 13, 101] (fun vu vn vi => ∃ (k acc : Nat) (a : Int), vu = .bool false ∧ vn = .int .u64 a ∧ vi = .int .i64 k ∧ k ≤ t.size ∧ Hid (a = (acc : Int) ∧ acc ≤ 9223372036854775807 ∧ pu 10 9223372036854775807 bs 0 = pu 10 9223372036854775807 (bs.drop k) acc))
    (fun _ _ vi => t.size - (intOf vi).toNat)
  case atStart => exact ⟨0, 0, 0, rfl, rfl, rfl, by omega, rfl, by omega, rfl⟩
  case round =>
    obtain ⟨k, acc, a, rfl, rfl, rfl, hk, hh⟩ := hrel
    obtain ⟨ha, hacc, hdec⟩ := hh.out
    clear hh
    have a0 : 0 ≤ a := by omega
    have a1 : a ≤ 9223372036854775807 := by omega
    by_cases hkn : k < t.size
    · have hc := hB k hkn
      have hdrop : bs.drop k = bs[k]'(by omega) :: bs.drop (k + 1) := List.drop_eq_getElem_cons (by omega)
      have hget : bs.getD k 0 = bs[k]'(by omega) := by simp [List.getD, List.getElem?_eq_getElem (show k < bs.length by omega)]
      rw [hdrop] at hdec
      rw [hget] at hc
      generalize bs[k]'(by omega) = c at hc hdec
      have hc256 : c.toNat < 256 := c.toNat_lt
      clear hB hdrop hget
      have hpu : pu 10 9223372036854775807 (c :: bs.drop (k + 1)) acc = if 10 ≤ dig c then .synt else if 9223372036854775807 < acc * 10 + dig c then .range else pu 10 9223372036854775807 (bs.drop (k + 1)) (acc * 10 + dig c) := rfl
      rw [hpu] at hdec
      clear hpu
      by_cases hdig : 48 ≤ c.toNat ∧ c.toNat ≤ 57
      · have hD : dig c = c.toNat - 48 := by simp [dig, hdig]
        rw [hD] at hdec
        clear hD
        obtain ⟨hd0, hd1⟩ := hdig
        by_cases hb : 10 ≤ c.toNat - 48
        · first
          | (exfalso; omega)
          | (rw [if_pos hb] at hdec
             have hb2 : 10 ≤ (c.toNat : Int) - 48 := by omega
             clear hb ha hacc
             go_wp2
             go_ret2
             exact ⟨by first | rfl | (rw [hdec]; rfl), rfl⟩)
        · rw [if_neg hb] at hdec
          have hb2 : (c.toNat : Int) - 48 < 10 := by omega
          clear hb
          by_cases hov : 9223372036854775807 < acc * 10 + (c.toNat - 48)
          · rw [if_pos hov] at hdec
            by_cases hcut : 1844674407370955162 ≤ acc
            · first
              | (exfalso; omega)
              | (have icut : 1844674407370955162 ≤ a := by omega
                 clear hcut hacc ha hov
                 go_wp2
                 go_ret2
                 exact ⟨by first | rfl | (rw [hdec]; rfl), rfl⟩)
            · have icut : a < 1844674407370955162 := by omega
              by_cases hw : 18446744073709551616 ≤ acc * 10 + (c.toNat - 48)
              · first
                | (exfalso; omega)
                | (have iov : 18446744073709551616 ≤ a * 10 + ((c.toNat : Int) - 48) := by omega
                   have hwr : IntKind.u64.wrap (a * 10 + ((c.toNat : Int) - 48)) = a * 10 + ((c.toNat : Int) - 48) - 18446744073709551616 := by
                     rw [IntKind.wrap_u64]
                     omega
                   clear hcut hacc hov ha hw
                   go_wp2
                   go_ret2
                   exact ⟨by first | rfl | (rw [hdec]; rfl), rfl⟩)
              · first
                | (exfalso; omega)
                | (have iov : a * 10 + ((c.toNat : Int) - 48) < 18446744073709551616 := by omega
                   have imx : 9223372036854775807 < a * 10 + ((c.toNat : Int) - 48) := by omega
                   clear hcut hacc hov ha hw
                   go_wp2
                   go_ret2
                   exact ⟨by first | rfl | (rw [hdec]; rfl), rfl⟩)
          · rw [if_neg hov] at hdec
            have HN : Hid (a * 10 + ((c.toNat : Int) - 48) = ((acc * 10 + (c.toNat - 48) : Nat) : Int) ∧ acc * 10 + (c.toNat - 48) ≤ 9223372036854775807 ∧ pu 10 9223372036854775807 bs 0 = pu 10 9223372036854775807 (bs.drop (k + 1)) (acc * 10 + (c.toNat - 48))) := Lib.hid ⟨by omega, by omega, hdec⟩
            have icut : a < 1844674407370955162 := by omega
            have iov : a * 10 + ((c.toNat : Int) - 48) < 18446744073709551616 := by omega
            have imx : a * 10 + ((c.toNat : Int) - 48) ≤ 9223372036854775807 := by omega
            clear hacc hov hdec ha
            go_wp2
            refine ⟨⟨k + 1, acc * 10 + (c.toNat - 48), a * 10 + ((c.toNat : Int) - 48), rfl, (by first | rfl | (congr 1; omega)), (by first | rfl | (congr 1; omega)), by omega, HN⟩, by simp [intOf]; omega⟩
      · have hl := low_lt c
        have hlc := lower_calls c
        have HLC := Lib.hid hlc
        clear hlc
        by_cases hlet : 97 ≤ low c ∧ low c ≤ 122
        · have hD : dig c = low c - 87 := by simp [dig, hdig, hlet]
          rw [hD] at hdec
          clear hD
          obtain ⟨hl0, hl1⟩ := hlet
          have h95 := low_95 hl1
          generalize low c = l at *
          by_cases hb : 10 ≤ l - 87
          · rw [if_pos hb] at hdec
            have hb2 : 10 ≤ (l : Int) - 97 + 10 := by omega
            clear hb ha hacc
            go_wp2_with (go_at_call 70; refine (HLC.out _).mono ?_; rintro e w' ⟨rfl, rfl⟩)
            all_goals go_ret2
            all_goals exact ⟨by first | rfl | (rw [hdec]; rfl), rfl⟩
          · first
            | (exfalso; omega)
            | (rw [if_neg hb] at hdec
               have hb2 : (l : Int) - 97 + 10 < 10 := by omega
               clear hb
               have hu0 := bits_lo_u8 .or 95 32
               have hu1 := bits_hi_u8 .or 95 32
               by_cases hov : 9223372036854775807 < acc * 10 + (l - 87)
               · rw [if_pos hov] at hdec
                 by_cases hcut : 1844674407370955162 ≤ acc
                 · first
                   | (exfalso; omega)
                   | (have icut : 1844674407370955162 ≤ a := by omega
                      clear hcut hacc ha hov
                      go_wp2_with (go_at_call 70; refine (HLC.out _).mono ?_; rintro e w' ⟨rfl, rfl⟩)
                      all_goals go_ret2
                      all_goals exact ⟨by first | rfl | (rw [hdec]; rfl), rfl⟩)
                 · first
                   | (exfalso; omega)
                   | (have icut : a < 1844674407370955162 := by omega
                      have iov : a * 10 + ((l : Int) - 97 + 10) < 18446744073709551616 := by omega
                      have imx : 9223372036854775807 < a * 10 + ((l : Int) - 97 + 10) := by omega
                      clear hcut hacc hov ha
                      go_wp2_with (go_at_call 70; refine (HLC.out _).mono ?_; rintro e w' ⟨rfl, rfl⟩)
                      all_goals go_ret2
                      all_goals exact ⟨by first | rfl | (rw [hdec]; rfl), rfl⟩)
               · rw [if_neg hov] at hdec
                 have HN : Hid (a * 10 + ((l : Int) - 97 + 10) = ((acc * 10 + (l - 87) : Nat) : Int) ∧ acc * 10 + (l - 87) ≤ 9223372036854775807 ∧ pu 10 9223372036854775807 bs 0 = pu 10 9223372036854775807 (bs.drop (k + 1)) (acc * 10 + (l - 87))) := Lib.hid ⟨by omega, by omega, hdec⟩
                 have icut : a < 1844674407370955162 := by omega
                 have iov : a * 10 + ((l : Int) - 97 + 10) < 18446744073709551616 := by omega
                 have imx : a * 10 + ((l : Int) - 97 + 10) ≤ 9223372036854775807 := by omega
                 clear hacc hov hdec ha
                 go_wp2_with (go_at_call 70; refine (HLC.out _).mono ?_; rintro e w' ⟨rfl, rfl⟩)
                 all_goals (refine ⟨⟨k + 1, acc * 10 + (l - 87), a * 10 + ((l : Int) - 97 + 10), rfl, (by first | rfl | (congr 1; omega)), (by first | rfl | (congr 1; omega)), by omega, HN⟩, by simp [intOf]; omega⟩))
        · have hD : dig c = 99 := by simp [dig, hdig, hlet]
          rw [hD, if_pos (by omega)] at hdec
          clear hD ha hacc
          generalize low c = l at *
          go_wp2_with (first | (go_at_call 70; (with_reducible refine (HLC.out _).mono ?_); rintro e w' ⟨rfl, rfl⟩) | (go_at_call 70; (with_reducible refine (lower_95 _).mono ?_); rintro e w' ⟨rfl, rfl⟩))
          all_goals go_ret2
          all_goals exact ⟨by first | rfl | (rw [hdec]; rfl), rfl⟩
    ·
      have hkk : k = t.size := by omega
      subst hkk
      have hF : pu 10 9223372036854775807 (bs.drop t.size) acc = .ok acc := by rw [List.drop_eq_nil_of_le (by omega)]; rfl
      rw [hF] at hdec
      subst ha
      clear hacc hF a0 a1
      go_wp2
      go_ret2
      exact ⟨by first | rfl | (rw [hdec]; rfl), rfl⟩
set_option maxHeartbeats 32000000 in
set_option maxRecDepth 100000 in
theorem parseUint_16_63 (t : ByteArray) (hne : t.size ≠ 0) (hmax : t.size ≤ 9223372036854775806) (w : World) :
    Calls Tryz.prog 53 #[.string t, .int .i64 16, .int .i64 63] w fun e w' => e = .returned (puTuple 9223372036854775807 (pu 16 9223372036854775807 t.data.toList 0)) ∧ w' = Lib.bytesWorld w 5 t := by
  have hemp : t.toList.isEmpty = false := by
    rw [← decide_eq_emptyBytes]
    exact decide_eq_false (fun h => hne (by rw [h]; rfl))
  have hcv := Lib.run_convert_string_bytes (P := Tryz.prog) w 9 29 5 t (u := .string) Tryz.underlying9 Tryz.underlying29 Tryz.underlying5
  have hB : ∀ j, j < t.size → (Lib.bytesWorld w 5 t).cell? ⟨w.heap.size, j, none⟩ = some (.int .u8 (t.data.toList.getD j 0).toNat) := fun j hj => Lib.bytesWorld_cell w 5 t j hj
  obtain ⟨W1, hW1⟩ : ∃ W1, W1 = Lib.bytesWorld w 5 t := ⟨_, rfl⟩
  rw [← hW1] at hcv hB ⊢
  clear hW1
  obtain ⟨bs, hL⟩ : ∃ bs, bs = t.data.toList := ⟨_, rfl⟩
  have hLn : bs.length = t.size := by rw [hL, Lib.size_eq]
  rw [← hL] at hB ⊢
  clear hL
  have hmv : IntKind.u64.wrap (IntKind.u64.wrap 18446744073709551616 - 1) = 18446744073709551615 := by
    rw [IntKind.wrap_u64, IntKind.wrap_u64]
    decide
  go_enter Tryz.func53, Tryz.ntmps53
  go_wp2
  go_loop [12, 13, 101] (fun vu vn vi => ∃ (k acc : Nat) (a : Int), vu = .bool false ∧ vn = .int .u64 a ∧ vi = .int .i64 k ∧ k ≤ t.size ∧ Hid (a = (acc : Int) ∧ acc ≤ 9223372036854775807 ∧ pu 16 9223372036854775807 bs 0 = pu 16 9223372036854775807 (bs.drop k) acc))
    (fun _ _ vi => t.size - (intOf vi).toNat)
  case atStart => exact ⟨0, 0, 0, rfl, rfl, rfl, by omega, rfl, by omega, rfl⟩
  case round =>
    obtain ⟨k, acc, a, rfl, rfl, rfl, hk, hh⟩ := hrel
    obtain ⟨ha, hacc, hdec⟩ := hh.out
    clear hh
    have a0 : 0 ≤ a := by omega
    have a1 : a ≤ 9223372036854775807 := by omega
    by_cases hkn : k < t.size
    · have hc := hB k hkn
      have hdrop : bs.drop k = bs[k]'(by omega) :: bs.drop (k + 1) := List.drop_eq_getElem_cons (by omega)
      have hget : bs.getD k 0 = bs[k]'(by omega) := by simp [List.getD, List.getElem?_eq_getElem (show k < bs.length by omega)]
      rw [hdrop] at hdec
      rw [hget] at hc
      generalize bs[k]'(by omega) = c at hc hdec
      have hc256 : c.toNat < 256 := c.toNat_lt
      clear hB hdrop hget
      have hpu : pu 16 9223372036854775807 (c :: bs.drop (k + 1)) acc = if 16 ≤ dig c then .synt else if 9223372036854775807 < acc * 16 + dig c then .range else pu 16 9223372036854775807 (bs.drop (k + 1)) (acc * 16 + dig c) := rfl
      rw [hpu] at hdec
      clear hpu
      by_cases hdig : 48 ≤ c.toNat ∧ c.toNat ≤ 57
      · have hD : dig c = c.toNat - 48 := by simp [dig, hdig]
        rw [hD] at hdec
        clear hD
        obtain ⟨hd0, hd1⟩ := hdig
        by_cases hb : 16 ≤ c.toNat - 48
        · first
          | (exfalso; omega)
          | (rw [if_pos hb] at hdec
             have hb2 : 16 ≤ (c.toNat : Int) - 48 := by omega
             clear hb ha hacc
             go_wp2
             go_ret2
             exact ⟨by first | rfl | (rw [hdec]; rfl), rfl⟩)
        · rw [if_neg hb] at hdec
          have hb2 : (c.toNat : Int) - 48 < 16 := by omega
          clear hb
          by_cases hov : 9223372036854775807 < acc * 16 + (c.toNat - 48)
          · rw [if_pos hov] at hdec
            by_cases hcut : 1152921504606846976 ≤ acc
            · first
              | (exfalso; omega)
              | (have icut : 1152921504606846976 ≤ a := by omega
                 clear hcut hacc ha hov
                 go_wp2
                 go_ret2
                 exact ⟨by first | rfl | (rw [hdec]; rfl), rfl⟩)
            · have icut : a < 1152921504606846976 := by omega
              by_cases hw : 18446744073709551616 ≤ acc * 16 + (c.toNat - 48)
              · first
                | (exfalso; omega)
                | (have iov : 18446744073709551616 ≤ a * 16 + ((c.toNat : Int) - 48) := by omega
                   have hwr : IntKind.u64.wrap (a * 16 + ((c.toNat : Int) - 48)) = a * 16 + ((c.toNat : Int) - 48) - 18446744073709551616 := by
                     rw [IntKind.wrap_u64]
                     omega
                   clear hcut hacc hov ha hw
                   go_wp2
                   go_ret2
                   exact ⟨by first | rfl | (rw [hdec]; rfl), rfl⟩)
              · first
                | (exfalso; omega)
                | (have iov : a * 16 + ((c.toNat : Int) - 48) < 18446744073709551616 := by omega
                   have imx : 9223372036854775807 < a * 16 + ((c.toNat : Int) - 48) := by omega
                   clear hcut hacc hov ha hw
                   go_wp2
                   go_ret2
                   exact ⟨by first | rfl | (rw [hdec]; rfl), rfl⟩)
          · rw [if_neg hov] at hdec
            have HN : Hid (a * 16 + ((c.toNat : Int) - 48) = ((acc * 16 + (c.toNat - 48) : Nat) : Int) ∧ acc * 16 + (c.toNat - 48) ≤ 9223372036854775807 ∧ pu 16 9223372036854775807 bs 0 = pu 16 9223372036854775807 (bs.drop (k + 1)) (acc * 16 + (c.toNat - 48))) := Lib.hid ⟨by omega, by omega, hdec⟩
            have icut : a < 1152921504606846976 := by omega
            have iov : a * 16 + ((c.toNat : Int) - 48) < 18446744073709551616 := by omega
            have imx : a * 16 + ((c.toNat : Int) - 48) ≤ 9223372036854775807 := by omega
            clear hacc hov hdec ha
            go_wp2
            refine ⟨⟨k + 1, acc * 16 + (c.toNat - 48), a * 16 + ((c.toNat : Int) - 48), rfl, (by first | rfl | (congr 1; omega)), (by first | rfl | (congr 1; omega)), by omega, HN⟩, by simp [intOf]; omega⟩
      · have hl := low_lt c
        have hlc := lower_calls c
        have HLC := Lib.hid hlc
        clear hlc
        by_cases hlet : 97 ≤ low c ∧ low c ≤ 122
        · have hD : dig c = low c - 87 := by simp [dig, hdig, hlet]
          rw [hD] at hdec
          clear hD
          obtain ⟨hl0, hl1⟩ := hlet
          have h95 := low_95 hl1
          generalize low c = l at *
          by_cases hb : 16 ≤ l - 87
          · rw [if_pos hb] at hdec
            have hb2 : 16 ≤ (l : Int) - 97 + 10 := by omega
            clear hb ha hacc
            go_wp2_with (go_at_call 70; refine (HLC.out _).mono ?_; rintro e w' ⟨rfl, rfl⟩)
            all_goals go_ret2
            all_goals exact ⟨by first | rfl | (rw [hdec]; rfl), rfl⟩
          · first
            | (exfalso; omega)
            | (rw [if_neg hb] at hdec
               have hb2 : (l : Int) - 97 + 10 < 16 := by omega
               clear hb
               have hu0 := bits_lo_u8 .or 95 32
               have hu1 := bits_hi_u8 .or 95 32
               by_cases hov : 9223372036854775807 < acc * 16 + (l - 87)
               · rw [if_pos hov] at hdec
                 by_cases hcut : 1152921504606846976 ≤ acc
                 · first
                   | (exfalso; omega)
                   | (have icut : 1152921504606846976 ≤ a := by omega
                      clear hcut hacc ha hov
                      go_wp2_with (go_at_call 70; refine (HLC.out _).mono ?_; rintro e w' ⟨rfl, rfl⟩)
                      all_goals go_ret2
                      all_goals exact ⟨by first | rfl | (rw [hdec]; rfl), rfl⟩)
                 · first
                   | (exfalso; omega)
                   | (have icut : a < 1152921504606846976 := by omega
                      have iov : a * 16 + ((l : Int) - 97 + 10) < 18446744073709551616 := by omega
                      have imx : 9223372036854775807 < a * 16 + ((l : Int) - 97 + 10) := by omega
                      clear hcut hacc hov ha
                      go_wp2_with (go_at_call 70; refine (HLC.out _).mono ?_; rintro e w' ⟨rfl, rfl⟩)
                      all_goals go_ret2
                      all_goals exact ⟨by first | rfl | (rw [hdec]; rfl), rfl⟩)
               · rw [if_neg hov] at hdec
                 have HN : Hid (a * 16 + ((l : Int) - 97 + 10) = ((acc * 16 + (l - 87) : Nat) : Int) ∧ acc * 16 + (l - 87) ≤ 9223372036854775807 ∧ pu 16 9223372036854775807 bs 0 = pu 16 9223372036854775807 (bs.drop (k + 1)) (acc * 16 + (l - 87))) := Lib.hid ⟨by omega, by omega, hdec⟩
                 have icut : a < 1152921504606846976 := by omega
                 have iov : a * 16 + ((l : Int) - 97 + 10) < 18446744073709551616 := by omega
                 have imx : a * 16 + ((l : Int) - 97 + 10) ≤ 9223372036854775807 := by omega
                 clear hacc hov hdec ha
                 go_wp2_with (go_at_call 70; refine (HLC.out _).mono ?_; rintro e w' ⟨rfl, rfl⟩)
                 all_goals (refine ⟨⟨k + 1, acc * 16 + (l - 87), a * 16 + ((l : Int) - 97 + 10), rfl, (by first | rfl | (congr 1; omega)), (by first | rfl | (congr 1; omega)), by omega, HN⟩, by simp [intOf]; omega⟩))
        · have hD : dig c = 99 := by simp [dig, hdig, hlet]
          rw [hD, if_pos (by omega)] at hdec
          clear hD ha hacc
          generalize low c = l at *
          go_wp2_with (first | (go_at_call 70; (with_reducible refine (HLC.out _).mono ?_); rintro e w' ⟨rfl, rfl⟩) | (go_at_call 70; (with_reducible refine (lower_95 _).mono ?_); rintro e w' ⟨rfl, rfl⟩))
          all_goals go_ret2
          all_goals exact ⟨by first | rfl | (rw [hdec]; rfl), rfl⟩
    ·
      have hkk : k = t.size := by omega
      subst hkk
      have hF : pu 16 9223372036854775807 (bs.drop t.size) acc = .ok acc := by rw [List.drop_eq_nil_of_le (by omega)]; rfl
      rw [hF] at hdec
      subst ha
      clear hacc hF a0 a1
      go_wp2
      go_ret2
      exact ⟨by first | rfl | (rw [hdec]; rfl), rfl⟩
end Go.Proofs.YtihidbjffclfkaaGreatDoor.PLex
