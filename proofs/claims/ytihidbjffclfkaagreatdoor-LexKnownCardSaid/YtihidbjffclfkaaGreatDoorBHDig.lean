/- Part of the proof: what it uses of HDig. -/
import Derived.BigQuiet
import Derived.Deep.QuietTactic
import Derived.LoopTactic
import Derived.Test.YtihidbjffclfkaaGreatDoorBHPlain
import Derived.Test.YtihidbjffclfkaaGreatDoorBHPub
namespace Go.Proofs.YtihidbjffclfkaaGreatDoor.PLex
open Go.RowKit Go.Proofs.YtihidbjffclfkaaGreatDoorW.PrintWords Go.Proofs.YtihidbjffclfkaaGreatDoorW.PrintLast Go.Proofs.YtihidbjffclfkaaGreatDoorW.PrintMore Go.Proofs.YtihidbjffclfkaaGreatDoor.Lx
attribute [local go_sem] max2_int min2_int max_two min_two max_three min_three max_four min_four
set_option linter.unusedVariables false
set_option linter.unusedSimpArgs false
theorem extract_one (s : ByteArray) (k : Nat) (h : k < s.size) : (s.extract k (k + 1)).data.toList = [s[k]'h] := by
  rw [ByteArray.data_extract, Array.toList_extract]
  have hl : s.data.toList.length = s.size := (Lib.size_eq s).symm
  rw [List.extract_eq_take_drop, List.drop_eq_getElem_cons (by omega)]
  simp
  rfl
theorem extract_to (s : ByteArray) (k : Nat) : (s.extract 0 k).data.toList = s.data.toList.take k := by
  rw [ByteArray.data_extract, Array.toList_extract]
  simp [List.extract_eq_take_drop]
set_option maxHeartbeats 1600000 in
set_option maxRecDepth 100000 in
theorem digits_calls (b : Nat) (hb1 : 1 ≤ b) (hb16 : b ≤ 16)
    (h8 : ∀ t : ByteArray, t.size ≠ 0 → t.size ≤ 9223372036854775806 → ∀ w, Calls Tryz.prog 53 #[.string t, .int .i64 b, .int .i64 8] w fun e w' => e = .returned (puTuple 255 (pu b 255 t.data.toList 0)) ∧ Below w.heap.size w w')
    (h64 : ∀ t : ByteArray, t.size ≠ 0 → t.size ≤ 9223372036854775806 → ∀ w, Calls Tryz.prog 53 #[.string t, .int .i64 b, .int .i64 64] w fun e w' => e = .returned (puTuple 18446744073709551615 (pu b 18446744073709551615 t.data.toList 0)) ∧ Below w.heap.size w w')
    (s : ByteArray) (hs : s.size ≤ 281474976710656) (most : Nat) (hm : most ≤ 8) (w : World) (hg : GV w) :
    Calls Tryz.prog 76 #[.string s, .int .i64 b, .int .i64 most] w fun e w' =>
      e = .returned (.tuple #[.int .u64 (val b (s.data.toList.take (digN b most s.data.toList)) 0), .int .i64 (digN b most s.data.toList), .string (s.extract (digN b most s.data.toList) s.size)]) ∧ Below w.heap.size w w' := by
  have hl : s.data.toList.length = s.size := (Lib.size_eq s).symm
  have one_ok : ∀ k, (hk : k < s.size) → dig (s[k]'hk) < b → ∀ w, Calls Tryz.prog 27 #[.string (s.extract k (k + 1)), .int .i64 b, .int .i64 8] w fun e w' => e = .returned (.tuple #[.int .u64 (dig (s[k]'hk)), .nilIface]) ∧ Below w.heap.size w w' := by
    intro k hk hd w
    have hsz : (s.extract k (k + 1)).size = 1 := by rw [ByteArray.size_extract]; omega
    refine pub_ok _ b 8 255 (dig (s[k]'hk)) (fun w => ?_) w
    have h := h8 (s.extract k (k + 1)) (by omega) (by omega) w
    have h1 := pu_ok b 255 hb1 [s[k]'hk] 0 (by simpa using hd) (by simp [val]; omega)
    rw [extract_one s k hk, h1] at h
    have h2 : val b [s[k]'hk] 0 = dig (s[k]'hk) := by simp [val]
    rw [h2] at h
    exact h
  have one_bad : ∀ k, (hk : k < s.size) → ¬ dig (s[k]'hk) < b → ∀ w, GV w → Calls Tryz.prog 27 #[.string (s.extract k (k + 1)), .int .i64 b, .int .i64 8] w fun e w' => NumErr 0 e ∧ Below w.heap.size w w' := by
    intro k hk hd w hg
    have hsz : (s.extract k (k + 1)).size = 1 := by rw [ByteArray.size_extract]; omega
    refine pub_syntax _ b 8 255 (fun w => ?_) (by omega) w hg
    have h := h8 (s.extract k (k + 1)) (by omega) (by omega) w
    rw [extract_one s k hk, pu_one_bad b 255 _ (by omega)] at h
    exact h
  have all_ok : ∀ k, k ≤ 8 → k ≤ s.size → (∀ c ∈ s.data.toList.take k, dig c < b) → ∀ w, GV w → Calls Tryz.prog 27 #[.string (s.extract 0 k), .int .i64 b, .int .i64 64] w fun e w' => (∃ err, e = .returned (.tuple #[.int .u64 (val b (s.data.toList.take k) 0), err])) ∧ Below w.heap.size w w' := by
    intro k hk8 hks hall w hg
    have hsz : (s.extract 0 k).size = k := by rw [ByteArray.size_extract]; omega
    by_cases h0 : k = 0
    · subst h0
      have he : s.extract 0 0 = ⟨#[]⟩ := by
        apply ByteArray.ext
        apply Array.ext'
        rw [extract_to]
        rfl
      rw [he]
      refine (pub_syntax ⟨#[]⟩ b 64 0 (fun w => (parseUint_empty b 64 w).mono fun e w' ⟨he, hw⟩ => ⟨he, by rw [hw]; exact Below.refl _ _⟩) (by simp [ByteArray.size]) w hg).mono ?_
      rintro e w' ⟨⟨N, rfl⟩, hb⟩
      exact ⟨⟨_, rfl⟩, hb⟩
    · refine (pub_ok _ b 64 18446744073709551615 (val b (s.data.toList.take k) 0) (fun w => ?_) w).mono ?_
      · have h := h64 (s.extract 0 k) (by omega) (by omega) w
        have hlt := val_lt b (s.data.toList.take k) 0 hall
        have hpow : b ^ (s.data.toList.take k).length ≤ 16 ^ 8 := by
          refine Nat.le_trans (Nat.pow_le_pow_left hb16 _) (Nat.pow_le_pow_right (by omega) ?_)
          rw [List.length_take]
          omega
        have h16 : 16 ^ 8 = 4294967296 := by decide
        rw [extract_to, pu_ok b _ hb1 _ 0 hall (by omega)] at h
        exact h
      · rintro e w' ⟨rfl, hb⟩
        exact ⟨⟨_, rfl⟩, hb⟩
  have HO := Lib.hid one_ok
  have HX := Lib.hid one_bad
  have HA := Lib.hid all_ok
  have HG := Aside0.mk hg
  clear h8 h64 one_ok one_bad all_ok hg
  obtain ⟨M, hM, hMm, hMs, hMe⟩ : ∃ M : Nat, (if (s.size : Int) < (most : Int) then (s.size : Int) else (most : Int)) = (M : Int) ∧ M ≤ most ∧ M ≤ s.size ∧ (M = most ∨ M = s.size) := by
    refine ⟨min most s.size, ?_, by omega, by omega, by omega⟩
    split <;> omega
  have HM := Lib.hid hMe
  clear hMe
  go_enter Tryz.func76, Tryz.ntmps76
  go_wp2
  go_loopw [7] (fun v wr => ∃ k : Nat, v = .int .i64 k ∧ k ≤ M ∧ Aside0 (∀ c ∈ s.data.toList.take k, dig c < b) ∧ Aside0 (Below w.heap.size w wr))
    (fun v _ => M - (intOf v).toNat)
  case atStart => exact ⟨0, rfl, Nat.zero_le _, ⟨by simp⟩, ⟨Below.refl _ _⟩⟩
  case round =>
    obtain ⟨k, rfl, hk, hall, hB⟩ := hrel
    have hall2 := hall.out
    by_cases hkM : k < M
    · have hks : k < s.size := by omega
      by_cases hd : dig (s[k]'hks) < b
      · have HC := Lib.hid (HO.out k hks hd)
        have hi1 : (k : Int) + 1 ≤ (s.size : Int) := by omega
        have hi2 : (k : Int) ≤ (k : Int) + 1 := by omega
        go_wp2_with (go_at_call 27; refine (HC.out _).mono ?_; rintro e w1 ⟨rfl, hb⟩; have HB1 := Aside0.mk (below_then hB.out hB.out.size hb); clear hb)
        go_roundw
        case rel =>
          refine ⟨k + 1, by go_num, by omega, ⟨?_⟩, HB1⟩
          rw [List.take_succ_eq_append_getElem (by omega)]
          intro c hc
          rcases List.mem_append.1 hc with hc | hc
          · exact hall2 c hc
          · simp at hc
            rw [hc]
            exact hd
        case measure => simp [intOf]; omega
      · have HC := Lib.hid (HX.out k hks hd _ (GV.below HG.out hB.out))
        have hdg := digN_eq b most s.data.toList k (by omega) (by omega) hall2 (.inr (.inr ⟨by omega, hd⟩))
        have HD := Lib.hid hdg
        have HA2 := Lib.hid (HA.out k (by omega) (by omega) hall2)
        have hi1 : (k : Int) + 1 ≤ (s.size : Int) := by omega
        have hi2 : (k : Int) ≤ (k : Int) + 1 := by omega
        have hi3 : (k : Int) ≤ (s.size : Int) := by omega
        clear hall2 hdg
        go_wp2_with (first | (go_at_call 27; (with_reducible refine HC.out.mono ?_); rintro e w1 ⟨⟨N, rfl⟩, hb⟩; have HB1 := Aside0.mk (below_then hB.out hB.out.size hb); clear hb) | (go_at_call 27; (with_reducible refine (HA2.out _ (GV.below HG.out HB1.out)).mono ?_); rintro e w2 ⟨⟨err, rfl⟩, hb⟩; have HB2 := Aside0.mk (below_then HB1.out HB1.out.size hb); clear hb))
        all_goals (go_quiet (fail); go_wp2; go_ret3; exact ⟨by rw [HD.out]; rfl, pw_below_drewN HB2.out _⟩)
    · have hdg := digN_eq b most s.data.toList k (by omega) (by omega) hall2 (by have := HM.out; omega)
      have HD := Lib.hid hdg
      have HA2 := Lib.hid (HA.out k (by omega) (by omega) hall2)
      have hi3 : (k : Int) ≤ (s.size : Int) := by omega
      clear hall2 hdg
      go_wp2_with (go_at_call 27; (with_reducible refine (HA2.out _ (GV.below HG.out hB.out)).mono ?_); rintro e w2 ⟨⟨err, rfl⟩, hb⟩; have HB2 := Aside0.mk (below_then hB.out hB.out.size hb); clear hb)
      all_goals (go_quiet (fail); go_wp2; go_ret3; exact ⟨by rw [HD.out]; rfl, pw_below_drewN HB2.out _⟩)
end Go.Proofs.YtihidbjffclfkaaGreatDoor.PLex
