/- Part of the proof: what it uses of HRune. -/
import Derived.Lib.FrozenHead
import Derived.Lib.Hide
import Derived.Test.YtihidbjffclfkaaGreatDoorBHShelf
import Derived.Test.YtihidbjffclfkaaGreatDoorBHSpec2
import Derived.Test.YtihidbjffclfkaaGreatDoorBPLex0
import Derived.WalkSpells
namespace Go.Proofs.YtihidbjffclfkaaGreatDoor.PLex
open Go.RowKit Go.Proofs.YtihidbjffclfkaaGreatDoorW.PrintWords Go.Proofs.YtihidbjffclfkaaGreatDoorW.PrintLast Go.Proofs.YtihidbjffclfkaaGreatDoorW.PrintMore Go.Proofs.YtihidbjffclfkaaGreatDoor.Lx
set_option linter.unusedVariables false
set_option linter.unusedSimpArgs false
set_option maxRecDepth 100000 in
theorem Clone_nil (w : World) :
    Calls Tryz.prog 93 #[.slice none 0 0] w fun e w' => e = .returned (.slice none 0 0) ∧ w' = w := by
  have hnil : ∀ w : World, (binOp .eql 29 (.slice none 0 0) (.slice none 0 0)).run Tryz.prog w = .ok (.bool true) w := fun w => run_eql_nil_slice w 29 5 none 0 0 0 0 Tryz.underlying29
  go_enter Tryz.func93, Tryz.ntmps93
  go_wp2
  go_ret
  exact ⟨rfl, rfl⟩
theorem reads_of_ownF {w : World} {B : Nat} {v : Value} {l : List UInt8} (h : w.ownsRowF B 5 1 v l.length ((bl l).map fun x => .int .u8 x)) : ∃ A c, v = .slice A l.length c ∧ l.length ≤ c ∧ Kd.C (Kd.int .u8) w A l.length (bl l) := by
  rcases h.2 with ⟨rfl, h0⟩ | ⟨g, cap, cur, z, rfl, hb, hh, h1, h2, h3, h4⟩
  · have : l = [] := List.eq_nil_of_length_eq_zero h0
    subst this
    exact ⟨none, 0, rfl, Nat.le_refl _, Kd.C_nil _ _⟩
  · refine ⟨_, cap, rfl, h2, Kd.C_of_reads (d := (0 : Int)) (h1 := fun _ => rfl) ⟨by simp [bl], by simp only [maxLen] at h3; omega, fun hn => ⟨_, rfl, fun j hj => ?_⟩⟩⟩
    have hc := h.cells (g := g) rfl j (.int .u8 ((bl l).getD j 0)) (by
      have hj2 : j < (bl l).length := by simpa [bl] using hj
      rw [List.getElem?_map, List.getElem?_eq_getElem hj2]
      simp [List.getD, List.getElem?_eq_getElem hj2])
    exact hc
theorem encode_bl (n : Nat) : bl (Lib.encodeRune n) = Lib.encodeRuneZ n := by
  unfold bl Lib.encodeRune
  rw [List.map_map]
  conv => rhs; rw [← List.map_id (Lib.encodeRuneZ n)]
  apply List.map_congr_left
  intro x hx
  have h := Lib.encodeRuneZ_byte n x hx
  simp [UInt8.toNat_ofNat']
  omega
theorem Rune_bad (n : Nat) (hn : n ≤ 4294967295) (hv : Lib.validRune n = false) (w : World) :
    Calls Tryz.prog 77 #[.slice none 0 0, .int .i64 n] w fun e w' => e = .returned (.tuple #[.slice none 0 0, .int .i64 20]) ∧ w' = w := by
  by_cases hb : n ≤ 1114111
  · have h1 : (n : Int) ≤ 1114111 := by omega
    have hc := Tryz.utf8_ValidRune n
    rw [hv] at hc
    have HC := Lib.hid hc
    clear hc hv hb
    go_enter Tryz.func77, Tryz.ntmps77
    go_wp2_with (go_at_call 92; refine (HC.out _).mono ?_; rintro e w' ⟨rfl, rfl⟩)
    go_ret2
    exact ⟨rfl, rfl⟩
  · have h1 : 1114111 < (n : Int) := by omega
    clear hv hb
    go_enter Tryz.func77, Tryz.ntmps77
    go_wp2
    go_ret2
    exact ⟨rfl, rfl⟩
def Bytes1 (w : World) (l : List UInt8) (x : Int) (e : Ending) (w' : World) : Prop := (∃ A c, e = .returned (.tuple #[.slice A l.length c, .int .i64 x]) ∧ l.length ≤ c ∧ Kd.C (Kd.int .u8) w' A l.length (bl l)) ∧ Below w.heap.size w w'
theorem Rune_ok (n : Nat) (hn : n ≤ 1114111) (hv : Lib.validRune n = true) (w : World) :
    Calls Tryz.prog 77 #[.slice none 0 0, .int .i64 n] w fun e w' => Bytes1 w (Lib.encodeRune n) 0 e w' := by
  have h1 : (n : Int) ≤ 1114111 := by omega
  have hc := Tryz.utf8_ValidRune n
  rw [hv] at hc
  have HC := Lib.hid hc
  have ha : ∀ w : World, Calls Tryz.prog 87 #[.slice none 0 0, .int .i32 n] w fun e w' => ∃ A c, e = .returned (.slice A (Lib.encodeRune n).length c) ∧ (Lib.encodeRune n).length ≤ c ∧ Kd.C (Kd.int .u8) w' A (Lib.encodeRune n).length (bl (Lib.encodeRune n)) ∧ Below w.heap.size w w' := by
    intro w
    refine (Tryz.utf8_AppendRune_row w.heap.size (.slice none 0 0) 0 [] n (by omega) (by omega) w (World.ownsRowF_nil _ _ _ _) (by omega) (Nat.le_refl _)).mono ?_
    rintro e w' ⟨v', rfl, ho, o, hg⟩
    have hlen : (Lib.runeCells n).length = (Lib.encodeRune n).length := Lib.runeCells_length _
    have hcs : Lib.runeCells n = (bl (Lib.encodeRune n)).map fun x => Value.int .u8 x := by rw [encode_bl]; rfl
    rw [Nat.zero_add, List.nil_append, hlen, hcs] at ho
    obtain ⟨A, c, rfl, hc, hC⟩ := reads_of_ownF ho
    exact ⟨A, c, rfl, hc, hC, (below_alloc (Below.refl _ _) o).grown hg (by simp) (fun k hk => by simp [Value.ownBlock] at hk)⟩
  have HA := Lib.hid ha
  clear hc ha hv
  go_enter Tryz.func77, Tryz.ntmps77
  go_wp2_with (first | (go_at_call 92; refine (HC.out _).mono ?_; rintro e w' ⟨rfl, rfl⟩) | (go_at_call 93; refine (Clone_nil _).mono ?_; rintro e w' ⟨rfl, rfl⟩) | (go_at_call 87; refine (HA.out _).mono ?_; rintro e w' ⟨A, c, rfl, hc, hC, hB⟩; have HX := Lib.hid (And.intro hc (And.intro hC hB)); clear hc hC hB))
  go_ret2
  exact ⟨⟨A, c, rfl, HX.out.1, HX.out.2.1⟩, HX.out.2.2⟩
end Go.Proofs.YtihidbjffclfkaaGreatDoor.PLex
