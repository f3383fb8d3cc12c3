/- Part of the proof: what it uses of HMap. -/
import Derived.Maps.OwnOps
import Derived.Maps.OwnSet
import Derived.Maps.Views
import Derived.Test.YtihidbjffclfkaaGreatDoorBHSpec2
import Derived.Test.YtihidbjffclfkaaGreatDoorBPLex0
namespace Go.Proofs.YtihidbjffclfkaaGreatDoor.PLex
open Go.RowKit Go.Maps Go.Proofs.YtihidbjffclfkaaGreatDoorW.PrintWords Go.Proofs.YtihidbjffclfkaaGreatDoorW.PrintLast Go.Proofs.YtihidbjffclfkaaGreatDoorW.PrintMore Go.Proofs.YtihidbjffclfkaaGreatDoor.Lx
set_option linter.unusedVariables false
set_option linter.unusedSimpArgs false
section
variable {P : Program} {ops : Array Oper} {rest : List Oper} {o : Oper} {a : Act} {Q : Exit → Act → World → Prop}
theorem gate_insert {w : World} (t : TypeId) (m x v : Operand) (h : o.op = Op.insert t m x v) (h2 : wpList P ops Q (o :: rest) a w) : wpList P ops Q (o :: rest) a w := h2
theorem gate_lookup {w : World} (t : TypeId) (m x : Operand) (h : o.op = Op.lookup t m x true) (h2 : wpList P ops Q (o :: rest) a w) : wpList P ops Q (o :: rest) a w := h2
theorem keyOf_u8 {k : TypeId} (hk : P.underlying k = some (.int .u8)) (c : Int) (hc : (Lit.int .u8 c).wf = true) : keyOf P k (.int .u8 c) = some (.int .u8 c) := by
  simp [keyOf, mapKey, hk, hc]
theorem wpList_insert_u8 (w : World) (hg : o.guard = none) (m x v : Operand) (t : TypeId) (hop : o.op = Op.insert t m x v)
    (k e : TypeId) (ht : P.underlying t = some (.map k e)) (hk : P.underlying k = some (.int .u8)) (he : P.underlying e = some (.int .u8)) (b n : Nat) (D : DataW Unit)
    (hm : a.eval m = .map (some b)) (hown : w.ownsMap P k (plainElem P e) b n D) (hn : n < 1000) (c d : Int) (hx : a.eval x = .int .u8 c) (hv : a.eval v = .int .u8 d) (hc : (Lit.int .u8 c).wf = true) (hd : (Lit.int .u8 d).wf = true)
    (hK : ∀ w', w'.ownsMap P k (plainElem P e) b (n + 1) (D.put (.int .u8 c) (.lit (.int .u8 d))) → w.grownBy w' (some b) → wpList P ops Q rest (a.put o.dst undef) w') :
    wpList P ops Q (o :: rest) a w := by
  refine wpList_plain hg fun K' hK' => ?_
  obtain ⟨w', hrun, r1, r2⟩ := hown.update (int_keyed hk) ht (by simp only [maxLen]; omega) (keyOf_u8 hk c hc) (plainElem_int he hd)
  unfold Oper.wp
  simp [execOp, hop, hm, hx, hv, hrun, Result.andThen]
  exact hK' _ _ (hK w' r1 r2)
end
def mapOf (l : List (Nat × Nat)) : DataW Unit := l.foldl (fun D p => D.put (.int .u8 p.1) (.lit (.int .u8 p.2))) (.map [])
def isByte (d : DataW Unit) (v : Nat) : Bool := match d with | .lit (.int .u8 x) => x == (v : Int) | _ => false
theorem isByte_eq {d : DataW Unit} {v : Nat} {c : Int} (h : isByte d v = true) (hd : d = .lit (.int .u8 c)) : c = v := by
  subst hd
  simpa [isByte] using h
theorem escs_has_nat : ∀ n : Nat, n < 256 → Maps.has (mapOf escs) (.int .u8 (n : Int)) = ((escs.find? fun p => p.1 == n).isSome) := by decide +kernel
theorem escs_at_nat : ∀ n : Nat, n < 256 → isByte ((mapOf escs).atKey (.int .u8 (n : Int)) (.lit (.int .u8 0))) (((escs.find? fun p => p.1 == n).map (·.2)).getD 0) = true := by decide +kernel
theorem escs_has (c : UInt8) : Maps.has (mapOf escs) (.int .u8 (c.toNat : Int)) = (esc1 c).isSome := by
  rw [escs_has_nat _ c.toNat_lt]
  simp [esc1]
theorem escs_at (c : UInt8) {x : Int} (h : (mapOf escs).atKey (.int .u8 (c.toNat : Int)) (.lit (.int .u8 0)) = .lit (.int .u8 x)) : x = ((esc1 c).getD 0 : Nat) :=
  isByte_eq (escs_at_nat _ c.toNat_lt) h
end Go.Proofs.YtihidbjffclfkaaGreatDoor.PLex
