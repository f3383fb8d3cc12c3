/- Part of the proof: what it uses of HSpec2. -/
import Derived.Lib.RuneBytes
import Derived.Lib.Small
import Derived.Test.YtihidbjffclfkaaGreatDoorBHSpec
namespace Go.Proofs.YtihidbjffclfkaaGreatDoor.Lx
def val (base : Nat) : List UInt8 → Nat → Nat
  | [], n => n
  | c :: r, n => val base r (n * base + dig c)
def digN (base : Nat) : Nat → List UInt8 → Nat
  | 0, _ => 0
  | _ + 1, [] => 0
  | m + 1, c :: r => if dig c < base then digN base m r + 1 else 0
def escs : List (Nat × Nat) := [(97, 7), (98, 8), (102, 12), (110, 10), (114, 13), (116, 9), (118, 11), (92, 92), (39, 39), (34, 34), (63, 63)]
def esc1 (c : UInt8) : Option Nat := (escs.find? fun p => p.1 == c.toNat).map (·.2)
def spell : List UInt8 → Option (List UInt8 × Nat)
  | [] => none
  | c :: r =>
    match esc1 c with
    | some b => some ([UInt8.ofNat b], 1)
    | none =>
      if c.toNat = 120 ∨ c.toNat = 88 then
        (if 0 < digN 16 2 r then some ([UInt8.ofNat (val 16 (r.take (digN 16 2 r)) 0)], digN 16 2 r + 1) else none)
      else if c.toNat = 117 ∨ c.toNat = 85 then
        (if digN 16 (if c.toNat = 85 then 8 else 4) r = (if c.toNat = 85 then 8 else 4) ∧ Lib.validRune (val 16 (r.take (if c.toNat = 85 then 8 else 4)) 0 : Nat) = true then
          some (Lib.encodeRune (val 16 (r.take (if c.toNat = 85 then 8 else 4)) 0 : Nat), (if c.toNat = 85 then 8 else 4) + 1) else none)
      else if 0 < digN 8 3 (c :: r) ∧ val 8 ((c :: r).take (digN 8 3 (c :: r))) 0 ≤ 255 then some ([UInt8.ofNat (val 8 ((c :: r).take (digN 8 3 (c :: r))) 0)], digN 8 3 (c :: r)) else none
end Go.Proofs.YtihidbjffclfkaaGreatDoor.Lx
