/- Part of the proof: what it uses of HSpec. -/
import Derived.Lib.Strings
namespace Go.Proofs.YtihidbjffclfkaaGreatDoor.Lx
def isLetter (c : UInt8) : Bool := c.toNat == 95 || (decide (97 ≤ c.toNat) && decide (c.toNat ≤ 122)) || (decide (65 ≤ c.toNat) && decide (c.toNat ≤ 90))
def isDigit (c : UInt8) : Bool := decide (48 ≤ c.toNat) && decide (c.toNat ≤ 57)
def isAl (c : UInt8) : Bool := isLetter c || isDigit c
def runB (s : ByteArray) : ByteArray := s.extract 0 (s.data.toList.takeWhile isAl).length
theorem isAl_low {c : UInt8} (h : isAl c = true) : c.toNat < 128 := by
  simp [isAl, isLetter, isDigit] at h
  omega
def low (c : UInt8) : Nat := (c ||| 32).toNat
def dig (c : UInt8) : Nat := if 48 ≤ c.toNat ∧ c.toNat ≤ 57 then c.toNat - 48 else if 97 ≤ low c ∧ low c ≤ 122 then low c - 87 else 99
inductive NumEnd where
  | ok (v : Nat)
  | synt
  | range
def pu (base maxv : Nat) : List UInt8 → Nat → NumEnd
  | [], n => .ok n
  | c :: r, n => if base ≤ dig c then .synt else if maxv < n * base + dig c then .range else pu base maxv r (n * base + dig c)
def bl (l : List UInt8) : List Int := l.map fun c => (c.toNat : Int)
end Go.Proofs.YtihidbjffclfkaaGreatDoor.Lx
