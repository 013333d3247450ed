/- A part of the proof. -/
import Derived.Test.YtdlcimoofbhfaaaGreatEvV
set_option linter.all false
set_option linter.unusedVariables false
namespace Go.Ev
def w64 (x : Int) : Int := IntKind.i64.wrap x
def andI (k : IntKind) (a b : Int) : Int := k.wrap (BitVec.ofInt k.bits a &&& BitVec.ofInt k.bits b).toNat
def orI (k : IntKind) (a b : Int) : Int := k.wrap (BitVec.ofInt k.bits a ||| BitVec.ofInt k.bits b).toNat
def xorI (k : IntKind) (a b : Int) : Int := k.wrap (BitVec.ofInt k.bits a ^^^ BitVec.ofInt k.bits b).toNat
def andNotI (k : IntKind) (a b : Int) : Int := k.wrap (BitVec.ofInt k.bits a &&& ~~~(BitVec.ofInt k.bits b)).toNat
def bytesStr (l : List Int) : List UInt8 := l.map fun (n : Int) => UInt8.ofNat n.toNat
def minI2 (x y : Int) : Int := if y < x then y else x
def maxI2 (x y : Int) : Int := if x < y then y else x
end Go.Ev
namespace Go.Ev
def insertO {α : Type} (s : List α) (i : Int) (v : List α) : Option (List α) :=
  if 0 ≤ i ∧ i ≤ (s.length : Int) ∧ s.length + v.length ≤ bound then some (s.take i.toNat ++ v ++ s.drop i.toNat) else none
def indexByteAt : List UInt8 → Int → Nat → Int
  | [], _, _ => -1
  | b :: r, c, n => if (b.toNat : Int) = c then (n : Int) else indexByteAt r c (n + 1)
end Go.Ev
