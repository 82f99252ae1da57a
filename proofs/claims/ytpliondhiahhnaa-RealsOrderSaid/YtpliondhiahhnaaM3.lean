/- PLAIN: what a pattern says, and what is reckoned of patterns. No program. -/
import Derived.Test.YtpliondhiahhnaaM1
namespace Fl
def bia (X : Nat) : Nat := 2^(X-1) - 1
def sgn (M X : Nat) (s : Bool) : Nat := if s = true then 2^(X+M) else 0
def nanc (M X : Nat) : Nat := infc M X + 2^(M-1)
/-- field, fraction, sign -/
def fd (M X a : Nat) : Nat := a / 2^M % 2^X
def fr (M a : Nat) : Nat := a % 2^M
def ng (M X a : Nat) : Bool := decide (2^(X+M) ≤ a)
/-- kind: 1 zero, 2 finite, 3 infinite, 4 no number -/
def kd (M X a : Nat) : Nat := if fd M X a = 2^X - 1 then (if fr M a = 0 then 3 else 4) else if fd M X a = 0 then (if fr M a = 0 then 1 else 2) else 2
def mn (M X a : Nat) : Nat := if kd M X a = 2 then (if fd M X a = 0 then fr M a else fr M a + 2^M) else 0
def ex (M X a : Nat) : Int := if kd M X a = 2 then (if fd M X a = 0 then 1 - bia X - M else fd M X a - bia X - M) else 0
end Fl
