/- Texts put together: Flt. -/
import Derived.Test.YtnplgklnkcjmnaaGreatDoorDictUpdateM8
import Ieee.Arith
namespace Go.Proofs.YtnplgklnkcjmnaaGreatDoor.Flt
set_option linter.unusedVariables false
set_option linter.unusedSimpArgs false

/-- 2^52. -/
def B : Nat := 4503599627370496
def infR : Nat := 9218868437227405312
def nanW : Nat := 9221120237041090561
def sgnW : Nat := 9223372036854775808
def maxW : Nat := 18446744073709551616

/-- A rung's magnitude, in units of 2^-1074. -/
def V (r : Nat) : Nat := if r < B then r else (B + r % B) * 2 ^ (r / B - 1)

def up (n l : Nat) : Nat := if 2 ^ l < 2 * (n % 2 ^ l) ∨ (2 ^ l = 2 * (n % 2 ^ l) ∧ n / 2 ^ l % 2 = 1) then 1 else 0
/-- n / 2^l, to the nearest, and to the even one. -/
def cut (n l : Nat) : Nat := n / 2 ^ l + up n l
/-- The rung nearest to a magnitude. -/
def RN (n : Nat) : Nat := min ((n.log2 - 52) * B + cut n (n.log2 - 52)) infR

/-! ### What a word stands for -/
def mag (w : Nat) : Nat := w % sgnW
def neg (w : Nat) : Bool := w / sgnW % 2 == 1
def sv (w : Nat) : Int := if neg w then -(V (mag w) : Nat) else (V (mag w) : Nat)

/-! ### Order -/
/-! ### V rises -/
/-! ### Rounding what needs none -/
/-! ### Sums -/
/-! ### The document's functions, on words -/
def canon (w : Nat) : Nat := if infR < mag w then nanW else if mag w = 0 then 0 else w
def kind (w : Nat) : Nat := if infR < mag w then 3 else if mag w = infR then 2 else if mag w = 0 then 0 else 1
def rank (w : Nat) : Nat := if canon w < sgnW then canon w + sgnW else maxW - 1 - canon w
def less (a b : Nat) : Bool := decide (rank a < rank b)
def back (r : Nat) : Nat := if r < sgnW then maxW - 1 - r else r - sgnW
def wordOk (r : Nat) : Bool := decide (canon (back r) = back r ∧ rank (back r) = r)
def word (r : Nat) : Nat := if wordOk r then back r else 0
def sumFin (a b : Nat) : Nat := if sv a + sv b = 0 then 0 else (if sv a + sv b < 0 then sgnW else 0) + RN (sv a + sv b).natAbs
def sum (a b : Nat) : Nat :=
  if infR < mag a ∨ infR < mag b then nanW
  else if mag a = infR then (if mag b = infR ∧ neg a ≠ neg b then nanW else a)
  else if mag b = infR then b
  else sumFin a b

end Go.Proofs.YtnplgklnkcjmnaaGreatDoor.Flt
