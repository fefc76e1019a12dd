/-
  The plain text of layer 14: replay windows; no program in sight.
-/
import Derived.Test.YtegngjdeifbdiaaLib
namespace Go.Proofs.Ytegngjdeifbdiaa
namespace Hub
/-- Check's error number of the window with Top t and Bits b. -/
def chk (t b : Int) : Int := if (t = -1 ∧ b = 0) ∨ (0 ≤ t ∧ t ≤ 1099511627776 ∧ b % 2 = 1 ∧ (t < 63 → b / 2 ^ (t + 1).toNat = 0)) then 0 else 2
/-- What Accept returns: Top, Bits and whether the number is accepted. -/
def acc (t b n : Int) : Int × Int × Bool :=
  if chk t b ≠ 0 ∨ n < 0 ∨ 1099511627776 < n ∨ n ≤ t - 64 then (t, b, false) else
  if t < n then (n, (((if n - t < 64 then b.toNat * 2 ^ (n - t).toNat % 18446744073709551616 else 0) ||| 1 : Nat) : Int), true) else
  if b.toNat.testBit (t - n).toNat then (t, b, false) else (t, ((b.toNat ||| 2 ^ (t - n).toNat : Nat) : Int), true)
end Hub
end Go.Proofs.Ytegngjdeifbdiaa
