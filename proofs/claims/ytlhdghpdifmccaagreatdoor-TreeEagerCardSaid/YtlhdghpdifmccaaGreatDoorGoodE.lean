import Derived.Test.YtlhdghpdifmccaaGreatDoorLitE
namespace Go.AM
noncomputable section
def u8s (l : List Nat) : Value := setV (l.map fun n => .int .u8 (Int.ofNat n))
/-- The links' byte, of which the six lowest bits alone are known. -/
def lk (n : Nat) : Value := u8s [n, n + 64, n + 128, n + 192]
/-- The node, of which the rest by four alone is known. -/
def at4 (r : Nat) : Value := u8s ((List.range 64).map fun j => 4 * j + r)
def good (n r : Nat) : Bool := okB (fast X ftab 100000 4 [lk n, at4 r] σ0)
end
end Go.AM
