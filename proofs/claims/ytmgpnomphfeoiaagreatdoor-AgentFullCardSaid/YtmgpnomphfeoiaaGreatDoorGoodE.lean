import Derived.Test.YtmgpnomphfeoiaaGreatDoorLitE
namespace Go.AM
noncomputable section
def good (n : Nat) : Bool := okB (fast X ftab 100000 3 [.int .u8 (Int.ofNat n)] σ0)
end
end Go.AM
