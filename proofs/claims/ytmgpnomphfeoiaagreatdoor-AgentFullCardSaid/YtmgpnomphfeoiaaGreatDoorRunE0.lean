import Derived.Test.YtmgpnomphfeoiaaGreatDoorGoodE
namespace Go.AM
set_option maxRecDepth 100000
theorem good0 : (good 0 && good 1 && good 2 && good 3) = true := by decide +kernel
theorem good4 : (good 4 && good 5 && good 6 && good 7) = true := by decide +kernel
theorem good8 : (good 8 && good 9 && good 10 && good 11) = true := by decide +kernel
theorem good12 : (good 12 && good 13 && good 14 && good 15) = true := by decide +kernel
theorem good16 : (good 16 && good 17 && good 18 && good 19) = true := by decide +kernel
theorem good20 : (good 20 && good 21 && good 22 && good 23) = true := by decide +kernel
theorem good24 : (good 24 && good 25 && good 26 && good 27) = true := by decide +kernel
theorem good28 : (good 28 && good 29 && good 30 && good 31) = true := by decide +kernel
end Go.AM
