import Derived.Test.YtmgpnomphfeoiaaGreatDoorGoodE
namespace Go.AM
set_option maxRecDepth 100000
theorem good32 : (good 32 && good 33 && good 34 && good 35) = true := by decide +kernel
theorem good36 : (good 36 && good 37 && good 38 && good 39) = true := by decide +kernel
theorem good40 : (good 40 && good 41 && good 42 && good 43) = true := by decide +kernel
theorem good44 : (good 44 && good 45 && good 46 && good 47) = true := by decide +kernel
theorem good48 : (good 48 && good 49 && good 50 && good 51) = true := by decide +kernel
theorem good52 : (good 52 && good 53 && good 54 && good 55) = true := by decide +kernel
theorem good56 : (good 56 && good 57 && good 58 && good 59) = true := by decide +kernel
theorem good60 : (good 60 && good 61 && good 62 && good 63) = true := by decide +kernel
end Go.AM
