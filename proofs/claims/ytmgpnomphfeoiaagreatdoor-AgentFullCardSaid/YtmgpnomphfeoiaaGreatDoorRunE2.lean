import Derived.Test.YtmgpnomphfeoiaaGreatDoorGoodE
namespace Go.AM
set_option maxRecDepth 100000
theorem good64 : (good 64 && good 65 && good 66 && good 67) = true := by decide +kernel
theorem good68 : (good 68 && good 69 && good 70 && good 71) = true := by decide +kernel
theorem good72 : (good 72 && good 73 && good 74 && good 75) = true := by decide +kernel
theorem good76 : (good 76 && good 77 && good 78 && good 79) = true := by decide +kernel
theorem good80 : (good 80 && good 81 && good 82 && good 83) = true := by decide +kernel
theorem good84 : (good 84 && good 85 && good 86 && good 87) = true := by decide +kernel
theorem good88 : (good 88 && good 89 && good 90 && good 91) = true := by decide +kernel
theorem good92 : (good 92 && good 93 && good 94 && good 95) = true := by decide +kernel
end Go.AM
