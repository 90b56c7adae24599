import Derived.Test.YtmgpnomphfeoiaaGreatDoorGoodE
namespace Go.AM
set_option maxRecDepth 100000
theorem good96 : (good 96 && good 97 && good 98 && good 99) = true := by decide +kernel
theorem good100 : (good 100 && good 101 && good 102 && good 103) = true := by decide +kernel
theorem good104 : (good 104 && good 105 && good 106 && good 107) = true := by decide +kernel
theorem good108 : (good 108 && good 109 && good 110 && good 111) = true := by decide +kernel
theorem good112 : (good 112 && good 113 && good 114 && good 115) = true := by decide +kernel
theorem good116 : (good 116 && good 117 && good 118 && good 119) = true := by decide +kernel
theorem good120 : (good 120 && good 121 && good 122 && good 123) = true := by decide +kernel
theorem good124 : (good 124 && good 125 && good 126 && good 127) = true := by decide +kernel
end Go.AM
