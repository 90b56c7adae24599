import Derived.Test.YtmgpnomphfeoiaaGreatDoorGoodE
namespace Go.AM
set_option maxRecDepth 100000
theorem good128 : (good 128 && good 129 && good 130 && good 131) = true := by decide +kernel
theorem good132 : (good 132 && good 133 && good 134 && good 135) = true := by decide +kernel
theorem good136 : (good 136 && good 137 && good 138 && good 139) = true := by decide +kernel
theorem good140 : (good 140 && good 141 && good 142 && good 143) = true := by decide +kernel
theorem good144 : (good 144 && good 145 && good 146 && good 147) = true := by decide +kernel
theorem good148 : (good 148 && good 149 && good 150 && good 151) = true := by decide +kernel
theorem good152 : (good 152 && good 153 && good 154 && good 155) = true := by decide +kernel
theorem good156 : (good 156 && good 157 && good 158 && good 159) = true := by decide +kernel
end Go.AM
