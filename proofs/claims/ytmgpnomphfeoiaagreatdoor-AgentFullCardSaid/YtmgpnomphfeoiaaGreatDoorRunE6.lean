import Derived.Test.YtmgpnomphfeoiaaGreatDoorGoodE
namespace Go.AM
set_option maxRecDepth 100000
theorem good192 : (good 192 && good 193 && good 194 && good 195) = true := by decide +kernel
theorem good196 : (good 196 && good 197 && good 198 && good 199) = true := by decide +kernel
theorem good200 : (good 200 && good 201 && good 202 && good 203) = true := by decide +kernel
theorem good204 : (good 204 && good 205 && good 206 && good 207) = true := by decide +kernel
theorem good208 : (good 208 && good 209 && good 210 && good 211) = true := by decide +kernel
theorem good212 : (good 212 && good 213 && good 214 && good 215) = true := by decide +kernel
theorem good216 : (good 216 && good 217 && good 218 && good 219) = true := by decide +kernel
theorem good220 : (good 220 && good 221 && good 222 && good 223) = true := by decide +kernel
end Go.AM
