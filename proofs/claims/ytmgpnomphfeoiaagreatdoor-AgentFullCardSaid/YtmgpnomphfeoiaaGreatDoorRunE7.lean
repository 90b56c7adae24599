import Derived.Test.YtmgpnomphfeoiaaGreatDoorGoodE
namespace Go.AM
set_option maxRecDepth 100000
theorem good224 : (good 224 && good 225 && good 226 && good 227) = true := by decide +kernel
theorem good228 : (good 228 && good 229 && good 230 && good 231) = true := by decide +kernel
theorem good232 : (good 232 && good 233 && good 234 && good 235) = true := by decide +kernel
theorem good236 : (good 236 && good 237 && good 238 && good 239) = true := by decide +kernel
theorem good240 : (good 240 && good 241 && good 242 && good 243) = true := by decide +kernel
theorem good244 : (good 244 && good 245 && good 246 && good 247) = true := by decide +kernel
theorem good248 : (good 248 && good 249 && good 250 && good 251) = true := by decide +kernel
theorem good252 : (good 252 && good 253 && good 254 && good 255) = true := by decide +kernel
end Go.AM
