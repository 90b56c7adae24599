import Derived.Test.YtmgpnomphfeoiaaGreatDoorGoodE
namespace Go.AM
set_option maxRecDepth 100000
theorem good160 : (good 160 && good 161 && good 162 && good 163) = true := by decide +kernel
theorem good164 : (good 164 && good 165 && good 166 && good 167) = true := by decide +kernel
theorem good168 : (good 168 && good 169 && good 170 && good 171) = true := by decide +kernel
theorem good172 : (good 172 && good 173 && good 174 && good 175) = true := by decide +kernel
theorem good176 : (good 176 && good 177 && good 178 && good 179) = true := by decide +kernel
theorem good180 : (good 180 && good 181 && good 182 && good 183) = true := by decide +kernel
theorem good184 : (good 184 && good 185 && good 186 && good 187) = true := by decide +kernel
theorem good188 : (good 188 && good 189 && good 190 && good 191) = true := by decide +kernel
end Go.AM
