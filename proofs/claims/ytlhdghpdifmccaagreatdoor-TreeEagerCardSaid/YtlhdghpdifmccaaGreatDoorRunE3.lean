import Derived.Test.YtlhdghpdifmccaaGreatDoorGoodE
namespace Go.AM
set_option maxRecDepth 100000
theorem good3 : (good 3 0 && good 3 1 && good 3 2 && good 3 3) = true := by decide +kernel
theorem good7 : (good 7 0 && good 7 1 && good 7 2 && good 7 3) = true := by decide +kernel
theorem good11 : (good 11 0 && good 11 1 && good 11 2 && good 11 3) = true := by decide +kernel
theorem good15 : (good 15 0 && good 15 1 && good 15 2 && good 15 3) = true := by decide +kernel
theorem good19 : (good 19 0 && good 19 1 && good 19 2 && good 19 3) = true := by decide +kernel
theorem good23 : (good 23 0 && good 23 1 && good 23 2 && good 23 3) = true := by decide +kernel
theorem good27 : (good 27 0 && good 27 1 && good 27 2 && good 27 3) = true := by decide +kernel
theorem good31 : (good 31 0 && good 31 1 && good 31 2 && good 31 3) = true := by decide +kernel
theorem good35 : (good 35 0 && good 35 1 && good 35 2 && good 35 3) = true := by decide +kernel
theorem good39 : (good 39 0 && good 39 1 && good 39 2 && good 39 3) = true := by decide +kernel
theorem good43 : (good 43 0 && good 43 1 && good 43 2 && good 43 3) = true := by decide +kernel
theorem good47 : (good 47 0 && good 47 1 && good 47 2 && good 47 3) = true := by decide +kernel
theorem good51 : (good 51 0 && good 51 1 && good 51 2 && good 51 3) = true := by decide +kernel
theorem good55 : (good 55 0 && good 55 1 && good 55 2 && good 55 3) = true := by decide +kernel
theorem good59 : (good 59 0 && good 59 1 && good 59 2 && good 59 3) = true := by decide +kernel
theorem good63 : (good 63 0 && good 63 1 && good 63 2 && good 63 3) = true := by decide +kernel
end Go.AM
