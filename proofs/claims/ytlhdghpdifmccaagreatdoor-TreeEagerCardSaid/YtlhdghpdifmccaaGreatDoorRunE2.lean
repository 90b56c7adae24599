import Derived.Test.YtlhdghpdifmccaaGreatDoorGoodE
namespace Go.AM
set_option maxRecDepth 100000
theorem good2 : (good 2 0 && good 2 1 && good 2 2 && good 2 3) = true := by decide +kernel
theorem good6 : (good 6 0 && good 6 1 && good 6 2 && good 6 3) = true := by decide +kernel
theorem good10 : (good 10 0 && good 10 1 && good 10 2 && good 10 3) = true := by decide +kernel
theorem good14 : (good 14 0 && good 14 1 && good 14 2 && good 14 3) = true := by decide +kernel
theorem good18 : (good 18 0 && good 18 1 && good 18 2 && good 18 3) = true := by decide +kernel
theorem good22 : (good 22 0 && good 22 1 && good 22 2 && good 22 3) = true := by decide +kernel
theorem good26 : (good 26 0 && good 26 1 && good 26 2 && good 26 3) = true := by decide +kernel
theorem good30 : (good 30 0 && good 30 1 && good 30 2 && good 30 3) = true := by decide +kernel
theorem good34 : (good 34 0 && good 34 1 && good 34 2 && good 34 3) = true := by decide +kernel
theorem good38 : (good 38 0 && good 38 1 && good 38 2 && good 38 3) = true := by decide +kernel
theorem good42 : (good 42 0 && good 42 1 && good 42 2 && good 42 3) = true := by decide +kernel
theorem good46 : (good 46 0 && good 46 1 && good 46 2 && good 46 3) = true := by decide +kernel
theorem good50 : (good 50 0 && good 50 1 && good 50 2 && good 50 3) = true := by decide +kernel
theorem good54 : (good 54 0 && good 54 1 && good 54 2 && good 54 3) = true := by decide +kernel
theorem good58 : (good 58 0 && good 58 1 && good 58 2 && good 58 3) = true := by decide +kernel
theorem good62 : (good 62 0 && good 62 1 && good 62 2 && good 62 3) = true := by decide +kernel
end Go.AM
