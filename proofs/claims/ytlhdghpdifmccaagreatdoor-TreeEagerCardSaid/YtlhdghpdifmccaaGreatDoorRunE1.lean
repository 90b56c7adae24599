import Derived.Test.YtlhdghpdifmccaaGreatDoorGoodE
namespace Go.AM
set_option maxRecDepth 100000
theorem good1 : (good 1 0 && good 1 1 && good 1 2 && good 1 3) = true := by decide +kernel
theorem good5 : (good 5 0 && good 5 1 && good 5 2 && good 5 3) = true := by decide +kernel
theorem good9 : (good 9 0 && good 9 1 && good 9 2 && good 9 3) = true := by decide +kernel
theorem good13 : (good 13 0 && good 13 1 && good 13 2 && good 13 3) = true := by decide +kernel
theorem good17 : (good 17 0 && good 17 1 && good 17 2 && good 17 3) = true := by decide +kernel
theorem good21 : (good 21 0 && good 21 1 && good 21 2 && good 21 3) = true := by decide +kernel
theorem good25 : (good 25 0 && good 25 1 && good 25 2 && good 25 3) = true := by decide +kernel
theorem good29 : (good 29 0 && good 29 1 && good 29 2 && good 29 3) = true := by decide +kernel
theorem good33 : (good 33 0 && good 33 1 && good 33 2 && good 33 3) = true := by decide +kernel
theorem good37 : (good 37 0 && good 37 1 && good 37 2 && good 37 3) = true := by decide +kernel
theorem good41 : (good 41 0 && good 41 1 && good 41 2 && good 41 3) = true := by decide +kernel
theorem good45 : (good 45 0 && good 45 1 && good 45 2 && good 45 3) = true := by decide +kernel
theorem good49 : (good 49 0 && good 49 1 && good 49 2 && good 49 3) = true := by decide +kernel
theorem good53 : (good 53 0 && good 53 1 && good 53 2 && good 53 3) = true := by decide +kernel
theorem good57 : (good 57 0 && good 57 1 && good 57 2 && good 57 3) = true := by decide +kernel
theorem good61 : (good 61 0 && good 61 1 && good 61 2 && good 61 3) = true := by decide +kernel
end Go.AM
