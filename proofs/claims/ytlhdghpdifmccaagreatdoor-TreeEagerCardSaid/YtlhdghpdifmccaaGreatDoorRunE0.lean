import Derived.Test.YtlhdghpdifmccaaGreatDoorGoodE
namespace Go.AM
set_option maxRecDepth 100000
theorem good0 : (good 0 0 && good 0 1 && good 0 2 && good 0 3) = true := by decide +kernel
theorem good4 : (good 4 0 && good 4 1 && good 4 2 && good 4 3) = true := by decide +kernel
theorem good8 : (good 8 0 && good 8 1 && good 8 2 && good 8 3) = true := by decide +kernel
theorem good12 : (good 12 0 && good 12 1 && good 12 2 && good 12 3) = true := by decide +kernel
theorem good16 : (good 16 0 && good 16 1 && good 16 2 && good 16 3) = true := by decide +kernel
theorem good20 : (good 20 0 && good 20 1 && good 20 2 && good 20 3) = true := by decide +kernel
theorem good24 : (good 24 0 && good 24 1 && good 24 2 && good 24 3) = true := by decide +kernel
theorem good28 : (good 28 0 && good 28 1 && good 28 2 && good 28 3) = true := by decide +kernel
theorem good32 : (good 32 0 && good 32 1 && good 32 2 && good 32 3) = true := by decide +kernel
theorem good36 : (good 36 0 && good 36 1 && good 36 2 && good 36 3) = true := by decide +kernel
theorem good40 : (good 40 0 && good 40 1 && good 40 2 && good 40 3) = true := by decide +kernel
theorem good44 : (good 44 0 && good 44 1 && good 44 2 && good 44 3) = true := by decide +kernel
theorem good48 : (good 48 0 && good 48 1 && good 48 2 && good 48 3) = true := by decide +kernel
theorem good52 : (good 52 0 && good 52 1 && good 52 2 && good 52 3) = true := by decide +kernel
theorem good56 : (good 56 0 && good 56 1 && good 56 2 && good 56 3) = true := by decide +kernel
theorem good60 : (good 60 0 && good 60 1 && good 60 2 && good 60 3) = true := by decide +kernel
end Go.AM
