/- LockNil and LockNames, run. -/
import Derived.Test.YtdppeaciahdekaaGreatRunLNa
namespace Go.Sim.LN
set_option maxRecDepth 1000000
theorem names : okRet (run1 8 [] ⟨0, .leaf⟩) = true := by kernel_rfl
theorem nil : okRet (run1 6 [.part .i64 0 0 (-9223372036854775808) 9223372036854775807] ⟨0, .leaf⟩) = true := by kernel_rfl
end Go.Sim.LN
