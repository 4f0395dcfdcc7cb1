/- A part of the proof that LockParts returns true for every input. No condition. -/
import Derived.Test.YtdppeaciahdekaaGreatG12
set_option linter.all false
set_option maxRecDepth 1000000
namespace Go.Sim
theorem cpu_tree30 : stree cpuRun cpuChk cpuV 60 (cpuF 3 0) = true := by kernel_rfl
theorem cpu_tree31 : stree cpuRun cpuChk cpuV 60 (cpuF 3 1) = true := by kernel_rfl
theorem cpu_tree32 : stree cpuRun cpuChk cpuV 60 (cpuF 3 2) = true := by kernel_rfl
theorem cpu_tree33 : stree cpuRun cpuChk cpuV 60 (cpuF 3 3) = true := by kernel_rfl
end Go.Sim
