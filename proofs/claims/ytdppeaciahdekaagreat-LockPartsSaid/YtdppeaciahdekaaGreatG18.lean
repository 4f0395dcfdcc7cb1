/- A part of the proof that LockParts returns true for every input. No condition. -/
import Derived.Test.YtdppeaciahdekaaGreatG12
set_option linter.all false
set_option maxRecDepth 1000000
namespace Go.Sim
theorem cpu_tree20 : stree cpuRun cpuChk cpuV 60 (cpuF 2 0) = true := by kernel_rfl
theorem cpu_tree21 : stree cpuRun cpuChk cpuV 60 (cpuF 2 1) = true := by kernel_rfl
theorem cpu_tree22 : stree cpuRun cpuChk cpuV 60 (cpuF 2 2) = true := by kernel_rfl
theorem cpu_tree23 : stree cpuRun cpuChk cpuV 60 (cpuF 2 3) = true := by kernel_rfl
end Go.Sim
