/- A part of the proof that LockParts returns true for every input. No condition. -/
import Derived.Test.YtdppeaciahdekaaGreatG12
set_option linter.all false
set_option maxRecDepth 1000000
namespace Go.Sim
theorem cpu_tree00 : stree cpuRun cpuChk cpuV 60 (cpuF 0 0) = true := by kernel_rfl
theorem cpu_tree01 : stree cpuRun cpuChk cpuV 60 (cpuF 0 1) = true := by kernel_rfl
theorem cpu_tree02 : stree cpuRun cpuChk cpuV 60 (cpuF 0 2) = true := by kernel_rfl
theorem cpu_tree03 : stree cpuRun cpuChk cpuV 60 (cpuF 0 3) = true := by kernel_rfl
end Go.Sim
