/- A part of the proof that LockParts returns true for every input. No condition. -/
import Derived.Test.YtdppeaciahdekaaGreatG12
set_option linter.all false
set_option maxRecDepth 1000000
namespace Go.Sim
theorem cpu_tree10 : stree cpuRun cpuChk cpuV 60 (cpuF 1 0) = true := by kernel_rfl
theorem cpu_tree11 : stree cpuRun cpuChk cpuV 60 (cpuF 1 1) = true := by kernel_rfl
theorem cpu_tree12 : stree cpuRun cpuChk cpuV 60 (cpuF 1 2) = true := by kernel_rfl
theorem cpu_tree13 : stree cpuRun cpuChk cpuV 60 (cpuF 1 3) = true := by kernel_rfl
end Go.Sim
