/- PortUsuals, for each class, port and bit. -/
import Derived.Test.YtkhjgccgijdejaaRunPTw
namespace Go.Sim.PT
set_option maxRecDepth 1000000
noncomputable def uOK (c : AVal) (m v : Nat) : Bool := bitL.all fun b => okRet (run1 5 [c, pp m v, b] ⟨0, .leaf⟩)
theorem uLow : okRet (run1 5 [.part .i64 0 0 (-9223372036854775808) 0, pp 0 0, .part .i64 0 0 (-9223372036854775808) 9223372036854775807] ⟨0, .leaf⟩) = true := by kernel_rfl
theorem uHigh : okRet (run1 5 [.part .i64 0 0 9 9223372036854775807, pp 0 0, .part .i64 0 0 (-9223372036854775808) 9223372036854775807] ⟨0, .leaf⟩) = true := by kernel_rfl
theorem u8 : uOK (.int .i64 8) 0 0 = true := by kernel_rfl
theorem u1z : uOK (.int .i64 1) 1 0 = true := by kernel_rfl
theorem u1o : uOK (.int .i64 1) 1 1 = true := by kernel_rfl
theorem u2 : uOK (.int .i64 2) 49154 16384 = true := by kernel_rfl
theorem u2x1 : uOK (.int .i64 2) 2 2 = true := by kernel_rfl
theorem u2x14 : uOK (.int .i64 2) 16384 0 = true := by kernel_rfl
theorem u2x15 : uOK (.int .i64 2) 32768 32768 = true := by kernel_rfl
theorem u3 : uOK (.int .i64 3) 61442 4096 = true := by kernel_rfl
theorem u3x1 : uOK (.int .i64 3) 2 2 = true := by kernel_rfl
theorem u3x12 : uOK (.int .i64 3) 4096 0 = true := by kernel_rfl
theorem u3x13 : uOK (.int .i64 3) 8192 8192 = true := by kernel_rfl
theorem u3x14 : uOK (.int .i64 3) 16384 16384 = true := by kernel_rfl
theorem u3x15 : uOK (.int .i64 3) 32768 32768 = true := by kernel_rfl
theorem u4 : uOK (.int .i64 4) 49154 49152 = true := by kernel_rfl
theorem u4x1 : uOK (.int .i64 4) 2 2 = true := by kernel_rfl
theorem u4x14 : uOK (.int .i64 4) 16384 0 = true := by kernel_rfl
theorem u4x15 : uOK (.int .i64 4) 32768 0 = true := by kernel_rfl
theorem u5 : uOK (.int .i64 5) 49154 32768 = true := by kernel_rfl
theorem u5x1 : uOK (.int .i64 5) 2 2 = true := by kernel_rfl
theorem u5x14 : uOK (.int .i64 5) 16384 16384 = true := by kernel_rfl
theorem u5x15 : uOK (.int .i64 5) 32768 0 = true := by kernel_rfl
theorem u6 : uOK (.int .i64 6) 61442 8192 = true := by kernel_rfl
theorem u6x1 : uOK (.int .i64 6) 2 2 = true := by kernel_rfl
theorem u6x12 : uOK (.int .i64 6) 4096 4096 = true := by kernel_rfl
theorem u6x13 : uOK (.int .i64 6) 8192 0 = true := by kernel_rfl
theorem u6x14 : uOK (.int .i64 6) 16384 16384 = true := by kernel_rfl
theorem u6x15 : uOK (.int .i64 6) 32768 32768 = true := by kernel_rfl
theorem u7 : uOK (.int .i64 7) 61442 12288 = true := by kernel_rfl
theorem u7x1 : uOK (.int .i64 7) 2 2 = true := by kernel_rfl
theorem u7x12 : uOK (.int .i64 7) 4096 0 = true := by kernel_rfl
theorem u7x13 : uOK (.int .i64 7) 8192 0 = true := by kernel_rfl
theorem u7x14 : uOK (.int .i64 7) 16384 16384 = true := by kernel_rfl
theorem u7x15 : uOK (.int .i64 7) 32768 32768 = true := by kernel_rfl
end Go.Sim.PT
