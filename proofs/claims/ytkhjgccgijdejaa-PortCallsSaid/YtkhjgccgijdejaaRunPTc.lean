/- PortCalls, for each port and class. -/
import Derived.Test.YtkhjgccgijdejaaRunPTb
namespace Go.Sim.PT
set_option maxRecDepth 1000000
noncomputable def cOK (v : Nat) : Bool := cls.all fun c => okRet (run1 6 [pp 61443 v, c] ⟨0, .leaf⟩)
theorem c0 : [0, 1, 2, 3].all cOK = true := by kernel_rfl
theorem c1 : [4096, 4097, 4098, 4099].all cOK = true := by kernel_rfl
theorem c2 : [8192, 8193, 8194, 8195].all cOK = true := by kernel_rfl
theorem c3 : [12288, 12289, 12290, 12291].all cOK = true := by kernel_rfl
theorem c4 : [16384, 16385, 16386, 16387].all cOK = true := by kernel_rfl
theorem c5 : [20480, 20481, 20482, 20483].all cOK = true := by kernel_rfl
theorem c6 : [24576, 24577, 24578, 24579].all cOK = true := by kernel_rfl
theorem c7 : [28672, 28673, 28674, 28675].all cOK = true := by kernel_rfl
theorem c8 : [32768, 32769, 32770, 32771].all cOK = true := by kernel_rfl
theorem c9 : [36864, 36865, 36866, 36867].all cOK = true := by kernel_rfl
theorem c10 : [40960, 40961, 40962, 40963].all cOK = true := by kernel_rfl
theorem c11 : [45056, 45057, 45058, 45059].all cOK = true := by kernel_rfl
theorem c12 : [49152, 49153, 49154, 49155].all cOK = true := by kernel_rfl
theorem c13 : [53248, 53249, 53250, 53251].all cOK = true := by kernel_rfl
theorem c14 : [57344, 57345, 57346, 57347].all cOK = true := by kernel_rfl
theorem c15 : [61440, 61441, 61442, 61443].all cOK = true := by kernel_rfl
theorem cAll (h : Nat) (hh : h < 16) (l : Nat) (hl : l < 4) : cOK (h * 4096 + l) = true := by
  match h, hh with
  | 0, _ => exact pick4 (a := 0) c0 l hl
  | 1, _ => exact pick4 (a := 4096) c1 l hl
  | 2, _ => exact pick4 (a := 8192) c2 l hl
  | 3, _ => exact pick4 (a := 12288) c3 l hl
  | 4, _ => exact pick4 (a := 16384) c4 l hl
  | 5, _ => exact pick4 (a := 20480) c5 l hl
  | 6, _ => exact pick4 (a := 24576) c6 l hl
  | 7, _ => exact pick4 (a := 28672) c7 l hl
  | 8, _ => exact pick4 (a := 32768) c8 l hl
  | 9, _ => exact pick4 (a := 36864) c9 l hl
  | 10, _ => exact pick4 (a := 40960) c10 l hl
  | 11, _ => exact pick4 (a := 45056) c11 l hl
  | 12, _ => exact pick4 (a := 49152) c12 l hl
  | 13, _ => exact pick4 (a := 53248) c13 l hl
  | 14, _ => exact pick4 (a := 57344) c14 l hl
  | 15, _ => exact pick4 (a := 61440) c15 l hl
  | n + 16, hn => exact absurd hn (by omega)
end Go.Sim.PT
