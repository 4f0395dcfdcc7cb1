/- PortLists, for each port. -/
import Derived.Test.YtkhjgccgijdejaaRunPTb
namespace Go.Sim.PT
set_option maxRecDepth 1000000
noncomputable def lOK (v : Nat) : Bool := okRet (run1 3 [pp 61443 v] ⟨0, .leaf⟩)
theorem l0 : [0, 1, 2, 3].all lOK = true := by kernel_rfl
theorem l1 : [4096, 4097, 4098, 4099].all lOK = true := by kernel_rfl
theorem l2 : [8192, 8193, 8194, 8195].all lOK = true := by kernel_rfl
theorem l3 : [12288, 12289, 12290, 12291].all lOK = true := by kernel_rfl
theorem l4 : [16384, 16385, 16386, 16387].all lOK = true := by kernel_rfl
theorem l5 : [20480, 20481, 20482, 20483].all lOK = true := by kernel_rfl
theorem l6 : [24576, 24577, 24578, 24579].all lOK = true := by kernel_rfl
theorem l7 : [28672, 28673, 28674, 28675].all lOK = true := by kernel_rfl
theorem l8 : [32768, 32769, 32770, 32771].all lOK = true := by kernel_rfl
theorem l9 : [36864, 36865, 36866, 36867].all lOK = true := by kernel_rfl
theorem l10 : [40960, 40961, 40962, 40963].all lOK = true := by kernel_rfl
theorem l11 : [45056, 45057, 45058, 45059].all lOK = true := by kernel_rfl
theorem l12 : [49152, 49153, 49154, 49155].all lOK = true := by kernel_rfl
theorem l13 : [53248, 53249, 53250, 53251].all lOK = true := by kernel_rfl
theorem l14 : [57344, 57345, 57346, 57347].all lOK = true := by kernel_rfl
theorem l15 : [61440, 61441, 61442, 61443].all lOK = true := by kernel_rfl
theorem lAll (h : Nat) (hh : h < 16) (l : Nat) (hl : l < 4) : lOK (h * 4096 + l) = true := by
  match h, hh with
  | 0, _ => exact pick4 (a := 0) l0 l hl
  | 1, _ => exact pick4 (a := 4096) l1 l hl
  | 2, _ => exact pick4 (a := 8192) l2 l hl
  | 3, _ => exact pick4 (a := 12288) l3 l hl
  | 4, _ => exact pick4 (a := 16384) l4 l hl
  | 5, _ => exact pick4 (a := 20480) l5 l hl
  | 6, _ => exact pick4 (a := 24576) l6 l hl
  | 7, _ => exact pick4 (a := 28672) l7 l hl
  | 8, _ => exact pick4 (a := 32768) l8 l hl
  | 9, _ => exact pick4 (a := 36864) l9 l hl
  | 10, _ => exact pick4 (a := 40960) l10 l hl
  | 11, _ => exact pick4 (a := 45056) l11 l hl
  | 12, _ => exact pick4 (a := 49152) l12 l hl
  | 13, _ => exact pick4 (a := 53248) l13 l hl
  | 14, _ => exact pick4 (a := 57344) l14 l hl
  | 15, _ => exact pick4 (a := 61440) l15 l hl
  | n + 16, hn => exact absurd hn (by omega)
end Go.Sim.PT
