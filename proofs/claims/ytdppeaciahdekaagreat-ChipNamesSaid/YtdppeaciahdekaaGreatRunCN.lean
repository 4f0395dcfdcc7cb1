/- The law ChipNames, run in the evaluator: it answers true. -/
import Derived.Test.YtdppeaciahdekaaGreatCheckCN
namespace Go.Sim.CN
def ext : CallF := fun _ _ _ => none
theorem extOK (P : Program) (E : EnvD) : CallOK P E ext := by intro f l H r h; cases h
set_option maxRecDepth 1000000 in
theorem ran : okRet (acall (fun f => ct.find f) ext E 1000 100 3 [] ⟨0, .leaf⟩) = true := by kernel_rfl
theorem walk (w : World) : Calls Go.Proofs.Tryz.prog 3 #[] w fun e w' => e = .returned (.bool true) ∧ RowKit.Grown w w' :=
  calls_of_run (acall_sound Go.Proofs.Tryz.checked.mixed envOK codesOK (extOK _ _) 100) (by kernel_rfl) ran w
end Go.Sim.CN
