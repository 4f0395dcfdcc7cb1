/- The chapter's examples of layer 14, run in the evaluator. -/
import Derived.Test.YtkhjgccgijdejaaCheckPT
import Derived.Test.YtkhjgccgijdejaaSimMore
import Derived.Test.YtkhjgccgijdejaaSimFastB
namespace Go.Sim.PT
def ext0 : CallF := fun _ _ _ => none
theorem ext0OK (P : Program) (E : EnvD) : CallOK P E ext0 := by intro f l H r h; cases h
noncomputable def run0 : CallF := acallF (fun f => ct.find f) ext0 E 1000 100
theorem run0OK : CallOK Go.Proofs.Try.prog E run0 := by
  unfold run0; rw [acallF_eq]
  exact acall_sound Go.Proofs.Try.checked.mixed envOK codesOK (ext0OK _ _) 100
set_option maxRecDepth 1000000
theorem lives : okRet (run0 7 [] ⟨0, .leaf⟩) = true := by kernel_rfl
theorem names : okRet (run0 4 [] ⟨0, .leaf⟩) = true := by kernel_rfl
noncomputable def run1 : CallF := acallF (fun f => ct.find f) (oneExt 7) E 1000 100
theorem run1OK : CallOK Go.Proofs.Try.prog E run1 := by
  unfold run1; rw [acallF_eq]
  exact acall_sound Go.Proofs.Try.checked.mixed envOK codesOK (oneExt_ok run0OK (by kernel_rfl) lives) 100
end Go.Sim.PT
