/- A part of the proof that LockParts returns true for every input. No condition. -/
import Derived.Test.YtdppeaciahdekaaGreatG09
import Derived.Test.YtdppeaciahdekaaGreatG06
import Derived.Test.YtdppeaciahdekaaGreatG07
import Derived.Test.YtdppeaciahdekaaGreatG20
set_option linter.all false
set_option maxRecDepth 1000000
namespace Go.Sim
attribute [local instance] noRO
open Go.RowKit
noncomputable def run0 : CallF := acallF (fun f => LP.ct.find f) banksExt LP.E 1000 100
theorem run0OK : CallOK Go.Proofs.Tryz.prog LP.E run0 := by
 unfold run0; rw [acallF_eq]
 exact acall_sound Go.Proofs.Tryz.checked.mixed LP.envOK LP.codesOK (banksExt_ok _) 100
theorem lives0 : okRet (run0 35 [] ⟨0, .leaf⟩) = true := by kernel_rfl
theorem lives_calls (w : World) : Calls Go.Proofs.Tryz.prog 35 #[] w fun e w' => e = .returned (.bool true) ∧ Below w.heap.size w w' := by
 exact calls_of_run run0OK (by rfl) lives0 w fun b hb => (hb : False).elim
end Go.Sim
