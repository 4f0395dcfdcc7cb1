/- The examples of chapter 24, run: they come out as it tells. -/
import Derived.Test.YtdppeaciahdekaaGreatCheckLN
import Derived.Test.YtdppeaciahdekaaGreatBanksLN
import Derived.Test.YtdppeaciahdekaaGreatSimFastB
namespace Go.Sim.LN
noncomputable def run0 : CallF := acallF (fun f => ct.find f) banksExt E 1000 100
theorem run0OK : CallOK Go.Proofs.Tryz.prog E run0 := by
  unfold run0; rw [acallF_eq]
  exact acall_sound Go.Proofs.Tryz.checked.mixed envOK codesOK (banksExt_ok _) 100
set_option maxRecDepth 1000000
theorem lives : okRet (run0 35 [] ⟨0, .leaf⟩) = true := by kernel_rfl
noncomputable def run1 : CallF := acallF (fun f => ct.find f) (orExt (oneExt 35) banksExt) E 1000 100
theorem run1OK : CallOK Go.Proofs.Tryz.prog E run1 := by
  unfold run1; rw [acallF_eq]
  exact acall_sound Go.Proofs.Tryz.checked.mixed envOK codesOK (orExt_ok (oneExt_ok run0OK (by kernel_rfl) lives) (banksExt_ok _)) 100
end Go.Sim.LN
