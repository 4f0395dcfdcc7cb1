/- A part of the proof that LockParts returns true for every input. No condition. -/
import Derived.Test.YtdppeaciahdekaaGreatRows
import Derived.WalkKit
import Derived.ProofKit
import Derived.OpenShut
set_option linter.all false
namespace Go.Proofs.YtdppeaciahdekaaGreat
set_option maxRecDepth 100000
theorem factLaid : laidOutB Tryz.prog = true := by kernel_rfl
theorem factMaps : mapsRowed Tryz.prog = true := by kernel_rfl
theorem factStops : (Tryz.prog.stops == []) = true := by kernel_rfl
theorem factKnobs : (Tryz.prog.stopKnobs == []) = true := by kernel_rfl
theorem factPlain : (false == Tryz.prog.plainKeys) = true := by kernel_rfl
theorem factHeard : Tryz.prog.stopsHeard = true := by kernel_rfl
theorem factEnter : Tryz.prog.mayEnter = true := by kernel_rfl
theorem factLifts : (false == Tryz.prog.liftsFinal) = true := by kernel_rfl
theorem and2 {a b : Bool} (h : a = true) (h' : b = true) : (a && b) = true := by rw [h, h']; rfl
end Go.Proofs.YtdppeaciahdekaaGreat
