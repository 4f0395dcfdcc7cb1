/- The code of the evaluator is the given program: checked function by function. -/
import Derived.Test.YtkhjgccgijdejaaSimUse
import Derived.Test.YtkhjgccgijdejaaCodePT0
import Derived.Test.YtkhjgccgijdejaaChecked
import Derived.KernelRfl
namespace Go.Sim.PT
set_option maxRecDepth 100000
theorem ok3 : ∃ fn c, FuncOK Go.Proofs.Try.prog E 3 fn c a3 := let ⟨c, h⟩ := funcChk_sound Go.Proofs.Try.func3 (by kernel_rfl); ⟨_, c, h⟩
theorem ok4 : ∃ fn c, FuncOK Go.Proofs.Try.prog E 4 fn c a4 := let ⟨c, h⟩ := funcChk_sound Go.Proofs.Try.func4 (by kernel_rfl); ⟨_, c, h⟩
theorem ok5 : ∃ fn c, FuncOK Go.Proofs.Try.prog E 5 fn c a5 := let ⟨c, h⟩ := funcChk_sound Go.Proofs.Try.func5 (by kernel_rfl); ⟨_, c, h⟩
theorem ok6 : ∃ fn c, FuncOK Go.Proofs.Try.prog E 6 fn c a6 := let ⟨c, h⟩ := funcChk_sound Go.Proofs.Try.func6 (by kernel_rfl); ⟨_, c, h⟩
theorem ok7 : ∃ fn c, FuncOK Go.Proofs.Try.prog E 7 fn c a7 := let ⟨c, h⟩ := funcChk_sound Go.Proofs.Try.func7 (by kernel_rfl); ⟨_, c, h⟩
theorem ok8 : ∃ fn c, FuncOK Go.Proofs.Try.prog E 8 fn c a8 := let ⟨c, h⟩ := funcChk_sound Go.Proofs.Try.func8 (by kernel_rfl); ⟨_, c, h⟩
theorem ok9 : ∃ fn c, FuncOK Go.Proofs.Try.prog E 9 fn c a9 := let ⟨c, h⟩ := funcChk_sound Go.Proofs.Try.func9 (by kernel_rfl); ⟨_, c, h⟩
theorem ok10 : ∃ fn c, FuncOK Go.Proofs.Try.prog E 10 fn c a10 := let ⟨c, h⟩ := funcChk_sound Go.Proofs.Try.func10 (by kernel_rfl); ⟨_, c, h⟩
theorem ok11 : ∃ fn c, FuncOK Go.Proofs.Try.prog E 11 fn c a11 := let ⟨c, h⟩ := funcChk_sound Go.Proofs.Try.func11 (by kernel_rfl); ⟨_, c, h⟩
theorem ok12 : ∃ fn c, FuncOK Go.Proofs.Try.prog E 12 fn c a12 := let ⟨c, h⟩ := funcChk_sound Go.Proofs.Try.func12 (by kernel_rfl); ⟨_, c, h⟩
theorem ok13 : ∃ fn c, FuncOK Go.Proofs.Try.prog E 13 fn c a13 := let ⟨c, h⟩ := funcChk_sound Go.Proofs.Try.func13 (by kernel_rfl); ⟨_, c, h⟩
theorem ok14 : ∃ fn c, FuncOK Go.Proofs.Try.prog E 14 fn c a14 := let ⟨c, h⟩ := funcChk_sound Go.Proofs.Try.func14 (by kernel_rfl); ⟨_, c, h⟩
theorem ok15 : ∃ fn c, FuncOK Go.Proofs.Try.prog E 15 fn c a15 := let ⟨c, h⟩ := funcChk_sound Go.Proofs.Try.func15 (by kernel_rfl); ⟨_, c, h⟩
theorem ok16 : ∃ fn c, FuncOK Go.Proofs.Try.prog E 16 fn c a16 := let ⟨c, h⟩ := funcChk_sound Go.Proofs.Try.func16 (by kernel_rfl); ⟨_, c, h⟩
theorem ok17 : ∃ fn c, FuncOK Go.Proofs.Try.prog E 17 fn c a17 := let ⟨c, h⟩ := funcChk_sound Go.Proofs.Try.func17 (by kernel_rfl); ⟨_, c, h⟩
theorem ok18 : ∃ fn c, FuncOK Go.Proofs.Try.prog E 18 fn c a18 := let ⟨c, h⟩ := funcChk_sound Go.Proofs.Try.func18 (by kernel_rfl); ⟨_, c, h⟩
theorem ok19 : ∃ fn c, FuncOK Go.Proofs.Try.prog E 19 fn c a19 := let ⟨c, h⟩ := funcChk_sound Go.Proofs.Try.func19 (by kernel_rfl); ⟨_, c, h⟩
theorem ok20 : ∃ fn c, FuncOK Go.Proofs.Try.prog E 20 fn c a20 := let ⟨c, h⟩ := funcChk_sound Go.Proofs.Try.func20 (by kernel_rfl); ⟨_, c, h⟩
theorem ok21 : ∃ fn c, FuncOK Go.Proofs.Try.prog E 21 fn c a21 := let ⟨c, h⟩ := funcChk_sound Go.Proofs.Try.func21 (by kernel_rfl); ⟨_, c, h⟩
theorem ok22 : ∃ fn c, FuncOK Go.Proofs.Try.prog E 22 fn c a22 := let ⟨c, h⟩ := funcChk_sound Go.Proofs.Try.func22 (by kernel_rfl); ⟨_, c, h⟩
theorem ok23 : ∃ fn c, FuncOK Go.Proofs.Try.prog E 23 fn c a23 := let ⟨c, h⟩ := funcChk_sound Go.Proofs.Try.func23 (by kernel_rfl); ⟨_, c, h⟩
theorem ok24 : ∃ fn c, FuncOK Go.Proofs.Try.prog E 24 fn c a24 := let ⟨c, h⟩ := funcChk_sound Go.Proofs.Try.func24 (by kernel_rfl); ⟨_, c, h⟩
theorem ok25 : ∃ fn c, FuncOK Go.Proofs.Try.prog E 25 fn c a25 := let ⟨c, h⟩ := funcChk_sound Go.Proofs.Try.func25 (by kernel_rfl); ⟨_, c, h⟩
theorem ok26 : ∃ fn c, FuncOK Go.Proofs.Try.prog E 26 fn c a26 := let ⟨c, h⟩ := funcChk_sound Go.Proofs.Try.func26 (by kernel_rfl); ⟨_, c, h⟩
theorem ok27 : ∃ fn c, FuncOK Go.Proofs.Try.prog E 27 fn c a27 := let ⟨c, h⟩ := funcChk_sound Go.Proofs.Try.func27 (by kernel_rfl); ⟨_, c, h⟩
theorem ok28 : ∃ fn c, FuncOK Go.Proofs.Try.prog E 28 fn c a28 := let ⟨c, h⟩ := funcChk_sound Go.Proofs.Try.func28 (by kernel_rfl); ⟨_, c, h⟩
theorem ok29 : ∃ fn c, FuncOK Go.Proofs.Try.prog E 29 fn c a29 := let ⟨c, h⟩ := funcChk_sound Go.Proofs.Try.func29 (by kernel_rfl); ⟨_, c, h⟩
theorem ok30 : ∃ fn c, FuncOK Go.Proofs.Try.prog E 30 fn c a30 := let ⟨c, h⟩ := funcChk_sound Go.Proofs.Try.func30 (by kernel_rfl); ⟨_, c, h⟩
theorem ok31 : ∃ fn c, FuncOK Go.Proofs.Try.prog E 31 fn c a31 := let ⟨c, h⟩ := funcChk_sound Go.Proofs.Try.func31 (by kernel_rfl); ⟨_, c, h⟩
theorem okC : TT.All (fun f af => ∃ fn c, FuncOK Go.Proofs.Try.prog E f fn c af) ct := ⟨ok17, ⟨ok10, ⟨ok6, ⟨ok4, ⟨ok3, trivial, trivial⟩, ⟨ok5, trivial, trivial⟩⟩, ⟨ok8, ⟨ok7, trivial, trivial⟩, ⟨ok9, trivial, trivial⟩⟩⟩, ⟨ok14, ⟨ok12, ⟨ok11, trivial, trivial⟩, ⟨ok13, trivial, trivial⟩⟩, ⟨ok16, ⟨ok15, trivial, trivial⟩, trivial⟩⟩⟩, ⟨ok25, ⟨ok21, ⟨ok19, ⟨ok18, trivial, trivial⟩, ⟨ok20, trivial, trivial⟩⟩, ⟨ok23, ⟨ok22, trivial, trivial⟩, ⟨ok24, trivial, trivial⟩⟩⟩, ⟨ok29, ⟨ok27, ⟨ok26, trivial, trivial⟩, ⟨ok28, trivial, trivial⟩⟩, ⟨ok31, ⟨ok30, trivial, trivial⟩, trivial⟩⟩⟩⟩
theorem okZ : TT.allB (zroChk Go.Proofs.Try.prog) zt = true := by kernel_rfl
theorem okM : mt.all (methChk Go.Proofs.Try.prog fun f => (ct.find f).isSome || xs.any (fun x => Nat.beq x f)) = true := by kernel_rfl
theorem okQ : TT.allB (eqtChk Go.Proofs.Try.prog) qt = true := by kernel_rfl
theorem codesOK : CodesOK Go.Proofs.Try.prog E (fun f => ct.find f) := fun f af h => TT.all_of okC f af h
theorem okX : ∀ f ∈ xs, ∃ fn, Go.Proofs.Try.prog.funcs[f]? = some fn ∧ fn.name ≠ "runtime.NumGoroutine" ∧ fn.body.isSome = true := by
  intro f hf
  cases hf
theorem envOK : EnvOK Go.Proofs.Try.prog E := envOK_of okZ okM okQ okC okX
end Go.Sim.PT
