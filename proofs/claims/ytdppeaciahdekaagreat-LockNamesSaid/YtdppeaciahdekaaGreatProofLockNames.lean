/-
  'pendulumlaw24.LockNames': the call returns true, whatever the world and the order of evaluation. No condition.
  The walk is RunLNa's and RunLNb's: the law, run in the verified evaluator. The frame about it is printed by the kit's proof-skeleton.mjs.
-/
import Derived.Test.YtdppeaciahdekaaGreatRunLNb
import Derived.Test.YtdppeaciahdekaaGreatFactsZ
namespace Go.Proofs.YtdppeaciahdekaaGreat.lockNames
open Go.ChangeShapes Go.WideShapes Go.ChangeAt Go.RowKit
set_option linter.unusedVariables false      -- a walk need not use every 'w<i>' (that an integer argument fits its kind)

theorem own : ownKnob Tryz.prog.godebug = none := by kernel_rfl

theorem walk (w : World) :
    Calls Tryz.prog 8 #[] w fun e w' => e = .returned (.bool true) ∧ Grown w w' :=
  Go.Sim.calls_of_run Go.Sim.LN.run1OK (by kernel_rfl) Go.Sim.LN.names w

/-! ### THE ROW's STEP: WRITTEN OUT: LEAVE IT -/
set_option maxRecDepth 100000 in
theorem lifted (os : Os) (started : os.Started) (H : Type) (enc : TypeId × Value → H) :
    ReturnsInHanded {} Tryz.checked os 8 .any (Rows.lockNamesSpec.pre6 enc Tryz.prog Tryz.f8 Rows.lockNamesRow.domain false) (Rows.lockNamesSpec.post enc Tryz.prog Tryz.f8 false true false false) := by
  refine returnsInHanded_of_change (C := Tryz.checked) own started (by kernel_rfl) Tryz.func8
    (ChangeSpec.witness6 (enc := enc) (C := Tryz.checked) false ⟨#[], #[], []⟩ 8 (by kernel_rfl) (by kernel_rfl) (by kernel_rfl) (by kernel_rfl)) ?_
  intro W base args ds gs before hval0 hW hcnd _
  have hval : ∀ (j : Nat) t v, Tryz.f8.params[j]? = some t → args[j]? = some v → Value.okWide Tryz.prog W .any base t v := hval0
  have hW' := hW
  obtain ⟨p, q, hA0, hV, rfl, hfz, hnd⟩ := hW
  have hA : DataW.TrodAll enc Tryz.prog W 0 (fun _ => true) true Tryz.f8.params.toList args.toList ds p := hA0
  rw [Tryz.params8] at hA hval
  obtain ⟨rfl, rfl, rfl⟩ := trodAll_none hA
  obtain ⟨rfl, rfl⟩ := trodVars_none hV
  clear hA0 hval0
  simp only [List.append_nil] at hW'
  refine (walk  W).mono fun e W' ⟨he, hg⟩ => ?_
  subst he
  exact ⟨_, rfl, post_of_same (pa := []) (pv := []) hW' (fun _ _ _ => (trodAll_cons_mk (shut_bool Tryz.underlying4 _) trodAll_mk0)) (fun sp _ => rfl) (fun _ _ => rfl) rfl
    (hg.frame _) hg.2.1 (ok_one (by kernel_rfl) rfl (okWide_bool_mk Tryz.underlying4 _))⟩

set_option maxRecDepth 100000
theorem factPlace : (Rows.lockNamesRow.inPlace == Tryz.prog.inPlace 8) = true := by kernel_rfl
theorem factUnfollowed : (Rows.lockNamesRow.unfollowed == Tryz.prog.unfollowed 8) = true := by kernel_rfl
theorem factRecurses : (Rows.lockNamesRow.recurses == Tryz.prog.recurses 8) = true := by kernel_rfl
theorem factNamed : (Rows.lockNamesRow.named == Tryz.prog.varsNamed 8) = true := by kernel_rfl
theorem factFunc : Tryz.prog.funcNamed Rows.lockNamesRow.func = some 8 := by kernel_rfl
theorem factMakeL : (Tryz.prog.make == some Rows.lockNamesRow.make) = true := by kernel_rfl
theorem closed : joinedFacts Tryz.prog 8 Tryz.f8 Rows.lockNamesSpec Rows.lockNamesRow = true := by
  unfold joinedFacts
  exact and2 (and2 (and2 (and2 (and2 (and2 (and2 (and2 (and2 (and2 (and2 (and2 (and2 (and2 (and2 (and2 (and2 (and2 (and2 (and2 (and2 (and2 (and2 (and2 (and2 (and2 (and2 (and2 (and2 (and2 (and2
    (by kernel_rfl) factLaid) factMaps) (by kernel_rfl)) (by kernel_rfl)) (by kernel_rfl)) factStops) (by kernel_rfl)) factKnobs) factPlace) factUnfollowed) factRecurses) factNamed)
    (by kernel_rfl)) (by kernel_rfl)) (by kernel_rfl)) (by kernel_rfl)) (by kernel_rfl)) (by kernel_rfl)) (by kernel_rfl)) (by kernel_rfl)) (by kernel_rfl)) factPlain) (by kernel_rfl)) factHeard) factEnter) factLifts  ) factMakeL) (by kernel_rfl)) (by kernel_rfl)) (by kernel_rfl)) (by kernel_rfl)
theorem factInst : Tryz.f8.isInstance Tryz.prog Rows.lockNamesRow.origin Rows.lockNamesRow.targs := of_decide_eq_true (by kernel_rfl)
theorem factWrap : Tryz.f8.isWrapper Tryz.prog Rows.lockNamesRow.wrapper Rows.lockNamesRow.mainSum := by
  unfold Func.isWrapper; first | (rw [if_pos (by decide +kernel)]; kernel_rfl) | (rw [if_neg (by decide +kernel)]; exact ⟨rfl, rfl⟩)
theorem over : Rows.lockNamesRow.holds Tryz.pinned (OpenSpec.ofChange Rows.lockNamesSpec) :=
  OpenClaim.holds_of_wide 8 Tryz.f8 rfl rfl rfl rfl rfl rfl rfl ⟨rfl, rfl, rfl, rfl, rfl⟩ rfl rfl rfl rfl rfl factFunc Tryz.func8 closed factInst factWrap
    (fun os started H enc _ => lifted os started H enc)

/-- ████ THE STATEMENT ████ -/
theorem proved : Rows.LockNamesSaid :=
  over
#print axioms proved
end Go.Proofs.YtdppeaciahdekaaGreat.lockNames
