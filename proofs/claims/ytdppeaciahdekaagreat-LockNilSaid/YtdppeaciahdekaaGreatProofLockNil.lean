/-
  'pendulumlaw24.LockNil': the call returns true, whatever the argument, the world and the order of evaluation. No condition.
  The walk is RunLNa's and RunLNb's: the law, run in the verified evaluator. The frame about it is printed by the kit's proof-skeleton.mjs.
-/
import Derived.Test.YtdppeaciahdekaaGreatRunLNb
import Derived.Test.YtdppeaciahdekaaGreatFactsZ
namespace Go.Proofs.YtdppeaciahdekaaGreat.lockNil
open Go.ChangeShapes Go.WideShapes Go.ChangeAt Go.RowKit
set_option linter.unusedVariables false      -- a walk need not use every 'w<i>' (that an integer argument fits its kind)

theorem own : ownKnob Tryz.prog.godebug = none := by kernel_rfl

theorem walk (a0 : Int) (w0 : (Lit.int .i64 a0).wf = true) (w : World) :
    Calls Tryz.prog 6 #[.int .i64 a0] w fun e w' => e = .returned (.bool true) ∧ Grown w w' := by
  have hw : (IntKind.i64).min ≤ a0 ∧ a0 ≤ (IntKind.i64).max := by simpa only [Lit.wf, Bool.and_eq_true, decide_eq_true_eq] using w0
  exact Go.Sim.calls_of_args Go.Sim.LN.run1OK (by kernel_rfl) (fun ρ => Go.Sim.LR.one (.part hw.1 hw.2 (Nat.and_zero _))) Go.Sim.LN.nil w

/-! ### THE ROW's STEP: WRITTEN OUT: LEAVE IT -/
set_option maxRecDepth 100000 in
theorem lifted (os : Os) (started : os.Started) (H : Type) (enc : TypeId × Value → H) :
    ReturnsInHanded {} Tryz.checked os 6 .any (Rows.lockNilSpec.pre6 enc Tryz.prog Tryz.f6 Rows.lockNilRow.domain false) (Rows.lockNilSpec.post enc Tryz.prog Tryz.f6 false true false false) := by
  refine returnsInHanded_of_change (C := Tryz.checked) own started (by kernel_rfl) Tryz.func6
    (ChangeSpec.witness6 (enc := enc) (C := Tryz.checked) false ⟨#[], #[.int .i64 0], []⟩ 8 (by kernel_rfl) (by kernel_rfl) (by kernel_rfl) (by kernel_rfl)) ?_
  intro W base args ds gs before hval0 hW hcnd _
  have hval : ∀ (j : Nat) t v, Tryz.f6.params[j]? = some t → args[j]? = some v → Value.okWide Tryz.prog W .any base t v := hval0
  have hW' := hW
  obtain ⟨p, q, hA0, hV, rfl, hfz, hnd⟩ := hW
  have hA : DataW.TrodAll enc Tryz.prog W 0 (fun _ => true) true Tryz.f6.params.toList args.toList ds p := hA0
  rw [Tryz.params6] at hA hval
  obtain ⟨v0, vs0, d0, ds0, p0, q0, hargs, rfl, rfl, h0, r0⟩ := trodAll_cons hA
  obtain ⟨rfl, rfl, rfl⟩ := trodAll_nil r0
  obtain rfl : args = #[v0] := by cases args; simp_all
  obtain ⟨rfl, rfl⟩ := trodVars_none hV
  obtain ⟨a0, rfl, rfl, rfl, w0⟩ := open_int Tryz.underlying2 (hval 0 2 v0 rfl rfl) h0
  clear hA0 hval0
  simp only [List.append_nil] at hW'
  refine (walk a0 w0 W).mono fun e W' ⟨he, hg⟩ => ?_
  subst he
  exact ⟨_, rfl, post_of_same (pa := []) (pv := []) hW' (fun _ _ _ => (trodAll_cons_mk (shut_bool Tryz.underlying4 _) trodAll_mk0)) (fun sp _ => (trodAll_cons_mk (shut_int Tryz.underlying2 w0) trodAll_mk0)) (fun _ _ => rfl) rfl
    (hg.frame _) hg.2.1 (ok_one (by kernel_rfl) rfl (okWide_bool_mk Tryz.underlying4 _))⟩

set_option maxRecDepth 100000
theorem factPlace : (Rows.lockNilRow.inPlace == Tryz.prog.inPlace 6) = true := by kernel_rfl
theorem factUnfollowed : (Rows.lockNilRow.unfollowed == Tryz.prog.unfollowed 6) = true := by kernel_rfl
theorem factRecurses : (Rows.lockNilRow.recurses == Tryz.prog.recurses 6) = true := by kernel_rfl
theorem factNamed : (Rows.lockNilRow.named == Tryz.prog.varsNamed 6) = true := by kernel_rfl
theorem factFunc : Tryz.prog.funcNamed Rows.lockNilRow.func = some 6 := by kernel_rfl
theorem factMakeL : (Tryz.prog.make == some Rows.lockNilRow.make) = true := by kernel_rfl
theorem closed : joinedFacts Tryz.prog 6 Tryz.f6 Rows.lockNilSpec Rows.lockNilRow = true := by
  unfold joinedFacts
  exact and2 (and2 (and2 (and2 (and2 (and2 (and2 (and2 (and2 (and2 (and2 (and2 (and2 (and2 (and2 (and2 (and2 (and2 (and2 (and2 (and2 (and2 (and2 (and2 (and2 (and2 (and2 (and2 (and2 (and2 (and2
    (by kernel_rfl) factLaid) factMaps) (by kernel_rfl)) (by kernel_rfl)) (by kernel_rfl)) factStops) (by kernel_rfl)) factKnobs) factPlace) factUnfollowed) factRecurses) factNamed)
    (by kernel_rfl)) (by kernel_rfl)) (by kernel_rfl)) (by kernel_rfl)) (by kernel_rfl)) (by kernel_rfl)) (by kernel_rfl)) (by kernel_rfl)) (by kernel_rfl)) factPlain) (by kernel_rfl)) factHeard) factEnter) factLifts  ) factMakeL) (by kernel_rfl)) (by kernel_rfl)) (by kernel_rfl)) (by kernel_rfl)
theorem factInst : Tryz.f6.isInstance Tryz.prog Rows.lockNilRow.origin Rows.lockNilRow.targs := of_decide_eq_true (by kernel_rfl)
theorem factWrap : Tryz.f6.isWrapper Tryz.prog Rows.lockNilRow.wrapper Rows.lockNilRow.mainSum := by
  unfold Func.isWrapper; first | (rw [if_pos (by decide +kernel)]; kernel_rfl) | (rw [if_neg (by decide +kernel)]; exact ⟨rfl, rfl⟩)
theorem over : Rows.lockNilRow.holds Tryz.pinned (OpenSpec.ofChange Rows.lockNilSpec) :=
  OpenClaim.holds_of_wide 6 Tryz.f6 rfl rfl rfl rfl rfl rfl rfl ⟨rfl, rfl, rfl, rfl, rfl⟩ rfl rfl rfl rfl rfl factFunc Tryz.func6 closed factInst factWrap
    (fun os started H enc _ => lifted os started H enc)

/-- ████ THE STATEMENT ████ -/
theorem proved : Rows.LockNilSaid :=
  over
#print axioms proved
end Go.Proofs.YtdppeaciahdekaaGreat.lockNil
