/- 'pendulumlaw24.LockParts': the call returns true, whatever the input, the world and the order of evaluation; the input reads as it did. No condition. -/
import Derived.Test.YtdppeaciahdekaaGreatG29
import Derived.Test.YtdppeaciahdekaaGreatG11
import Derived.ChangeOld
import Derived.Carry
import Derived.Below
set_option linter.all false
namespace Go.Proofs.YtdppeaciahdekaaGreat.lockParts
open Go.ChangeShapes Go.WideShapes Go.ChangeAt Go.RowKit
theorem own : ownKnob Tryz.prog.godebug = none := by kernel_rfl
set_option maxRecDepth 100000 in
theorem lifted (os : Os) (started : os.Started) (H : Type) (enc : TypeId × Value → H) :
  ReturnsInHanded {} Tryz.checked os 7 .any (Rows.lockPartsSpec.pre6 enc Tryz.prog Tryz.f7 Rows.lockPartsRow.domain false) (Rows.lockPartsSpec.post enc Tryz.prog Tryz.f7 false true false false) := by
 refine returnsInHanded_of_change (C := Tryz.checked) own started (by kernel_rfl) Tryz.func7
  (ChangeSpec.witness6 (enc := enc) (C := Tryz.checked) false ⟨#[], #[.agg #[.int .i64 0, .int .i64 0, .int .i64 0, .int .i64 0, .int .i64 0, .int .i64 0, .int .i64 0, .int .u8 0, .int .u8 0, .int .u8 0, .int .u8 0, .int .u8 0, .int .u8 0, .int .u8 0, .int .u8 0, .int .u8 0, .int .u8 0, .int .u8 0, .int .u16 0, .int .u16 0, .int .u16 0, .int .u16 0, .int .u16 0, .int .u16 0, .int .u16 0, .int .u16 0, .int .u16 0, .bool false, .bool false, .int .i64 0, .bool false, .bool false, .slice none 0 0, .slice none 0 0, .int .i64 0, .int .i64 0, .int .i64 0, .bool false, .slice none 0 0, .int .i64 0]], []⟩ 8 (by kernel_rfl) (by kernel_rfl) (by kernel_rfl) (by kernel_rfl)) ?_
 intro W base args ds gs before hval0 hW hcnd _
 have hval : ∀ (j : Nat) t v, Tryz.f7.params[j]? = some t → args[j]? = some v → Value.okWide Tryz.prog W .any base t v := hval0
 have hW' := hW
 obtain ⟨p, q, hA0, hV, rfl, hfz, hnd⟩ := hW
 have hA : DataW.TrodAll enc Tryz.prog W 0 (fun _ => true) true Tryz.f7.params.toList args.toList ds p := hA0
 rw [Tryz.params7] at hA hval
 obtain ⟨v0, vs0, d0, ds0, p0, q0, hargs, rfl, rfl, h0, r0⟩ := trodAll_cons hA
 obtain ⟨rfl, rfl, rfl⟩ := trodAll_nil r0
 obtain rfl : args = #[v0] := by cases args; simp_all
 obtain ⟨rfl, rfl⟩ := trodVars_none hV
 have lt0 : ∀ x ∈ p0, x.block < W.heap.size := by obtain ⟨m, hm⟩ := h0; exact DataW.trod_lt m _ _ _ hm
 obtain ⟨x, rfl, ht, hx⟩ := Go.Sim.open_inp (hval 0 43 v0 rfl rfl) h0
 clear hA0 hval0
 refine (Go.Sim.law_calls x ht W hx).mono fun e W' ⟨he, bel⟩ => ?_
 subst he
 exact ⟨_, rfl, _, _, _, [], _, [], hW', trodAll_mk1 (shut_bool Tryz.underlying4 _), (trodAll_cons_mk (Below.trod factLaid (by kernel_rfl) (of_decide_eq_true (by kernel_rfl)) h0 bel lt0) trodAll_mk0), rfl, bel.frame _, fun h => by cases h⟩
set_option maxRecDepth 100000
theorem factPlace : (Rows.lockPartsRow.inPlace == Tryz.prog.inPlace 7) = true := by kernel_rfl
theorem factUnfollowed : (Rows.lockPartsRow.unfollowed == Tryz.prog.unfollowed 7) = true := by kernel_rfl
theorem factRecurses : (Rows.lockPartsRow.recurses == Tryz.prog.recurses 7) = true := by kernel_rfl
theorem factNamed : (Rows.lockPartsRow.named == Tryz.prog.varsNamed 7) = true := by kernel_rfl
theorem factFunc : Tryz.prog.funcNamed Rows.lockPartsRow.func = some 7 := by kernel_rfl
theorem factMakeL : (Tryz.prog.make == some Rows.lockPartsRow.make) = true := by kernel_rfl
theorem closed : joinedFacts Tryz.prog 7 Tryz.f7 Rows.lockPartsSpec Rows.lockPartsRow = true := by
 unfold joinedFacts
 exact and2 (and2 (and2 (and2 (and2 (and2 (and2 (and2 (and2 (and2 (and2 (and2 (and2 (and2 (and2 (and2 (and2 (and2 (and2 (and2 (and2 (and2 (and2 (and2 (and2 (and2 (and2 (and2 (and2 (and2 (and2
  (by kernel_rfl) factLaid) factMaps) (by kernel_rfl)) (by kernel_rfl)) (by kernel_rfl)) factStops) (by kernel_rfl)) factKnobs) factPlace) factUnfollowed) factRecurses) factNamed)
  (by kernel_rfl)) (by kernel_rfl)) (by kernel_rfl)) (by kernel_rfl)) (by kernel_rfl)) (by kernel_rfl)) (by kernel_rfl)) (by kernel_rfl)) (by kernel_rfl)) factPlain) (by kernel_rfl)) factHeard) factEnter) factLifts  ) factMakeL) (by kernel_rfl)) (by kernel_rfl)) (by kernel_rfl)) (by kernel_rfl)
theorem factInst : Tryz.f7.isInstance Tryz.prog Rows.lockPartsRow.origin Rows.lockPartsRow.targs := of_decide_eq_true (by kernel_rfl)
theorem factWrap : Tryz.f7.isWrapper Tryz.prog Rows.lockPartsRow.wrapper Rows.lockPartsRow.mainSum := by
 unfold Func.isWrapper; first | (rw [if_pos (by decide +kernel)]; kernel_rfl) | (rw [if_neg (by decide +kernel)]; exact ⟨rfl, rfl⟩)
theorem over : Rows.lockPartsRow.holds Tryz.pinned (OpenSpec.ofChange Rows.lockPartsSpec) :=
 OpenClaim.holds_of_wide 7 Tryz.f7 rfl rfl rfl rfl rfl rfl rfl ⟨rfl, rfl, rfl, rfl, rfl⟩ rfl rfl rfl rfl rfl factFunc Tryz.func7 closed factInst factWrap
  (fun os started H enc _ => lifted os started H enc)
theorem proved : Rows.LockPartsSaid :=
 over
#print axioms proved
end Go.Proofs.YtdppeaciahdekaaGreat.lockParts
