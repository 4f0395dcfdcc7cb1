/- Runs of which the arguments are known in part; a closed call, once for all. -/
import Derived.Test.YtdppeaciahdekaaGreatSimUse
namespace Go.Sim

theorem WR.frame {K : Nat → Prop} {ρ : Ren} {H : AHeap} {w w' : World} (h : WR K ρ H w) (hk : ∀ b, b < w.heap.size → w'.heap[b]? = w.heap[b]?) (hs : w.heap.size ≤ w'.heap.size) : WR K ρ H w' := by
  refine ⟨fun i b hb => ?_, h.inj, h.dom, fun b hb => Nat.lt_of_lt_of_le (h.kb b hb) hs⟩
  obtain ⟨l, o, h1, h2, h3, h4⟩ := h.live i b hb
  exact ⟨l, o, h1, by rw [hk _ (h.lt hb h1)]; exact h2, h3, h4⟩

theorem calls_of_args {P : Program} {E : EnvD} {call : CallF} (hcall : CallOK P E call) {f : FuncId} (hf : E.isF f = true) {l : List AVal} {l' : Array Value} (hl : ∀ ρ, LR ρ l l') (h : okRet (call f l ⟨0, .leaf⟩) = true) (w : World) :
    Calls P f l' w fun e w' => e = .returned (.bool true) ∧ RowKit.Grown w w' := by
  unfold okRet at h
  split at h
  · rename_i H' hr
    refine (hcall f l _ _ hr hf _ _ w l' (hl _) (empty_wr w)).mono fun e w' hp => ?_
    obtain ⟨ρ', v, rfl, hv, hp⟩ := hp
    exact ⟨by rw [hv.bool_inv], grown_of hp⟩
  · cases h

/-- A call without arguments that answers true. -/
def oneExt (g : FuncId) : CallF := fun f l H => match l with
  | [] => bif Nat.beq f g then some (.ret (.bool true) H) else none
  | _ => none

theorem oneExt_ok {P : Program} {E : EnvD} {call : CallF} (hcall : CallOK P E call) {g : FuncId} (hg : E.isF g = true) (h : okRet (call g [] ⟨0, .leaf⟩) = true) : CallOK P E (oneExt g) := by
  intro f l H r hr _ K ρ w l' hl hw
  unfold oneExt at hr
  split at hr
  · cases e : Nat.beq f g with
    | false => rw [e] at hr; cases hr
    | true =>
      rw [e] at hr
      simp only [cond_true, Option.some.injEq] at hr
      subst hr
      have := Nat.eq_of_beq_eq_true e
      subst this
      have hl0 : l' = #[] := Array.eq_empty_of_size_eq_zero hl.1
      subst hl0
      unfold okRet at h
      split at h
      · rename_i H' hrun
        refine (hcall f [] _ _ hrun hg _ _ w #[] (LR.nil _) (empty_wr w)).mono fun e w' hp => ?_
        obtain ⟨ρ', v, rfl, hv, hp⟩ := hp
        exact ⟨ρ, .bool true, by rw [hv.bool_inv], .bool true, ⟨ρ.le_refl, hw.frame hp.keep hp.size.size, fun b hb => hp.keep b (hw.kb b hb), hp.size⟩⟩
      · cases h
  · cases hr

theorem LR.one {ρ : Ren} {x : AVal} {v : Value} (h : VR ρ x v) : LR ρ [x] #[v] := by
  have := (LR.nil ρ).cons h
  simpa using this
theorem LR.two {ρ : Ren} {x y : AVal} {v u : Value} (h : VR ρ x v) (h' : VR ρ y u) : LR ρ [x, y] #[v, u] := by
  have := (LR.one h').cons h
  simpa using this
theorem LR.three {ρ : Ren} {x y z : AVal} {v u t : Value} (h : VR ρ x v) (h' : VR ρ y u) (h'' : VR ρ z t) : LR ρ [x, y, z] #[v, u, t] := by
  have := (LR.two h' h'').cons h
  simpa using this
end Go.Sim
namespace Go.Sim
/-- Two contracts: the first that knows. -/
def orExt (a b : CallF) : CallF := fun f l H => match a f l H with
  | some r => some r
  | none => b f l H
theorem orExt_ok {P : Program} {E : EnvD} {a b : CallF} (ha : CallOK P E a) (hb : CallOK P E b) : CallOK P E (orExt a b) := by
  intro f l H r hr
  unfold orExt at hr
  split at hr
  · rename_i r' h
    simp only [Option.some.injEq] at hr; subst hr
    exact ha f l H _ h
  · exact hb f l H r hr
end Go.Sim
