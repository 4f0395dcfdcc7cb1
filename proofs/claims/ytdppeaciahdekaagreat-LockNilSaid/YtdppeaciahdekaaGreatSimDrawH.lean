/- Regions that draw their order: all orders; and from the evaluator's run. -/
import Derived.Test.YtdppeaciahdekaaGreatSimDrawG
set_option linter.unusedSimpArgs false
namespace Go.Sim
open Classical

section
variable {ops : Array Oper} {n : Nat} {its : List DItem} {Ts : Nat → Tmps} {Hr : Nat → AHeap} {vl : Nat → AVal} {most : Nat} {live : Nat → Bool}
  {K : Nat → Prop} {ρ0 : Ren} {w0 : World} {a0 : Act} {call : CallF} {E : EnvD} {P : Program} {Q : Exit → Act → World → Prop}

/-- How many are not listed yet. -/
noncomputable def unl (its : List DItem) (listed : Array Bool) : Nat := ((List.range its.length).filter fun k => !sB its listed k).length

theorem filter_lt {l : List Nat} (hn : l.Nodup) {f g : Nat → Bool} {k : Nat} (hk : k ∈ l) (hf : f k = true) (hg : g k = false) (h : ∀ j, j ≠ k → g j = f j) : (l.filter g).length < (l.filter f).length := by
  induction l with
  | nil => cases hk
  | cons x l ih =>
    simp only [List.nodup_cons] at hn
    by_cases e : x = k
    · subst e
      have : l.filter g = l.filter f := List.filter_congr fun j hj => h j (fun e => hn.1 (e ▸ hj))
      simp [List.filter_cons, hf, hg, this]
    · have hkl : k ∈ l := by
        cases hk with
        | head => exact absurd rfl e
        | tail _ h => exact h
      have := ih hn.2 hkl
      simp only [List.filter_cons, h x e]
      split <;> simp <;> omega

theorem unl_set (hd : DOK P E ops its) {listed : Array Bool} (hl : listed.size = ops.size) {k : Nat} {d : DItem} (hk : its[k]? = some d) (hun : sB its listed k = false) : unl its (listed.setIfInBounds d.idx true) < unl its listed := by
  have hset := sB_set hd hl hk
  refine filter_lt List.nodup_range (List.mem_range.2 (List.getElem?_eq_some_iff.1 hk).1) (by simp [hun]) (by simp [hset]) fun j hj => by rw [hset, if_neg hj]

theorem ready_of_unlisted (hd : DOK P E ops its) {listed : Array Bool} (hl : listed.size = ops.size) (h : ∃ k, k < its.length ∧ sB its listed k = false) : Region.ready .any ops listed ≠ [] := by
  have hmin : ∀ m k, k ≤ m → k < its.length → sB its listed k = false → ∃ k, k < its.length ∧ sB its listed k = false ∧ ∀ q, q < k → sB its listed q = true := by
    intro m
    induction m with
    | zero => intro k hk hkl hs; exact ⟨k, hkl, hs, fun q hq => by omega⟩
    | succ m ih =>
      intro k hk hkl hs
      by_cases hq : ∃ q, q < k ∧ sB its listed q = false
      · obtain ⟨q, h1, h2⟩ := hq
        exact ih q (by omega) (by omega) h2
      · refine ⟨k, hkl, hs, fun q hq' => ?_⟩
        cases e : sB its listed q with
        | true => rfl
        | false => exact absurd ⟨q, hq', e⟩ hq
  obtain ⟨k, h1, h2⟩ := h
  obtain ⟨k, hkl, hs, hall⟩ := hmin k k (Nat.le_refl _) h1 h2
  have hk : its[k]? = some its[k] := List.getElem?_eq_getElem hkl
  generalize its[k] = d at hk
  obtain ⟨o, ho, _⟩ := hd.item k d hk
  have hlt : d.idx < ops.size := (Array.getElem?_eq_some_iff.1 ho).1
  have hmem : d.idx ∈ Region.ready .any ops listed := by
    rw [mem_ready]
    refine ⟨?_, o, ho, fun e he hb => ?_⟩
    · simp only [sB, hk] at hs
      have : d.idx < listed.size := by omega
      simp [this] at hs ⊢
      exact hs
    · obtain ⟨q, dq, h1, h2, h3⟩ := hd.edge k d o e hk ho he hb
      have := hall q h1
      simp only [sB, h2, h3] at this
      exact this
  intro e
  rw [e] at hmem; cases hmem

/-- Whatever order is drawn. -/
theorem draw_all (hE : EnvOK P E) (hcall : CallOK P E call) (hd : DOK P E ops its) (hr : RunOK call E n its Ts Hr vl most live)
    (hmost : most = its.length ∨ ∃ dm, its[most]? = some dm ∧ dm.cls = .W ∧ live most = false)
    (hend : ∀ (listed : Array Bool) (a : Act) (w : World) (j : Nat) (ρ σ : Ren), (∀ k, k < its.length → sB its listed k = true) → DI ops n its Ts Hr vl most live K ρ0 w0 a0 listed a w j ρ σ →
      (j = most ∨ (j < most ∧ ∃ d, its[j]? = some d ∧ wcls d.cls = true ∧ sB its listed j = false)) → Q .normal a w)
    (hpan : ∀ (k : Nat) (d : DItem), its[k]? = some d → live k = false → (d.pre.testBit most = true ∧ live most = false) ∨
      (k = most ∧ d.cls = .W ∧ (∀ t ∈ glooks d.it, tget (Ts most) t = lastw its vl (Ts 0) live t most) ∧ wchk d (Ts most) (Hr most) = true ∧ ∃ x H', dstep call E (Ts most) (Hr most) d.it = some (.pan x H') ∧
        ∀ (listed : Array Bool) (a : Act) (w : World) (j : Nat) (ρ σ : Ren), DI ops n its Ts Hr vl most live K ρ0 w0 a0 listed a w j ρ σ →
          ∀ v w' ρ', VR ρ' x v → ρ0.le ρ' → WR K ρ' H' w' → (∀ b, K b → w'.heap[b]? = w0.heap[b]?) → Grew w0 w' → Q (.panic [{ v, recovered := false }]) a w')) :
    ∀ (fuel : Nat) (listed : Array Bool) (a : Act) (w : World) (j : Nat) (ρ σ : Ren), unl its listed ≤ fuel → DI ops n its Ts Hr vl most live K ρ0 w0 a0 listed a w j ρ σ →
      (j = most ∨ (j < most ∧ ∃ d, its[j]? = some d ∧ wcls d.cls = true ∧ sB its listed j = false)) → wpAny P .any ops Q fuel listed a w := by
  have hfin : ∀ (listed : Array Bool) (a : Act) (w : World) (j : Nat) (ρ σ : Ren), DI ops n its Ts Hr vl most live K ρ0 w0 a0 listed a w j ρ σ →
      (j = most ∨ (j < most ∧ ∃ d, its[j]? = some d ∧ wcls d.cls = true ∧ sB its listed j = false)) → Region.ready .any ops listed = [] → Q .normal a w := by
    intro listed a w j ρ σ h hst hnil
    refine hend listed a w j ρ σ (fun k hk => ?_) h hst
    cases e : sB its listed k with
    | true => rfl
    | false => exact absurd hnil (ready_of_unlisted hd h.lsz ⟨k, hk, e⟩)
  intro fuel
  induction fuel with
  | zero =>
    intro listed a w j ρ σ hu h hst
    have hnil : Region.ready .any ops listed = [] := by
      cases hrr : Region.ready .any ops listed with
      | nil => rfl
      | cons i rest =>
        exfalso
        have hi : i ∈ Region.ready .any ops listed := by rw [hrr]; exact List.mem_cons_self
        obtain ⟨hun, o, ho, _⟩ := mem_ready.1 hi
        obtain ⟨k, d, hk, rfl⟩ := hd.sur i (Array.getElem?_eq_some_iff.1 ho).1
        have hs : sB its listed k = false := by
          simp only [sB, hk]
          have : d.idx < listed.size := by rw [h.lsz]; exact (Array.getElem?_eq_some_iff.1 ho).1
          simp [this] at hun ⊢; exact hun
        have := unl_set hd h.lsz hk hs
        omega
    exact ⟨hnil, hfin listed a w j ρ σ h hst hnil⟩
  | succ fuel ih =>
    intro listed a w j ρ σ hu h hst
    refine ⟨fun hnil => hfin listed a w j ρ σ h hst hnil, fun i hi => ?_⟩
    obtain ⟨hun, o, ho, _⟩ := mem_ready.1 hi
    obtain ⟨k, d, hk, rfl⟩ := hd.sur i (Array.getElem?_eq_some_iff.1 ho).1
    have hs : sB its listed k = false := by
      simp only [sB, hk]
      have : d.idx < listed.size := by rw [h.lsz]; exact (Array.getElem?_eq_some_iff.1 ho).1
      simp [this] at hun ⊢; exact hun
    have hlt := unl_set hd h.lsz hk hs
    have hnext : ∀ a' w' j' ρ' σ', DI ops n its Ts Hr vl most live K ρ0 w0 a0 (listed.setIfInBounds d.idx true) a' w' j' ρ' σ' → wpAny P .any ops Q fuel (listed.setIfInBounds d.idx true) a' w' := by
      intro a' w' j' ρ' σ' h'
      obtain ⟨j2, ρ2, σ2, h2, hst2⟩ := h'.settle hr _ j' ρ' σ' rfl
      exact ih _ a' w' j2 ρ2 σ2 (by omega) h2 hst2
    cases hlive : live k with
    | true =>
      cases hc : d.cls with
      | P =>
        have hcw : wcls d.cls = false := by rw [hc]; rfl
        have hp := hr.p k d hk hlive hc
        refine h.doQuiet hE hd hr hk hlive hi hs hcw ?_ fun a' h' => hnext a' w j ρ σ h'
        -- whatever touches no memory is the same at every heap
        unfold istep at hp ⊢
        split at hp
        · rename_i hw1
          split at hp
          · rename_i v H1 hop
            simp only [Option.some.injEq, Prod.mk.injEq] at hp
            obtain ⟨rfl, rfl⟩ := hp
            have hq : quietOp d.it.op = true := by have := hd.cls k d hk; rw [hc] at this; exact this
            have := (quiet_any hq hop).2.2 (Hr j)
            simp only [hw1, this]
          · cases hp
        · rename_i hw1
          simp only [Option.some.injEq, Prod.mk.injEq] at hp
          simp only [hw1, hp.1]
        · cases hp
      | R =>
        have hcw : wcls d.cls = false := by rw [hc]; rfl
        have hjle := Nat.le_trans h.jm hr.most_le
        have hW : j = its.length ∨ ∃ dj, its[j]? = some dj ∧ wcls dj.cls = true := by
          rcases hst with e | ⟨_, dj, e2, e3, _⟩
          · rcases hmost with e2 | ⟨dm, e2, e3, _⟩
            · exact .inl (by omega)
            · exact .inr ⟨dm, by rw [e]; exact e2, by rw [e3]; rfl⟩
          · exact .inr ⟨dj, e2, e3⟩
        have hcand : j ∈ d.cand := by
          refine hd.cand k d j hk hc hjle hW ?_ ?_
          · cases e : d.pre.testBit j with
            | false => rfl
            | true =>
              exfalso
              have hl := hangs_ready h.closed (hd.pre k d j hk e) d hk hi
              rcases hst with e2 | ⟨_, dj, e2, e3, e4⟩
              · subst e2
                rcases hmost with e2 | ⟨dm, e2, e3, e4⟩
                · have : its[j]? = none := List.getElem?_eq_none (by omega)
                  simp [sB, this] at hl
                · have := h.lv j hl
                  rw [e4] at this; cases this
              · rw [e4] at hl; cases hl
          · intro x dx hx hdx hwx
            cases e : dx.pre.testBit k with
            | false => rfl
            | true =>
              exfalso
              have := hangs_listed h.closed (hd.pre x dx k hdx e) (h.below x dx hx hdx hwx)
              rw [hs] at this; cases this
        exact h.doQuiet hE hd hr hk hlive hi hs hcw (hr.r k d j hk hlive hc hcand h.jm) fun a' h' => hnext a' w j ρ σ h'
      | A => exact h.doMake hE hd hr hk hlive hi hs hc fun a' w' σ' h' => hnext a' w' j ρ σ' h'
      | W => exact h.doLoud hE hcall hd hr hst hk hlive hi hs hc fun a' w' j' ρ' h' => hnext a' w' j' ρ' σ h'
    | false =>
      rcases hpan k d hk hlive with ⟨hp, hl⟩ | ⟨rfl, hc, hlw, hchk, x, H', hstep, hQ⟩
      · have := hangs_ready h.closed (hd.pre k d most hk hp) d hk hi
        have := h.lv most this
        rw [hl] at this; cases this
      · exact h.doPanic hE hcall hd hr hst hk hc hlw hi hs hstep hchk (hQ listed a w j ρ σ h)
end
end Go.Sim
