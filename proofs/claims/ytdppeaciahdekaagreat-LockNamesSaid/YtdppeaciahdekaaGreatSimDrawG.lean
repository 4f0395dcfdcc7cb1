/- Regions that draw their order: stores and calls; a call that panics. -/
import Derived.Test.YtdppeaciahdekaaGreatSimDrawF
set_option linter.unusedSimpArgs false
namespace Go.Sim
open Classical

section
variable {ops : Array Oper} {n : Nat} {its : List DItem} {Ts : Nat → Tmps} {Hr : Nat → AHeap} {vl : Nat → AVal} {most : Nat} {live : Nat → Bool}
  {K : Nat → Prop} {ρ0 : Ren} {w0 : World} {a0 : Act} {listed : Array Bool} {a : Act} {w : World} {j : Nat} {ρ σ : Ren} {call : CallF} {E : EnvD} {P : Program}
  {Q : Exit → Act → World → Prop} {Kc : Act → World → Prop}

theorem scAll_mem {T : Tmps} {m : Nat} : ∀ {l : List Nat}, scAll T m l = true → ∀ t ∈ l, scV m depth (tget T t) = true
  | [], _, t, h => by cases h
  | x :: l, h, t, ht => by
    simp only [scAll, Bool.and_eq_true] at h
    cases ht with
    | head => exact h.1
    | tail _ ht => exact scAll_mem h.2 t ht

/-- The slots that an operation looks at, where they speak of old blocks alone; of the others nobody asks. -/
theorem DI.narrow (hr : RunOK call E n its Ts Hr vl most live) (h : DI ops n its Ts Hr vl most live K ρ0 w0 a0 listed a w j ρ σ) {L : List Nat} {T Tk : Tmps} (hT : TR (join ρ σ) T a.tmps) (hag : ∀ t ∈ L, tget T t = tget Tk t) (hsc : scAll Tk (Hr j).next L = true) :
    ∃ T' : Tmps, TR ρ T' a.tmps ∧ ∀ t ∈ L, tget T' t = tget Tk t := by
  obtain ⟨T', hT'⟩ := exists_tmps (fun t => if t ∈ L then tget T t else .junk) (max n (L.foldr max 0 + 1))
  have hmax : ∀ (l : List Nat) t, t ∈ l → t ≤ l.foldr max 0 := by
    intro l
    induction l with
    | nil => intro t h; cases h
    | cons x l ih =>
      intro t h
      simp only [List.foldr_cons]
      cases h with
      | head => exact Nat.le_max_left _ _
      | tail _ h => exact Nat.le_trans (ih t h) (Nat.le_max_right _ _)
  refine ⟨T', fun t => ?_, fun t ht => ?_⟩
  · rw [hT']
    by_cases hlt : t < max n (L.foldr max 0 + 1)
    · rw [if_pos hlt]
      by_cases hL : t ∈ L
      · simp only [hL, if_true]
        refine scV_sound (m := (Hr j).next) (fun i l hi e => ?_) depth _ _ (by rw [hag t hL]; exact scAll_mem hsc t hL) (hT t)
        unfold join at e
        split at e
        · rename_i l' e'; rw [e']; exact e
        · have := h.sgge hr.mono e; omega
      · simp only [hL, if_false]; exact .junk _
    · rw [if_neg hlt]
      have : a.tmps.getD t Go.undef = Go.undef := by
        have := h.sz
        simp [Array.getD_eq_getD_getElem?, Array.getElem?_eq_none (show a.tmps.size ≤ t by omega)]
      rw [this]; exact VR.undef _
  · have := hmax L t ht
    rw [hT', if_pos (by omega)]
    simp only [ht, if_true]
    exact hag t ht

/-- Behind a store or a call. -/
theorem DI.loud (hd : DOK P E ops its) (hr : RunOK call E n its Ts Hr vl most live) (h : DI ops n its Ts Hr vl most live K ρ0 w0 a0 listed a w j ρ σ) {d : DItem} (hk : its[j]? = some d) (hlive : live j = true)
    (hready : d.idx ∈ Region.ready .any ops listed) (hun : sB its listed j = false) (hc : d.cls = .W) (hj : j < most) {ρ' : Ren} {v : Value} {w' : World} (hv : VR ρ' (vl j) v) (hp : Post (held K σ) ρ w ρ' (Hr (j + 1)) w') :
    DI ops n its Ts Hr vl most live K ρ0 w0 a0 (listed.setIfInBounds d.idx true) (a.put d.it.dst v) w' (j + 1) ρ' σ := by
  have hset := sB_set hd h.lsz hk
  have hsj : ∀ i l, σ i = some l → (Hr (j + 1)).next ≤ i := by
    intro i l e
    obtain ⟨k', dk, c', cs', t', z1, z2, z3, z4, z5, _⟩ := h.sg i l e
    rw [z5]
    refine mono_le hr.mono ?_
    rcases Nat.lt_or_ge j k' with h' | h'
    · exact h'
    · have : k' = j := by omega
      subst this
      rw [hk] at z2; cases z2
      rw [z3] at hc; cases hc
  have hjle : (join ρ σ).le (join ρ' σ) := by
    intro i li ei
    cases e' : ρ i with
    | some l' =>
      have h1 : join ρ σ i = some l' := by simp [join, e']
      have h2 : join ρ' σ i = some l' := by simp [join, hp.le _ _ e']
      rw [h1] at ei; rw [h2]; exact ei
    | none =>
      have h1 : join ρ σ i = σ i := by simp [join, e']
      rw [h1] at ei
      have h3 : ρ' i = none := by
        cases e2 : ρ' i with
        | none => rfl
        | some l2 =>
          have := hp.wr.dom i l2 e2
          have := hsj i li ei
          omega
      have h2 : join ρ' σ i = σ i := by simp [join, h3]
      rw [h2]; exact ei
  obtain ⟨p1, p2, p3, p4⟩ := h.put hd hk hun hjle (hv.mono (le_join ρ' σ)) fun x hx => hr.dst j d x hk hlive hx
  refine ⟨p2, p3, by simpa using h.lsz, closed_set h.closed hready, h.lv' hd hk hlive, hj, ?_, ?_, hp.wr, Ren.le_trans h.le hp.le, ?_, h.sginj, ?_, p1, p4, fun b hb => (hp.keep b (.inl hb)).trans (h.keep b hb), h.grow.trans hp.size⟩
  · intro i di hi hdi hw
    rw [hset]; split
    · rfl
    · exact h.below i di (by omega) hdi hw
  · intro i di hi hdi hw
    rw [hset, if_neg (by omega)]
    exact h.above i di (by omega) hdi hw
  · intro i li ei
    obtain ⟨k', dk, c', cs', t', z1, z2, z3, z4, z5, z6, z7, z8, z9, z10⟩ := h.sg i li ei
    refine ⟨k', dk, c', cs', t', ?_, z2, z3, by rw [hset]; split <;> first | rfl | exact z4, z5, z6, ?_, z8, z9.mono hjle, z10⟩
    · rcases Nat.lt_or_ge j k' with h' | h'
      · exact h'
      · have : k' = j := by omega
        subst this
        rw [hk] at z2; cases z2
        rw [z3] at hc; cases hc
    · rw [hp.keep _ (.inr ⟨i, li, ei, rfl⟩)]; exact z7
  · intro k' dk z1 z2 z3 z4
    rw [hset, if_neg (by omega)] at z4
    exact h.sgall k' dk (by omega) z2 z3 z4

/-- The one that may not be done yet stands where the evaluator stands. -/
theorem DI.atW (hd : DOK P E ops its) (h : DI ops n its Ts Hr vl most live K ρ0 w0 a0 listed a w j ρ σ) (hst : j = most ∨ (j < most ∧ ∃ d, its[j]? = some d ∧ wcls d.cls = true ∧ sB its listed j = false)) {k : Nat} {d : DItem} (hk : its[k]? = some d)
    (hready : d.idx ∈ Region.ready .any ops listed) (hun : sB its listed k = false) (hc : d.cls = .W) (hkm : k ≤ most) : k = j := by
  rcases Nat.lt_trichotomy k j with h' | h' | h'
  · have := h.below k d h' hk (by rw [hc]; rfl)
    rw [hun] at this; cases this
  · exact h'
  · exfalso
    rcases hst with e | ⟨hj, dj, e1, e2, e3⟩
    · omega
    · have hp := hd.c1 j k dj d h' e1 hk e2 hc
      have := hangs_ready h.closed (hd.pre k d j hk hp) d hk hready
      rw [e3] at this; cases this

/-- A store, or a call. -/
theorem DI.doLoud (hE : EnvOK P E) (hcall : CallOK P E call) (hd : DOK P E ops its) (hr : RunOK call E n its Ts Hr vl most live) (h : DI ops n its Ts Hr vl most live K ρ0 w0 a0 listed a w j ρ σ)
    (hst : j = most ∨ (j < most ∧ ∃ d, its[j]? = some d ∧ wcls d.cls = true ∧ sB its listed j = false)) {k : Nat} {d : DItem} (hk : its[k]? = some d) (hlive : live k = true)
    (hready : d.idx ∈ Region.ready .any ops listed) (hun : sB its listed k = false) (hc : d.cls = .W)
    (hK : ∀ a' w' j' ρ', DI ops n its Ts Hr vl most live K ρ0 w0 a0 (listed.setIfInBounds d.idx true) a' w' j' ρ' σ → Kc a' w') : wpOp P ops Q d.idx Kc a w := by
  obtain ⟨hkm, hstep, hchk⟩ := hr.w k d hk hlive hc
  have hkj := h.atW hd hst hk hready hun hc (Nat.le_of_lt hkm)
  subst hkj
  obtain ⟨T, hT, hag⟩ := h.sees hd hr hk hlive hready hun
  obtain ⟨o, ho, hio⟩ := item_of hd hk
  have hwl : scAll (Ts k) (Hr k).next (looks d.it.op) = true := by
    unfold wchk at hchk; rw [hc] at hchk; exact hchk
  obtain ⟨T', hT', hag'⟩ := h.narrow hr hT (L := looks d.it.op) (fun t ht => hag t (List.mem_append.2 (.inl ht))) hwl
  have hwant : wantedA T d.it.guard = wantedA (Ts k) d.it.guard := wanted_congr fun t ht => hag t (List.mem_append.2 (.inr ht))
  have haop : aop E T' (Hr k) d.it.op = aop E (Ts k) (Hr k) d.it.op := aop_congr hag'
  refine wpOp_some ho ?_
  unfold dstep at hstep
  split at hstep
  · cases hstep
  · rename_i hw1
    rw [wanted_sound hT hio.guard (hwant.trans hw1)]
    simp only [if_true]
    split at hstep
    · rename_i v H1 hop
      simp only [Option.some.injEq, DRes.val.injEq] at hstep
      obtain ⟨rfl, rfl⟩ := hstep
      obtain ⟨ρ1, v', w1, g1, g2, g3⟩ := op_sound hE hT' h.wr (comp_of hio hop) (haop.trans hop)
      unfold Oper.wp
      rcases g1 with g1 | ⟨g1, rfl⟩
      · rw [g1]
        simp only [Oper.upon]
        rw [hio.dst]
        exact hK _ _ _ _ (h.loud hd hr hk hlive hready hun hc hkm g2 g3)
      · rw [g1]
        simp only [Oper.upon]
        rw [hio.dst]
        exact hK _ _ _ _ (h.loud hd hr hk hlive hready hun hc hkm g2 g3)
    · rename_i f args H1 hop
      obtain ⟨l', g1, g2, g3, g4⟩ := op_sound hE hT' h.wr (comp_of hio hop) (haop.trans hop)
      subst g3
      unfold Oper.wp
      rw [g1]
      simp only [Oper.upon]
      split at hstep
      · rename_i v H2 hcl
        simp only [Option.some.injEq, DRes.val.injEq] at hstep
        obtain ⟨rfl, rfl⟩ := hstep
        refine (hcall f args (Hr k) _ hcl g4 (held K σ) ρ w l' g2 h.wr).mono fun e w' hp => ?_
        obtain ⟨ρ1, v', rfl, p1, p2⟩ := hp
        simp only
        rw [hio.dst]
        exact hK _ _ _ _ (h.loud hd hr hk hlive hready hun hc hkm p1 p2)
      · cases hstep
      · cases hstep
    · cases hstep
  · rename_i hw1
    rw [wanted_sound hT hio.guard (hwant.trans hw1)]
    simp only [Bool.false_eq_true, if_false]
    simp only [Option.some.injEq, DRes.val.injEq] at hstep
    obtain ⟨h1, h2⟩ := hstep
    rw [hio.dst]
    refine hK _ _ _ _ (h.loud hd hr hk hlive hready hun hc hkm (ρ' := ρ) (v := Go.undef) (w' := w) (by rw [← h1]; exact VR.undef _) ?_)
    rw [← h2]; exact Post.refl h.wr

/-- A call that panics. -/
theorem DI.doPanic (hE : EnvOK P E) (hcall : CallOK P E call) (hd : DOK P E ops its) (hr : RunOK call E n its Ts Hr vl most live) (h : DI ops n its Ts Hr vl most live K ρ0 w0 a0 listed a w j ρ σ)
    (hst : j = most ∨ (j < most ∧ ∃ d, its[j]? = some d ∧ wcls d.cls = true ∧ sB its listed j = false)) {d : DItem} (hk : its[most]? = some d) (hc : d.cls = .W)
    (hlw : ∀ t ∈ glooks d.it, tget (Ts most) t = lastw its vl (Ts 0) live t most)
    (hready : d.idx ∈ Region.ready .any ops listed) (hun : sB its listed most = false) {x : AVal} {H' : AHeap} (hstep : dstep call E (Ts most) (Hr most) d.it = some (.pan x H')) (hchk : wchk d (Ts most) (Hr most) = true)
    (hQ : ∀ v w' ρ', VR ρ' x v → ρ0.le ρ' → WR K ρ' H' w' → (∀ b, K b → w'.heap[b]? = w0.heap[b]?) → Grew w0 w' → Q (.panic [{ v, recovered := false }]) a w') : wpOp P ops Q d.idx Kc a w := by
  have hkj := h.atW hd hst hk hready hun hc (Nat.le_refl _)
  subst hkj
  -- what it looks at
  have hag0 : ∀ t ∈ glooks d.it, lastw its vl (Ts 0) (sB its listed) t its.length = tget (Ts most) t := by
    intro t ht
    have hkl : most < its.length := (List.getElem?_eq_some_iff.1 hk).1
    rw [hlw t ht]
    rw [lastw_more (n := most) (Nat.le_of_lt hkl)]
    · refine lastw_congr fun k' d' hk' hd' hdst => ?_
      have hp := hd.s1 k' most d' d t hk' hd' hk (.inl ⟨hdst, .inl ht⟩)
      have := hangs_ready h.closed (hd.pre most d k' hk hp) d hk hready
      rw [this, h.lv k' this]
    · intro k' d' hk' hd' hdst
      by_cases e : k' = most
      · subst e; exact hun
      · cases hs : sB its listed k' with
        | false => rfl
        | true =>
          have hp := hd.s1 most k' d d' t (by omega) hk hd' (.inr ⟨hdst, ht⟩)
          have := hangs_listed h.closed (hd.pre k' d' most hd' hp) hs
          rw [hun] at this; cases this
  obtain ⟨T, hT, hT2⟩ := h.table ((glooks d.it).foldr max 0 + 1)
  have hmax : ∀ (l : List Nat) t, t ∈ l → t ≤ l.foldr max 0 := by
    intro l
    induction l with
    | nil => intro t h; cases h
    | cons x l ih =>
      intro t h
      simp only [List.foldr_cons]
      cases h with
      | head => exact Nat.le_max_left _ _
      | tail _ h => exact Nat.le_trans (ih t h) (Nat.le_max_right _ _)
  have hag : ∀ t ∈ glooks d.it, tget T t = tget (Ts most) t := fun t ht => (hT2 t (by have := hmax _ t ht; omega)).trans (hag0 t ht)
  obtain ⟨o, ho, hio⟩ := item_of hd hk
  have hwl : scAll (Ts most) (Hr most).next (looks d.it.op) = true := by
    unfold wchk at hchk; rw [hc] at hchk; exact hchk
  obtain ⟨T', hT', hag'⟩ := h.narrow hr hT (L := looks d.it.op) (fun t ht => hag t (List.mem_append.2 (.inl ht))) hwl
  have hwant : wantedA T d.it.guard = wantedA (Ts most) d.it.guard := wanted_congr fun t ht => hag t (List.mem_append.2 (.inr ht))
  have haop : aop E T' (Hr most) d.it.op = aop E (Ts most) (Hr most) d.it.op := aop_congr hag'
  refine wpOp_some ho ?_
  unfold dstep at hstep
  split at hstep
  · cases hstep
  · rename_i hw1
    rw [wanted_sound hT hio.guard (hwant.trans hw1)]
    simp only [if_true]
    split at hstep
    · cases hstep
    · rename_i f args H1 hop
      obtain ⟨l', g1, g2, g3, g4⟩ := op_sound hE hT' h.wr (comp_of hio hop) (haop.trans hop)
      subst g3
      unfold Oper.wp
      rw [g1]
      simp only [Oper.upon]
      split at hstep
      · cases hstep
      · rename_i v H2 hcl
        simp only [Option.some.injEq, DRes.pan.injEq] at hstep
        obtain ⟨rfl, rfl⟩ := hstep
        refine (hcall f args (Hr most) _ hcl g4 (held K σ) ρ w l' g2 h.wr).mono fun e w' hp => ?_
        obtain ⟨ρ1, v', rfl, p1, p2⟩ := hp
        simp only
        exact hQ v' w' ρ1 p1 (Ren.le_trans h.le p2.le) (p2.wr.anti fun b hb => .inl hb) (fun b hb => (p2.keep b (.inl hb)).trans (h.keep b hb)) (h.grow.trans p2.size)
      · cases hstep
    · cases hstep
  · simp at hstep
end
end Go.Sim
