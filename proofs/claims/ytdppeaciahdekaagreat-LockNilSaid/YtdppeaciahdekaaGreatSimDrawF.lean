/- Regions that draw their order: the model does what stands next. -/
import Derived.Test.YtdppeaciahdekaaGreatSimDrawE
set_option linter.unusedSimpArgs false
namespace Go.Sim
open Classical

section
variable {ops : Array Oper} {n : Nat} {its : List DItem} {Ts : Nat → Tmps} {Hr : Nat → AHeap} {vl : Nat → AVal} {most : Nat} {live : Nat → Bool}
  {K : Nat → Prop} {ρ0 : Ren} {w0 : World} {a0 : Act} {listed : Array Bool} {a : Act} {w : World} {j : Nat} {ρ σ : Ren} {call : CallF} {E : EnvD} {P : Program}
  {Q : Exit → Act → World → Prop} {Kc : Act → World → Prop}

theorem wanted_congr {T T' : Tmps} {g : Option (Nat × Bool)} (h : ∀ t ∈ (match g with | some (t, _) => [t] | none => []), tget T t = tget T' t) : wantedA T g = wantedA T' g := by
  cases g with
  | none => rfl
  | some p => obtain ⟨t, b⟩ := p; simp only [wantedA]; rw [h t (by simp)]

theorem istep_congr {T T' : Tmps} {H : AHeap} {it : AItem} (h : ∀ t ∈ glooks it, tget T t = tget T' t) : istep E T H it = istep E T' H it := by
  unfold istep
  rw [wanted_congr (T := T) (T' := T') fun t ht => h t (List.mem_append.2 (.inr ht)), aop_congr (T := T) (T' := T') fun t ht => h t (List.mem_append.2 (.inl ht))]

theorem DI.wrJoin (hr : RunOK call E n its Ts Hr vl most live) (h : DI ops n its Ts Hr vl most live K ρ0 w0 a0 listed a w j ρ σ) :
    WR (held K σ) (join ρ σ) ⟨(Hr its.length).next + 1, (Hr j).tree⟩ w := by
  have hw := h.wr
  have hj := Nat.le_trans h.jm hr.most_le
  have key : ∀ i b l, (Hr j).get i = some b → join ρ σ i = some l → ρ i = some l := by
    intro i b l hb e
    obtain ⟨l', o, y1, _⟩ := hw.live i b hb
    have := le_join ρ σ i l' y1
    rw [this] at e; cases e; exact y1
  refine ⟨fun i b hb => ?_, fun i i' bi bj li lj hi hj hli hlj e => hw.inj i i' bi bj li lj hi hj (key _ _ _ hi hli) (key _ _ _ hj hlj) e, fun i l e => ?_, hw.kb⟩
  · obtain ⟨l, o, y1, y2, y3, y4⟩ := hw.live i b hb
    exact ⟨l, o, le_join ρ σ _ _ y1, y2, y3.mono (le_join ρ σ), y4⟩
  · show i < (Hr its.length).next + 1
    unfold join at e
    split at e
    · rename_i l' e'
      have := hw.dom i l' e'
      have := mono_le hr.mono hj
      omega
    · obtain ⟨k, d, _, _, _, _, hk, _, _, rfl, _⟩ := h.sg i l e
      have hk' : k < its.length := (List.getElem?_eq_some_iff.1 hk).1
      have := mono_le hr.mono (Nat.le_of_lt hk')
      omega

/-- The table of the slots, as the operation that stands next sees it. -/
theorem DI.sees (hd : DOK P E ops its) (hr : RunOK call E n its Ts Hr vl most live) (h : DI ops n its Ts Hr vl most live K ρ0 w0 a0 listed a w j ρ σ) {k : Nat} {d : DItem} (hk : its[k]? = some d) (hlive : live k = true)
    (hready : d.idx ∈ Region.ready .any ops listed) (hun : sB its listed k = false) : ∃ T : Tmps, TR (join ρ σ) T a.tmps ∧ ∀ t ∈ glooks d.it, tget T t = tget (Ts k) t := by
  obtain ⟨T, h1, h2⟩ := h.table ((glooks d.it).foldr max 0 + 1)
  refine ⟨T, h1, fun t ht => ?_⟩
  rw [h2 t ?_]
  · exact h.agree hd hr hk hlive hready hun t ht
  · have : ∀ (l : List Nat) t, t ∈ l → t ≤ l.foldr max 0 := by
      intro l
      induction l with
      | nil => intro t h; cases h
      | cons x l ih =>
        intro t h
        simp only [List.foldr_cons]
        cases h with
        | head => exact Nat.le_max_left _ _
        | tail _ h => exact Nat.le_trans (ih t h) (Nat.le_max_right _ _)
    have := this _ t ht
    omega

theorem item_of (hd : DOK P E ops its) {k : Nat} {d : DItem} (hk : its[k]? = some d) : ∃ o, ops[d.idx]? = some o ∧ ItemOK P E ops o d.it := hd.item k d hk

theorem wpOp_some {i : Nat} {o : Oper} (ho : ops[i]? = some o) (h : if Region.wanted o (yielded ops a.tmps) = true then o.wp P a w Kc Q else Kc (a.put o.dst Go.undef) w) : wpOp P ops Q i Kc a w := by
  unfold wpOp
  rw [ho]
  simp only
  by_cases hw : Region.wanted o (yielded ops a.tmps) = true
  · rw [if_pos hw] at h ⊢; exact .inl h
  · rw [if_neg hw] at h ⊢; exact h

theorem comp_of {o : Oper} {it : AItem} {T : Tmps} {H : AHeap} {r : AOut × AHeap} (hi : ItemOK P E ops o it) (he : aop E T H it.op = some r) : comp P E o.op = some it.op := by
  rcases hi.op with h | h
  · exact h
  · rw [h] at he; cases he

/-- An operation that reckons or reads. -/
theorem DI.doQuiet (hE : EnvOK P E) (hd : DOK P E ops its) (hr : RunOK call E n its Ts Hr vl most live) (h : DI ops n its Ts Hr vl most live K ρ0 w0 a0 listed a w j ρ σ) {k : Nat} {d : DItem} (hk : its[k]? = some d) (hlive : live k = true)
    (hready : d.idx ∈ Region.ready .any ops listed) (hun : sB its listed k = false) (hc : wcls d.cls = false) (hi : istep E (Ts k) (Hr j) d.it = some (vl k, Hr j))
    (hK : ∀ a', DI ops n its Ts Hr vl most live K ρ0 w0 a0 (listed.setIfInBounds d.idx true) a' w j ρ σ → Kc a' w) : wpOp P ops Q d.idx Kc a w := by
  obtain ⟨T, hT, hag⟩ := h.sees hd hr hk hlive hready hun
  obtain ⟨o, ho, hio⟩ := item_of hd hk
  rw [← istep_congr hag] at hi
  have hcl := hd.cls k d hk
  have hq : quietOp d.it.op = true ∨ readOp d.it.op = true := by
    cases e : d.cls with
    | P => rw [e] at hcl; exact .inl hcl
    | R =>
      rw [e] at hcl
      simp only [clsOK, Bool.or_eq_true] at hcl
      exact hcl
    | A => rw [e] at hc; cases hc
    | W => rw [e] at hc; cases hc
  refine wpOp_some ho ?_
  unfold istep at hi
  split at hi
  · rename_i hwant
    rw [wanted_sound hT hio.guard hwant]
    simp only [if_true]
    split at hi
    · rename_i v H1 hop
      simp only [Option.some.injEq, Prod.mk.injEq] at hi
      obtain ⟨rfl, rfl⟩ := hi
      obtain ⟨v', h1, h2⟩ := quiet_sound (H := Hr j) hE hq hT (h.wrJoin hr) (comp_of hio hop) hop
      unfold Oper.wp
      rw [h1]
      simp only [Oper.upon]
      rw [hio.dst]
      exact hK _ (h.quiet hd hr hk hlive hready hun hc h2)
    · cases hi
  · rename_i hwant
    rw [wanted_sound hT hio.guard hwant]
    simp only [Bool.false_eq_true, if_false]
    simp only [Option.some.injEq, Prod.mk.injEq] at hi
    rw [hio.dst]
    exact hK _ (h.quiet hd hr hk hlive hready hun hc (by rw [← hi.1]; exact VR.undef _))
  · cases hi

/-- An operation that makes new memory. -/
theorem DI.doMake (hE : EnvOK P E) (hd : DOK P E ops its) (hr : RunOK call E n its Ts Hr vl most live) (h : DI ops n its Ts Hr vl most live K ρ0 w0 a0 listed a w j ρ σ) {k : Nat} {d : DItem} (hk : its[k]? = some d) (hlive : live k = true)
    (hready : d.idx ∈ Region.ready .any ops listed) (hun : sB its listed k = false) (hc : d.cls = .A)
    (hK : ∀ a' w' σ', DI ops n its Ts Hr vl most live K ρ0 w0 a0 (listed.setIfInBounds d.idx true) a' w' j ρ σ' → Kc a' w') : wpOp P ops Q d.idx Kc a w := by
  obtain ⟨T, hT, hag⟩ := h.sees hd hr hk hlive hready hun
  obtain ⟨o, ho, hio⟩ := item_of hd hk
  obtain ⟨hi, hchk⟩ := hr.a k d hk hlive hc
  rw [← istep_congr hag] at hi
  have hset := sB_set hd h.lsz hk
  have hkl : k < its.length := (List.getElem?_eq_some_iff.1 hk).1
  have hjk : j ≤ k := by
    rcases Nat.lt_or_ge k j with h' | h'
    · have := h.below k d h' hk (by rw [hc]; rfl)
      rw [hun] at this; cases this
    · exact h'
  have hbelow : ∀ (i : Nat) (di : DItem), i < j → its[i]? = some di → wcls di.cls = true → sB its (listed.setIfInBounds d.idx true) i = true := by
    intro i di hi hdi hw
    rw [hset]; split
    · rfl
    · exact h.below i di hi hdi hw
  have habove : ∀ (i : Nat) (di : DItem), j ≤ i → its[i]? = some di → di.cls = .W → sB its (listed.setIfInBounds d.idx true) i = false := by
    intro i di hi hdi hw
    rw [hset]; split
    · rename_i e; subst e; rw [hk] at hdi; cases hdi; rw [hw] at hc; cases hc
    · exact h.above i di hi hdi hw
  refine wpOp_some ho ?_
  unfold istep at hi
  split at hi
  · rename_i hwant
    rw [wanted_sound hT hio.guard hwant]
    simp only [if_true]
    split at hi
    · rename_i v H1 hop
      simp only [Option.some.injEq, Prod.mk.injEq] at hi
      obtain ⟨rfl, hH⟩ := hi
      have hmk : makeOp d.it.op = true := by have := hd.cls k d hk; rw [hc] at this; exact this
      obtain ⟨c, cs, e, v', m1, m2, m3, m4, m5, _⟩ := make_sound (w := w) hE hmk hT (comp_of hio hop) hop
      rw [hH] at m1
      unfold Oper.wp
      rw [m2]
      simp only [Oper.upon]
      rw [hio.dst]
      let l : Loc := ⟨w.heap.size, 0, 0⟩
      let σ' : Ren := fun i => if i = (Hr k).next then some l else σ i
      have hρ : ρ (Hr k).next = none := h.fresh (mono_le hr.mono hjk)
      have hσ : σ (Hr k).next = none := by
        cases e' : σ (Hr k).next with
        | none => rfl
        | some l' =>
          obtain ⟨k', dk, c', cs', t', z1, z2, z3, z4, z5, z6, _⟩ := h.sg _ l' e'
          have hne : k' ≠ k := by rintro rfl; rw [hun] at z4; cases z4
          rcases Nat.lt_or_ge k' k with hlt | hge
          · have := mono_le hr.mono (show k' + 1 ≤ k from hlt)
            rw [z6] at this
            have : (Hr k').next + 1 ≤ (Hr k).next := this
            omega
          · have := mono_le hr.mono (show k + 1 ≤ k' by omega)
            rw [m1] at this
            have : (Hr k).next + 1 ≤ (Hr k').next := this
            omega
      have hjle : (join ρ σ).le (join ρ σ') := by
        intro i li ei
        cases e' : ρ i with
        | some l' =>
          have h1 : join ρ σ i = some l' := by simp [join, e']
          have h2 : join ρ σ' i = some l' := by simp [join, e']
          rw [h1] at ei; rw [h2]; exact ei
        | none =>
          have h1 : join ρ σ i = σ i := by simp [join, e']
          have h2 : join ρ σ' i = σ' i := by simp [join, e']
          rw [h1] at ei; rw [h2]
          show (if i = (Hr k).next then some l else σ i) = some li
          rw [if_neg]
          · exact ei
          · rintro rfl; rw [hσ] at ei; cases ei
      have hjn : join ρ σ' (Hr k).next = some l := by
        unfold join; rw [hρ]; exact if_pos rfl
      have hv : VR (join ρ σ') (vl k) v' := m5 _ hjn
      obtain ⟨p1, p2, p3, p4⟩ := h.put hd hk hun hjle hv fun x hx => hr.dst k d x hk hlive hx
      have hσs : ∀ i li, σ' i = some li → (i = (Hr k).next ∧ li = l) ∨ (i ≠ (Hr k).next ∧ σ i = some li) := by
        intro i li ei
        have ei' : (if i = (Hr k).next then some l else σ i) = some li := ei
        split at ei'
        · rename_i e1; cases ei'; exact .inl ⟨e1, rfl⟩
        · rename_i e1; exact .inr ⟨e1, ei'⟩
      refine hK _ _ σ' ⟨p2, p3, by simpa using h.lsz, closed_set h.closed hready, h.lv' hd hk hlive, h.jm, hbelow, habove, ?_, h.le, ?_, ?_, ?_, p1, p4, ?_, ?_⟩
      · have hw := h.wr
        have hlt : ∀ i b li, (Hr j).get i = some b → ρ i = some li → li.blk < w.heap.size := fun i b li hb e => hw.lt hb e
        refine ⟨fun i b hb => ?_, hw.inj, hw.dom, fun b hb => ?_⟩
        · obtain ⟨li, ob, y1, y2, y3, y4⟩ := hw.live i b hb
          refine ⟨li, ob, y1, by rw [heap_alloc_old w _ _ (hlt i b li hb y1)]; exact y2, y3, ?_⟩
          rintro (hb' | ⟨i', l', e1, e2⟩)
          · exact y4 (.inl hb')
          · rcases hσs i' l' e1 with ⟨_, rfl⟩ | ⟨_, e3⟩
            · have := hlt i b li hb y1
              have : l.blk = w.heap.size := rfl
              omega
            · exact y4 (.inr ⟨i', l', e3, e2⟩)
        · have : b < w.heap.size ∨ b = w.heap.size := by
            rcases hb with hb' | ⟨i', l', e1, e2⟩
            · exact .inl (hw.kb b (.inl hb'))
            · rcases hσs i' l' e1 with ⟨_, rfl⟩ | ⟨_, e3⟩
              · exact .inr e2.symm
              · exact .inl (hw.kb b (.inr ⟨i', l', e3, e2⟩))
          simp; omega
      · intro i li ei
        rcases hσs i li ei with ⟨rfl, rfl⟩ | ⟨hne, e3⟩
        · refine ⟨k, d, c, cs, e, hjk, hk, hc, by rw [hset, if_pos rfl], rfl, m1, heap_alloc_new w _, m3, m4.mono hjle, ?_, rfl, rfl, fun hb => ?_⟩
          · unfold achk at hchk
            rw [hc] at hchk
            simp only at hchk
            rw [m1, AHeap.get_new, if_pos rfl] at hchk
            exact hchk
          · have := h.wr.kb _ (.inl hb)
            have : l.blk = w.heap.size := rfl
            omega
        · obtain ⟨k', dk, c', cs', t', z1, z2, z3, z4, z5, z6, z7, z8, z9, z10⟩ := h.sg i li e3
          refine ⟨k', dk, c', cs', t', z1, z2, z3, by rw [hset]; split <;> first | rfl | exact z4, z5, z6, ?_, z8, z9.mono hjle, z10⟩
          rw [heap_alloc_old w _ _ (Array.getElem?_eq_some_iff.1 z7).1]; exact z7
      · intro i i' li li' e1 e2 e3
        have hlt : ∀ i li, σ i = some li → li.blk < w.heap.size := fun i li e => h.wr.kb _ (.inr ⟨i, li, e, rfl⟩)
        rcases hσs i li e1 with ⟨rfl, rfl⟩ | ⟨_, e4⟩
        · rcases hσs i' li' e2 with ⟨rfl, rfl⟩ | ⟨_, e5⟩
          · rfl
          · have := hlt _ _ e5
            have h' : w.heap.size = li'.blk := e3
            omega
        · rcases hσs i' li' e2 with ⟨rfl, rfl⟩ | ⟨_, e5⟩
          · have := hlt _ _ e4
            have h' : li.blk = w.heap.size := e3
            omega
          · exact h.sginj i i' li li' e4 e5 e3
      · intro k' dk z1 z2 z3 z4
        rw [hset] at z4
        split at z4
        · rename_i e'; subst e'
          exact .inr ⟨l, if_pos rfl⟩
        · rcases h.sgall k' dk z1 z2 z3 z4 with z5 | ⟨lk, z5⟩
          · exact .inl z5
          · refine .inr ⟨lk, ?_⟩
            show (if (Hr k').next = (Hr k).next then some l else σ (Hr k').next) = some lk
            rw [if_neg]
            · exact z5
            · intro e'; rw [e', hσ] at z5; cases z5
      · intro b hb
        rw [heap_alloc_old w _ b (h.wr.kb b (.inl hb))]
        exact h.keep b hb
      · exact h.grow.trans (Grew.alloc (ρ := ρ) (l := ⟨0, 0, 0⟩) (b := .cells (.lst []) 0 true) (.cells (by simp [Rope.size]) (fun _ => rfl) (by intro i hi; simp [Rope.size] at hi)) w)
    · cases hi
  · rename_i hwant
    rw [wanted_sound hT hio.guard hwant]
    simp only [Bool.false_eq_true, if_false]
    simp only [Option.some.injEq, Prod.mk.injEq] at hi
    obtain ⟨hv0, hH⟩ := hi
    rw [hio.dst]
    have hv : VR (join ρ σ) (vl k) Go.undef := by rw [← hv0]; exact VR.undef _
    obtain ⟨p1, p2, p3, p4⟩ := h.put hd hk hun (Ren.le_refl _) hv fun x hx => hr.dst k d x hk hlive hx
    refine hK _ _ σ ⟨p2, p3, by simpa using h.lsz, closed_set h.closed hready, h.lv' hd hk hlive, h.jm, hbelow, habove, h.wr, h.le, ?_, h.sginj, ?_, p1, p4, h.keep, h.grow⟩
    · intro i li ei
      obtain ⟨k', dk, c', cs', t', z1, z2, z3, z4, z5⟩ := h.sg i li ei
      exact ⟨k', dk, c', cs', t', z1, z2, z3, by rw [hset]; split <;> first | rfl | exact z4, z5⟩
    · intro k' dk z1 z2 z3 z4
      rw [hset] at z4
      split at z4
      · rename_i e'; subst e'; exact .inl hH.symm
      · exact h.sgall k' dk z1 z2 z3 z4
  · cases hi
end
end Go.Sim
