/- A part of the proof that LockParts returns true for every input. No condition. -/
import Derived.Test.YtdppeaciahdekaaGreatG04
set_option linter.all false
section
namespace Go.Sim
variable [RO]
open Classical
section
variable {ops : Array Oper} {n : Nat} {its : List DItem} {Ts : Nat → Tmps} {Hr : Nat → AHeap} {vl : Nat → AVal} {most : Nat} {live : Nat → Bool}
 {K : Nat → Prop} {ρ0 : Ren} {w0 : World} {a0 : Act} {listed : Array Bool} {a : Act} {w : World} {j : Nat} {ρ σ : Ren} {call : CallF} {E : EnvD} {P : Program}
 {Q : Exit → Act → World → Prop} {Kc : Act → World → Prop}
theorem wanted_congr {T T' : Tmps} {g : Option (Nat × Bool)} (h : ∀ t ∈ (match g with | some (t, _) => [t] | none => []), tget T t = tget T' t) : wantedA T g = wantedA T' g := by
 cases g with
 | none => rfl
 | some p => obtain ⟨t, b⟩ := p; simp only [wantedA]; rw [h t (by simp)]
theorem istep_congr {T T' : Tmps} {H : AHeap} {it : AItem} (h : ∀ t ∈ glooks it, tget T t = tget T' t) : istep E T H it = istep E T' H it := by
 unfold istep
 rw [wanted_congr (T := T) (T' := T') fun t ht => h t (List.mem_append.2 (.inr ht)), aop_congr (T := T) (T' := T') fun t ht => h t (List.mem_append.2 (.inl ht))]
theorem DI.wrJoin (hr : RunOK call E n its Ts Hr vl most live) (h : DI ops n its Ts Hr vl most live K ρ0 w0 a0 listed a w j ρ σ) :
  WR (held K σ) (join ρ σ) ⟨(Hr its.length).next + 1, (Hr j).tree⟩ w := by
 have hw := h.wr
 have hj := Nat.le_trans h.jm hr.most_le
 have key : ∀ i b l, (Hr j).get i = some b → join ρ σ i = some l → ρ i = some l := by
  intro i b l hb e
  obtain ⟨l', o, y1, _⟩ := hw.live i b hb
  have := le_join ρ σ i l' y1
  rw [this] at e; cases e; exact y1
 refine ⟨fun i b hb => ?_, fun i i' bi bj li lj hi hj hwi hwj hli hlj e => hw.inj i i' bi bj li lj hi hj hwi hwj (key _ _ _ hi hli) (key _ _ _ hj hlj) e, hw.ro, fun i l e => ?_, hw.kb, hw.same⟩
 ·obtain ⟨l, o, y1, y2, y3, y4⟩ := hw.live i b hb
  exact ⟨l, o, le_join ρ σ _ _ y1, y2, y3.mono (le_join ρ σ), y4⟩
 ·show i < (Hr its.length).next + 1
  unfold join at e
  split at e
  ·rename_i l' e'
   have := hw.dom i l' e'
   have := mono_le hr.mono hj
   omega
  ·obtain ⟨k, d, _, _, _, _, hk, _, _, rfl, _⟩ := h.sg i l e
   have hk' : k < its.length := (List.getElem?_eq_some_iff.1 hk).1
   have := mono_le hr.mono (Nat.le_of_lt hk')
   omega
theorem DI.sees (hd : DOK P E ops its) (hr : RunOK call E n its Ts Hr vl most live) (h : DI ops n its Ts Hr vl most live K ρ0 w0 a0 listed a w j ρ σ) {k : Nat} {d : DItem} (hk : its[k]? = some d) (hlive : live k = true)
  (hready : d.idx ∈ Region.ready .any ops listed) (hun : sB its listed k = false) : ∃ T : Tmps, TR (join ρ σ) T a.tmps ∧ ∀ t ∈ glooks d.it, tget T t = tget (Ts k) t := by
 obtain ⟨T, h1, h2⟩ := h.table ((glooks d.it).foldr max 0 + 1)
 refine ⟨T, h1, fun t ht => ?_⟩
 rw [h2 t ?_]
 ·exact h.agree hd hr hk hlive hready hun t ht
 ·have : ∀ (l : List Nat) t, t ∈ l → t ≤ l.foldr max 0 := by
   intro l
   induction l with
   | nil => intro t h; cases h
   | cons x l ih =>
    intro t h
    simp only [List.foldr_cons]
    cases h with
    | head => exact Nat.le_max_left _ _
    | tail _ h => exact Nat.le_trans (ih t h) (Nat.le_max_right _ _)
  have := this _ t ht
  omega
theorem item_of (hd : DOK P E ops its) {k : Nat} {d : DItem} (hk : its[k]? = some d) : ∃ o, ops[d.idx]? = some o ∧ ItemOK P E ops o d.it := hd.item k d hk
theorem wpOp_some {i : Nat} {o : Oper} (ho : ops[i]? = some o) (h : if Region.wanted o (yielded ops a.tmps) = true then o.wp P a w Kc Q else Kc (a.put o.dst Go.undef) w) : wpOp P ops Q i Kc a w := by
 unfold wpOp
 rw [ho]
 simp only
 by_cases hw : Region.wanted o (yielded ops a.tmps) = true
 ·rw [if_pos hw] at h ⊢; exact .inl h
 ·rw [if_neg hw] at h ⊢; exact h
theorem comp_of {o : Oper} {it : AItem} {T : Tmps} {H : AHeap} {r : AOut × AHeap} (hi : ItemOK P E ops o it) (he : aop E T H it.op = some r) : comp P E o.op = some it.op := by
 rcases hi.op with h | h
 ·exact h
 ·rw [h] at he; cases he
theorem DI.doQuiet (hE : EnvOK P E) (hd : DOK P E ops its) (hr : RunOK call E n its Ts Hr vl most live) (h : DI ops n its Ts Hr vl most live K ρ0 w0 a0 listed a w j ρ σ) {k : Nat} {d : DItem} (hk : its[k]? = some d) (hlive : live k = true)
  (hready : d.idx ∈ Region.ready .any ops listed) (hun : sB its listed k = false) (hc : wcls d.cls = false) (hi : istep E (Ts k) (Hr j) d.it = some (vl k, Hr j))
  (hK : ∀ a', DI ops n its Ts Hr vl most live K ρ0 w0 a0 (listed.setIfInBounds d.idx true) a' w j ρ σ → Kc a' w) : wpOp P ops Q d.idx Kc a w := by
 obtain ⟨T, hT, hag⟩ := h.sees hd hr hk hlive hready hun
 obtain ⟨o, ho, hio⟩ := item_of hd hk
 rw [← istep_congr hag] at hi
 have hcl := hd.cls k d hk
 have hq : quietOp d.it.op = true ∨ readOp d.it.op = true := by
  cases e : d.cls with
  | P => rw [e] at hcl; exact .inl hcl
  | R =>
   rw [e] at hcl
   simp only [clsOK, Bool.or_eq_true] at hcl
   exact hcl
  | A => rw [e] at hc; cases hc
  | W => rw [e] at hc; cases hc
 refine wpOp_some ho ?_
 unfold istep at hi
 split at hi
 ·rename_i hwant
  rw [wanted_sound hT hio.guard hwant]
  simp only [if_true]
  split at hi
  ·rename_i v H1 hop
   simp only [Option.some.injEq, Prod.mk.injEq] at hi
   obtain ⟨rfl, rfl⟩ := hi
   obtain ⟨v', h1, h2⟩ := quiet_sound (H := Hr j) hE hq hT (h.wrJoin hr) (comp_of hio hop) hop
   unfold Oper.wp
   rw [h1]
   simp only [Oper.upon]
   rw [hio.dst]
   exact hK _ (h.quiet hd hr hk hlive hready hun hc h2)
  ·cases hi
 ·rename_i hwant
  rw [wanted_sound hT hio.guard hwant]
  simp only [Bool.false_eq_true, if_false]
  simp only [Option.some.injEq, Prod.mk.injEq] at hi
  rw [hio.dst]
  exact hK _ (h.quiet hd hr hk hlive hready hun hc (by rw [← hi.1]; exact VR.undef _))
 ·cases hi
theorem DI.doMake (hE : EnvOK P E) (hd : DOK P E ops its) (hr : RunOK call E n its Ts Hr vl most live) (h : DI ops n its Ts Hr vl most live K ρ0 w0 a0 listed a w j ρ σ) {k : Nat} {d : DItem} (hk : its[k]? = some d) (hlive : live k = true)
  (hready : d.idx ∈ Region.ready .any ops listed) (hun : sB its listed k = false) (hc : d.cls = .A)
  (hK : ∀ a' w' σ', DI ops n its Ts Hr vl most live K ρ0 w0 a0 (listed.setIfInBounds d.idx true) a' w' j ρ σ' → Kc a' w') : wpOp P ops Q d.idx Kc a w := by
 obtain ⟨T, hT, hag⟩ := h.sees hd hr hk hlive hready hun
 obtain ⟨o, ho, hio⟩ := item_of hd hk
 obtain ⟨hi, hchk⟩ := hr.a k d hk hlive hc
 rw [← istep_congr hag] at hi
 have hset := sB_set hd h.lsz hk
 have hkl : k < its.length := (List.getElem?_eq_some_iff.1 hk).1
 have hjk : j ≤ k := by
  rcases Nat.lt_or_ge k j with h' | h'
  ·have := h.below k d h' hk (by rw [hc]; rfl)
   rw [hun] at this; cases this
  ·exact h'
 have hbelow : ∀ (i : Nat) (di : DItem), i < j → its[i]? = some di → wcls di.cls = true → sB its (listed.setIfInBounds d.idx true) i = true := by
  intro i di hi hdi hw
  rw [hset]; split
  ·rfl
  ·exact h.below i di hi hdi hw
 have habove : ∀ (i : Nat) (di : DItem), j ≤ i → its[i]? = some di → di.cls = .W → sB its (listed.setIfInBounds d.idx true) i = false := by
  intro i di hi hdi hw
  rw [hset]; split
  ·rename_i e; subst e; rw [hk] at hdi; cases hdi; rw [hw] at hc; cases hc
  ·exact h.above i di hi hdi hw
 refine wpOp_some ho ?_
 unfold istep at hi
 split at hi
 ·rename_i hwant
  rw [wanted_sound hT hio.guard hwant]
  simp only [if_true]
  split at hi
  ·rename_i v H1 hop
   simp only [Option.some.injEq, Prod.mk.injEq] at hi
   obtain ⟨rfl, hH⟩ := hi
   have hmk : makeOp d.it.op = true := by have := hd.cls k d hk; rw [hc] at this; exact this
   obtain ⟨c, cs, e, v', m1, m2, m3, m4, m5, _⟩ := make_sound (w := w) (fun b hb => ⟨h.wr.kb b (.inl (h.ro b hb)), h.wr.same b hb⟩) hE hmk hT (comp_of hio hop) hop
   rw [hH] at m1
   unfold Oper.wp
   rw [m2]
   simp only [Oper.upon]
   rw [hio.dst]
   let l : Loc := ⟨w.heap.size, 0, 0⟩
   let σ' : Ren := fun i => if i = (Hr k).next then some l else σ i
   have hρ : ρ (Hr k).next = none := h.fresh (mono_le hr.mono hjk)
   have hσ : σ (Hr k).next = none := by
    cases e' : σ (Hr k).next with
    | none => rfl
    | some l' =>
     obtain ⟨k', dk, c', cs', t', z1, z2, z3, z4, z5, z6, _⟩ := h.sg _ l' e'
     have hne : k' ≠ k := by rintro rfl; rw [hun] at z4; cases z4
     rcases Nat.lt_or_ge k' k with hlt | hge
     ·have := mono_le hr.mono (show k' + 1 ≤ k from hlt)
      rw [z6] at this
      have : (Hr k').next + 1 ≤ (Hr k).next := this
      omega
     ·have := mono_le hr.mono (show k + 1 ≤ k' by omega)
      rw [m1] at this
      have : (Hr k).next + 1 ≤ (Hr k').next := this
      omega
   have hjle : (join ρ σ).le (join ρ σ') := by
    intro i li ei
    cases e' : ρ i with
    | some l' =>
     have h1 : join ρ σ i = some l' := by simp [join, e']
     have h2 : join ρ σ' i = some l' := by simp [join, e']
     rw [h1] at ei; rw [h2]; exact ei
    | none =>
     have h1 : join ρ σ i = σ i := by simp [join, e']
     have h2 : join ρ σ' i = σ' i := by simp [join, e']
     rw [h1] at ei; rw [h2]
     show (if i = (Hr k).next then some l else σ i) = some li
     rw [if_neg]
     ·exact ei
     ·rintro rfl; rw [hσ] at ei; cases ei
   have hjn : join ρ σ' (Hr k).next = some l := by
    unfold join; rw [hρ]; exact if_pos rfl
   have hv : VR (join ρ σ') (vl k) v' := m5 _ hjn
   obtain ⟨p1, p2, p3, p4⟩ := h.put hd hk hun hjle hv fun x hx => hr.dst k d x hk hlive hx
   have hσs : ∀ i li, σ' i = some li → (i = (Hr k).next ∧ li = l) ∨ (i ≠ (Hr k).next ∧ σ i = some li) := by
    intro i li ei
    have ei' : (if i = (Hr k).next then some l else σ i) = some li := ei
    split at ei'
    ·rename_i e1; cases ei'; exact .inl ⟨e1, rfl⟩
    ·rename_i e1; exact .inr ⟨e1, ei'⟩
   refine hK _ _ σ' ⟨p2, p3, by simpa using h.lsz, closed_set h.closed hready, h.lv' hd hk hlive, h.jm, hbelow, habove, ?_, h.le, ?_, ?_, ?_, p1, p4, ?_, ?_, h.ro⟩
   ·have hw := h.wr
    have hlt : ∀ i b li, (Hr j).get i = some b → ρ i = some li → li.blk < w.heap.size := fun i b li hb e => hw.lt hb e
    refine ⟨fun i b hb => ?_, hw.inj, fun b hb => .inl (h.ro b hb), hw.dom, fun b hb => ?_, fun b hb => (heap_alloc_old w _ _ (hw.kb b (hw.ro b hb))).trans (hw.same b hb)⟩
    ·obtain ⟨li, ob, y1, y2, y3, y4⟩ := hw.live i b hb
     refine ⟨li, ob, y1, by rw [heap_alloc_old w _ _ (hlt i b li hb y1)]; exact y2, y3, ?_, y4.2⟩
     intro hbw
     rintro (hb' | ⟨i', l', e1, e2⟩)
     ·exact y4.1 hbw (.inl hb')
     ·rcases hσs i' l' e1 with ⟨_, rfl⟩ | ⟨_, e3⟩
      ·have := hlt i b li hb y1
       have : l.blk = w.heap.size := rfl
       omega
      ·exact y4.1 hbw (.inr ⟨i', l', e3, e2⟩)
    ·have : b < w.heap.size ∨ b = w.heap.size := by
      rcases hb with hb' | ⟨i', l', e1, e2⟩
      ·exact .inl (hw.kb b (.inl hb'))
      ·rcases hσs i' l' e1 with ⟨_, rfl⟩ | ⟨_, e3⟩
       ·exact .inr e2.symm
       ·exact .inl (hw.kb b (.inr ⟨i', l', e3, e2⟩))
     simp; omega
   ·intro i li ei
    rcases hσs i li ei with ⟨rfl, rfl⟩ | ⟨hne, e3⟩
    ·refine ⟨k, d, c, cs, e, hjk, hk, hc, by rw [hset, if_pos rfl], rfl, m1, heap_alloc_new w _, m3, m4.mono hjle, ?_, rfl, rfl, fun hb => ?_⟩
     ·unfold achk at hchk
      rw [hc] at hchk
      simp only at hchk
      rw [m1, AHeap.get_new, if_pos rfl] at hchk
      exact hchk
     ·have := h.wr.kb _ (.inl hb)
      have : l.blk = w.heap.size := rfl
      omega
    ·obtain ⟨k', dk, c', cs', t', z1, z2, z3, z4, z5, z6, z7, z8, z9, z10⟩ := h.sg i li e3
     refine ⟨k', dk, c', cs', t', z1, z2, z3, by rw [hset]; split <;> first | rfl | exact z4, z5, z6, ?_, z8, z9.mono hjle, z10⟩
     rw [heap_alloc_old w _ _ (Array.getElem?_eq_some_iff.1 z7).1]; exact z7
   ·intro i i' li li' e1 e2 e3
    have hlt : ∀ i li, σ i = some li → li.blk < w.heap.size := fun i li e => h.wr.kb _ (.inr ⟨i, li, e, rfl⟩)
    rcases hσs i li e1 with ⟨rfl, rfl⟩ | ⟨_, e4⟩
    ·rcases hσs i' li' e2 with ⟨rfl, rfl⟩ | ⟨_, e5⟩
     ·rfl
     ·have := hlt _ _ e5
      have h' : w.heap.size = li'.blk := e3
      omega
    ·rcases hσs i' li' e2 with ⟨rfl, rfl⟩ | ⟨_, e5⟩
     ·have := hlt _ _ e4
      have h' : li.blk = w.heap.size := e3
      omega
     ·exact h.sginj i i' li li' e4 e5 e3
   ·intro k' dk z1 z2 z3 z4
    rw [hset] at z4
    split at z4
    ·rename_i e'; subst e'
     exact .inr ⟨l, if_pos rfl⟩
    ·rcases h.sgall k' dk z1 z2 z3 z4 with z5 | ⟨lk, z5⟩
     ·exact .inl z5
     ·refine .inr ⟨lk, ?_⟩
      show (if (Hr k').next = (Hr k).next then some l else σ (Hr k').next) = some lk
      rw [if_neg]
      ·exact z5
      ·intro e'; rw [e', hσ] at z5; cases z5
   ·intro b hb
    rw [heap_alloc_old w _ b (h.wr.kb b (.inl hb))]
    exact h.keep b hb
   ·exact h.grow.trans (Grew.alloc (ρ := ρ) (l := ⟨0, 0, 0⟩) (b := .cells (.lst []) 0 true) (.cells (fun _ => rfl) (by simp [Rope.size]) (fun _ => rfl) (by intro i hi; simp [Rope.size] at hi)) rfl w)
  ·cases hi
 ·rename_i hwant
  rw [wanted_sound hT hio.guard hwant]
  simp only [Bool.false_eq_true, if_false]
  simp only [Option.some.injEq, Prod.mk.injEq] at hi
  obtain ⟨hv0, hH⟩ := hi
  rw [hio.dst]
  have hv : VR (join ρ σ) (vl k) Go.undef := by rw [← hv0]; exact VR.undef _
  obtain ⟨p1, p2, p3, p4⟩ := h.put hd hk hun (Ren.le_refl _) hv fun x hx => hr.dst k d x hk hlive hx
  refine hK _ _ σ ⟨p2, p3, by simpa using h.lsz, closed_set h.closed hready, h.lv' hd hk hlive, h.jm, hbelow, habove, h.wr, h.le, ?_, h.sginj, ?_, p1, p4, h.keep, h.grow, h.ro⟩
  ·intro i li ei
   obtain ⟨k', dk, c', cs', t', z1, z2, z3, z4, z5⟩ := h.sg i li ei
   exact ⟨k', dk, c', cs', t', z1, z2, z3, by rw [hset]; split <;> first | rfl | exact z4, z5⟩
  ·intro k' dk z1 z2 z3 z4
   rw [hset] at z4
   split at z4
   ·rename_i e'; subst e'; exact .inl hH.symm
   ·exact h.sgall k' dk z1 z2 z3 z4
 ·cases hi
end
end Go.Sim
end
section
namespace Go.Sim
variable [RO]
open Classical
section
variable {ops : Array Oper} {n : Nat} {its : List DItem} {Ts : Nat → Tmps} {Hr : Nat → AHeap} {vl : Nat → AVal} {most : Nat} {live : Nat → Bool}
 {K : Nat → Prop} {ρ0 : Ren} {w0 : World} {a0 : Act} {listed : Array Bool} {a : Act} {w : World} {j : Nat} {ρ σ : Ren} {call : CallF} {E : EnvD} {P : Program}
 {Q : Exit → Act → World → Prop} {Kc : Act → World → Prop}
theorem scAll_mem {T : Tmps} {m : Nat} : ∀ {l : List Nat}, scAll T m l = true → ∀ t ∈ l, scV m depth (tget T t) = true
 | [], _, t, h => by cases h
 | x :: l, h, t, ht => by
  simp only [scAll, Bool.and_eq_true] at h
  cases ht with
  | head => exact h.1
  | tail _ ht => exact scAll_mem h.2 t ht
theorem DI.narrow (hr : RunOK call E n its Ts Hr vl most live) (h : DI ops n its Ts Hr vl most live K ρ0 w0 a0 listed a w j ρ σ) {L : List Nat} {T Tk : Tmps} (hT : TR (join ρ σ) T a.tmps) (hag : ∀ t ∈ L, tget T t = tget Tk t) (hsc : scAll Tk (Hr j).next L = true) :
  ∃ T' : Tmps, TR ρ T' a.tmps ∧ ∀ t ∈ L, tget T' t = tget Tk t := by
 obtain ⟨T', hT'⟩ := exists_tmps (fun t => if t ∈ L then tget T t else .junk) (max n (L.foldr max 0 + 1))
 have hmax : ∀ (l : List Nat) t, t ∈ l → t ≤ l.foldr max 0 := by
  intro l
  induction l with
  | nil => intro t h; cases h
  | cons x l ih =>
   intro t h
   simp only [List.foldr_cons]
   cases h with
   | head => exact Nat.le_max_left _ _
   | tail _ h => exact Nat.le_trans (ih t h) (Nat.le_max_right _ _)
 refine ⟨T', fun t => ?_, fun t ht => ?_⟩
 ·rw [hT']
  by_cases hlt : t < max n (L.foldr max 0 + 1)
  ·rw [if_pos hlt]
   by_cases hL : t ∈ L
   ·simp only [hL, if_true]
    refine scV_sound (m := (Hr j).next) (fun i l hi e => ?_) depth _ _ (by rw [hag t hL]; exact scAll_mem hsc t hL) (hT t)
    unfold join at e
    split at e
    ·rename_i l' e'; rw [e']; exact e
    ·have := h.sgge hr.mono e; omega
   ·simp only [hL, if_false]; exact .junk _
  ·rw [if_neg hlt]
   have : a.tmps.getD t Go.undef = Go.undef := by
    have := h.sz
    simp [Array.getD_eq_getD_getElem?, Array.getElem?_eq_none (show a.tmps.size ≤ t by omega)]
   rw [this]; exact VR.undef _
 ·have := hmax L t ht
  rw [hT', if_pos (by omega)]
  simp only [ht, if_true]
  exact hag t ht
theorem DI.loud (hd : DOK P E ops its) (hr : RunOK call E n its Ts Hr vl most live) (h : DI ops n its Ts Hr vl most live K ρ0 w0 a0 listed a w j ρ σ) {d : DItem} (hk : its[j]? = some d) (hlive : live j = true)
  (hready : d.idx ∈ Region.ready .any ops listed) (hun : sB its listed j = false) (hc : d.cls = .W) (hj : j < most) {ρ' : Ren} {v : Value} {w' : World} (hv : VR ρ' (vl j) v) (hp : Post (held K σ) ρ w ρ' (Hr (j + 1)) w') :
  DI ops n its Ts Hr vl most live K ρ0 w0 a0 (listed.setIfInBounds d.idx true) (a.put d.it.dst v) w' (j + 1) ρ' σ := by
 have hset := sB_set hd h.lsz hk
 have hsj : ∀ i l, σ i = some l → (Hr (j + 1)).next ≤ i := by
  intro i l e
  obtain ⟨k', dk, c', cs', t', z1, z2, z3, z4, z5, _⟩ := h.sg i l e
  rw [z5]
  refine mono_le hr.mono ?_
  rcases Nat.lt_or_ge j k' with h' | h'
  ·exact h'
  ·have : k' = j := by omega
   subst this
   rw [hk] at z2; cases z2
   rw [z3] at hc; cases hc
 have hjle : (join ρ σ).le (join ρ' σ) := by
  intro i li ei
  cases e' : ρ i with
  | some l' =>
   have h1 : join ρ σ i = some l' := by simp [join, e']
   have h2 : join ρ' σ i = some l' := by simp [join, hp.le _ _ e']
   rw [h1] at ei; rw [h2]; exact ei
  | none =>
   have h1 : join ρ σ i = σ i := by simp [join, e']
   rw [h1] at ei
   have h3 : ρ' i = none := by
    cases e2 : ρ' i with
    | none => rfl
    | some l2 =>
     have := hp.wr.dom i l2 e2
     have := hsj i li ei
     omega
   have h2 : join ρ' σ i = σ i := by simp [join, h3]
   rw [h2]; exact ei
 obtain ⟨p1, p2, p3, p4⟩ := h.put hd hk hun hjle (hv.mono (le_join ρ' σ)) fun x hx => hr.dst j d x hk hlive hx
 refine ⟨p2, p3, by simpa using h.lsz, closed_set h.closed hready, h.lv' hd hk hlive, hj, ?_, ?_, hp.wr, Ren.le_trans h.le hp.le, ?_, h.sginj, ?_, p1, p4, fun b hb => (hp.keep b (.inl hb)).trans (h.keep b hb), h.grow.trans hp.size, h.ro⟩
 ·intro i di hi hdi hw
  rw [hset]; split
  ·rfl
  ·exact h.below i di (by omega) hdi hw
 ·intro i di hi hdi hw
  rw [hset, if_neg (by omega)]
  exact h.above i di (by omega) hdi hw
 ·intro i li ei
  obtain ⟨k', dk, c', cs', t', z1, z2, z3, z4, z5, z6, z7, z8, z9, z10⟩ := h.sg i li ei
  refine ⟨k', dk, c', cs', t', ?_, z2, z3, by rw [hset]; split <;> first | rfl | exact z4, z5, z6, ?_, z8, z9.mono hjle, z10⟩
  ·rcases Nat.lt_or_ge j k' with h' | h'
   ·exact h'
   ·have : k' = j := by omega
    subst this
    rw [hk] at z2; cases z2
    rw [z3] at hc; cases hc
  ·rw [hp.keep _ (.inr ⟨i, li, ei, rfl⟩)]; exact z7
 ·intro k' dk z1 z2 z3 z4
  rw [hset, if_neg (by omega)] at z4
  exact h.sgall k' dk (by omega) z2 z3 z4
theorem DI.atW (hd : DOK P E ops its) (h : DI ops n its Ts Hr vl most live K ρ0 w0 a0 listed a w j ρ σ) (hst : j = most ∨ (j < most ∧ ∃ d, its[j]? = some d ∧ wcls d.cls = true ∧ sB its listed j = false)) {k : Nat} {d : DItem} (hk : its[k]? = some d)
  (hready : d.idx ∈ Region.ready .any ops listed) (hun : sB its listed k = false) (hc : d.cls = .W) (hkm : k ≤ most) : k = j := by
 rcases Nat.lt_trichotomy k j with h' | h' | h'
 ·have := h.below k d h' hk (by rw [hc]; rfl)
  rw [hun] at this; cases this
 ·exact h'
 ·exfalso
  rcases hst with e | ⟨hj, dj, e1, e2, e3⟩
  ·omega
  ·have hp := hd.c1 j k dj d h' e1 hk e2 hc
   have := hangs_ready h.closed (hd.pre k d j hk hp) d hk hready
   rw [e3] at this; cases this
theorem DI.doLoud (hE : EnvOK P E) (hcall : CallOK P E call) (hd : DOK P E ops its) (hr : RunOK call E n its Ts Hr vl most live) (h : DI ops n its Ts Hr vl most live K ρ0 w0 a0 listed a w j ρ σ)
  (hst : j = most ∨ (j < most ∧ ∃ d, its[j]? = some d ∧ wcls d.cls = true ∧ sB its listed j = false)) {k : Nat} {d : DItem} (hk : its[k]? = some d) (hlive : live k = true)
  (hready : d.idx ∈ Region.ready .any ops listed) (hun : sB its listed k = false) (hc : d.cls = .W)
  (hK : ∀ a' w' j' ρ', DI ops n its Ts Hr vl most live K ρ0 w0 a0 (listed.setIfInBounds d.idx true) a' w' j' ρ' σ → Kc a' w') : wpOp P ops Q d.idx Kc a w := by
 obtain ⟨hkm, hstep, hchk⟩ := hr.w k d hk hlive hc
 have hkj := h.atW hd hst hk hready hun hc (Nat.le_of_lt hkm)
 subst hkj
 obtain ⟨T, hT, hag⟩ := h.sees hd hr hk hlive hready hun
 obtain ⟨o, ho, hio⟩ := item_of hd hk
 have hwl : scAll (Ts k) (Hr k).next (looks d.it.op) = true := by
  unfold wchk at hchk; rw [hc] at hchk; exact hchk
 obtain ⟨T', hT', hag'⟩ := h.narrow hr hT (L := looks d.it.op) (fun t ht => hag t (List.mem_append.2 (.inl ht))) hwl
 have hwant : wantedA T d.it.guard = wantedA (Ts k) d.it.guard := wanted_congr fun t ht => hag t (List.mem_append.2 (.inr ht))
 have haop : aop E T' (Hr k) d.it.op = aop E (Ts k) (Hr k) d.it.op := aop_congr hag'
 refine wpOp_some ho ?_
 unfold dstep at hstep
 split at hstep
 ·cases hstep
 ·rename_i hw1
  rw [wanted_sound hT hio.guard (hwant.trans hw1)]
  simp only [if_true]
  split at hstep
  ·rename_i v H1 hop
   simp only [Option.some.injEq, DRes.val.injEq] at hstep
   obtain ⟨rfl, rfl⟩ := hstep
   obtain ⟨ρ1, v', w1, g1, g2, g3⟩ := op_sound hE hT' h.wr (comp_of hio hop) (haop.trans hop)
   unfold Oper.wp
   rcases g1 with g1 | ⟨g1, rfl⟩
   ·rw [g1]
    simp only [Oper.upon]
    rw [hio.dst]
    exact hK _ _ _ _ (h.loud hd hr hk hlive hready hun hc hkm g2 g3)
   ·rw [g1]
    simp only [Oper.upon]
    rw [hio.dst]
    exact hK _ _ _ _ (h.loud hd hr hk hlive hready hun hc hkm g2 g3)
  ·rename_i f args H1 hop
   obtain ⟨l', g1, g2, g3, g4⟩ := op_sound hE hT' h.wr (comp_of hio hop) (haop.trans hop)
   subst g3
   unfold Oper.wp
   rw [g1]
   simp only [Oper.upon]
   split at hstep
   ·rename_i v H2 hcl
    simp only [Option.some.injEq, DRes.val.injEq] at hstep
    obtain ⟨rfl, rfl⟩ := hstep
    refine (hcall f args (Hr k) _ hcl g4 (held K σ) ρ w l' g2 h.wr).mono fun e w' hp => ?_
    obtain ⟨ρ1, v', rfl, p1, p2⟩ := hp
    simp only
    rw [hio.dst]
    exact hK _ _ _ _ (h.loud hd hr hk hlive hready hun hc hkm p1 p2)
   ·cases hstep
   ·cases hstep
  ·cases hstep
 ·rename_i hw1
  rw [wanted_sound hT hio.guard (hwant.trans hw1)]
  simp only [Bool.false_eq_true, if_false]
  simp only [Option.some.injEq, DRes.val.injEq] at hstep
  obtain ⟨h1, h2⟩ := hstep
  rw [hio.dst]
  refine hK _ _ _ _ (h.loud hd hr hk hlive hready hun hc hkm (ρ' := ρ) (v := Go.undef) (w' := w) (by rw [← h1]; exact VR.undef _) ?_)
  rw [← h2]; exact Post.refl h.wr
theorem DI.doPanic (hE : EnvOK P E) (hcall : CallOK P E call) (hd : DOK P E ops its) (hr : RunOK call E n its Ts Hr vl most live) (h : DI ops n its Ts Hr vl most live K ρ0 w0 a0 listed a w j ρ σ)
  (hst : j = most ∨ (j < most ∧ ∃ d, its[j]? = some d ∧ wcls d.cls = true ∧ sB its listed j = false)) {d : DItem} (hk : its[most]? = some d) (hc : d.cls = .W)
  (hlw : ∀ t ∈ glooks d.it, tget (Ts most) t = lastw its vl (Ts 0) live t most)
  (hready : d.idx ∈ Region.ready .any ops listed) (hun : sB its listed most = false) {x : AVal} {H' : AHeap} (hstep : dstep call E (Ts most) (Hr most) d.it = some (.pan x H')) (hchk : wchk d (Ts most) (Hr most) = true)
  (hQ : ∀ v w' ρ', VR ρ' x v → ρ0.le ρ' → WR K ρ' H' w' → (∀ b, K b → w'.heap[b]? = w0.heap[b]?) → Grew w0 w' → Q (.panic [{ v, recovered := false }]) a w') : wpOp P ops Q d.idx Kc a w := by
 have hkj := h.atW hd hst hk hready hun hc (Nat.le_refl _)
 subst hkj
 -- what it looks at
 have hag0 : ∀ t ∈ glooks d.it, lastw its vl (Ts 0) (sB its listed) t its.length = tget (Ts most) t := by
  intro t ht
  have hkl : most < its.length := (List.getElem?_eq_some_iff.1 hk).1
  rw [hlw t ht]
  rw [lastw_more (n := most) (Nat.le_of_lt hkl)]
  ·refine lastw_congr fun k' d' hk' hd' hdst => ?_
   have hp := hd.s1 k' most d' d t hk' hd' hk (.inl ⟨hdst, .inl ht⟩)
   have := hangs_ready h.closed (hd.pre most d k' hk hp) d hk hready
   rw [this, h.lv k' this]
  ·intro k' d' hk' hd' hdst
   by_cases e : k' = most
   ·subst e; exact hun
   ·cases hs : sB its listed k' with
    | false => rfl
    | true =>
     have hp := hd.s1 most k' d d' t (by omega) hk hd' (.inr ⟨hdst, ht⟩)
     have := hangs_listed h.closed (hd.pre k' d' most hd' hp) hs
     rw [hun] at this; cases this
 obtain ⟨T, hT, hT2⟩ := h.table ((glooks d.it).foldr max 0 + 1)
 have hmax : ∀ (l : List Nat) t, t ∈ l → t ≤ l.foldr max 0 := by
  intro l
  induction l with
  | nil => intro t h; cases h
  | cons x l ih =>
   intro t h
   simp only [List.foldr_cons]
   cases h with
   | head => exact Nat.le_max_left _ _
   | tail _ h => exact Nat.le_trans (ih t h) (Nat.le_max_right _ _)
 have hag : ∀ t ∈ glooks d.it, tget T t = tget (Ts most) t := fun t ht => (hT2 t (by have := hmax _ t ht; omega)).trans (hag0 t ht)
 obtain ⟨o, ho, hio⟩ := item_of hd hk
 have hwl : scAll (Ts most) (Hr most).next (looks d.it.op) = true := by
  unfold wchk at hchk; rw [hc] at hchk; exact hchk
 obtain ⟨T', hT', hag'⟩ := h.narrow hr hT (L := looks d.it.op) (fun t ht => hag t (List.mem_append.2 (.inl ht))) hwl
 have hwant : wantedA T d.it.guard = wantedA (Ts most) d.it.guard := wanted_congr fun t ht => hag t (List.mem_append.2 (.inr ht))
 have haop : aop E T' (Hr most) d.it.op = aop E (Ts most) (Hr most) d.it.op := aop_congr hag'
 refine wpOp_some ho ?_
 unfold dstep at hstep
 split at hstep
 ·cases hstep
 ·rename_i hw1
  rw [wanted_sound hT hio.guard (hwant.trans hw1)]
  simp only [if_true]
  split at hstep
  ·cases hstep
  ·rename_i f args H1 hop
   obtain ⟨l', g1, g2, g3, g4⟩ := op_sound hE hT' h.wr (comp_of hio hop) (haop.trans hop)
   subst g3
   unfold Oper.wp
   rw [g1]
   simp only [Oper.upon]
   split at hstep
   ·cases hstep
   ·rename_i v H2 hcl
    simp only [Option.some.injEq, DRes.pan.injEq] at hstep
    obtain ⟨rfl, rfl⟩ := hstep
    refine (hcall f args (Hr most) _ hcl g4 (held K σ) ρ w l' g2 h.wr).mono fun e w' hp => ?_
    obtain ⟨ρ1, v', rfl, p1, p2⟩ := hp
    simp only
    exact hQ v' w' ρ1 p1 (Ren.le_trans h.le p2.le) (p2.wr.anti h.ro fun b hb => .inl hb) (fun b hb => (p2.keep b (.inl hb)).trans (h.keep b hb)) (h.grow.trans p2.size)
   ·cases hstep
  ·cases hstep
 ·simp at hstep
end
end Go.Sim
end
section
namespace Go.Sim
variable [RO]
open Classical
section
variable {ops : Array Oper} {n : Nat} {its : List DItem} {Ts : Nat → Tmps} {Hr : Nat → AHeap} {vl : Nat → AVal} {most : Nat} {live : Nat → Bool}
 {K : Nat → Prop} {ρ0 : Ren} {w0 : World} {a0 : Act} {call : CallF} {E : EnvD} {P : Program} {Q : Exit → Act → World → Prop}
noncomputable def unl (its : List DItem) (listed : Array Bool) : Nat := ((List.range its.length).filter fun k => !sB its listed k).length
theorem filter_lt {l : List Nat} (hn : l.Nodup) {f g : Nat → Bool} {k : Nat} (hk : k ∈ l) (hf : f k = true) (hg : g k = false) (h : ∀ j, j ≠ k → g j = f j) : (l.filter g).length < (l.filter f).length := by
 induction l with
 | nil => cases hk
 | cons x l ih =>
  simp only [List.nodup_cons] at hn
  by_cases e : x = k
  ·subst e
   have : l.filter g = l.filter f := List.filter_congr fun j hj => h j (fun e => hn.1 (e ▸ hj))
   simp [List.filter_cons, hf, hg, this]
  ·have hkl : k ∈ l := by
    cases hk with
    | head => exact absurd rfl e
    | tail _ h => exact h
   have := ih hn.2 hkl
   simp only [List.filter_cons, h x e]
   split <;> simp <;> omega
theorem unl_set (hd : DOK P E ops its) {listed : Array Bool} (hl : listed.size = ops.size) {k : Nat} {d : DItem} (hk : its[k]? = some d) (hun : sB its listed k = false) : unl its (listed.setIfInBounds d.idx true) < unl its listed := by
 have hset := sB_set hd hl hk
 refine filter_lt List.nodup_range (List.mem_range.2 (List.getElem?_eq_some_iff.1 hk).1) (by simp [hun]) (by simp [hset]) fun j hj => by rw [hset, if_neg hj]
theorem ready_of_unlisted (hd : DOK P E ops its) {listed : Array Bool} (hl : listed.size = ops.size) (h : ∃ k, k < its.length ∧ sB its listed k = false) : Region.ready .any ops listed ≠ [] := by
 have hmin : ∀ m k, k ≤ m → k < its.length → sB its listed k = false → ∃ k, k < its.length ∧ sB its listed k = false ∧ ∀ q, q < k → sB its listed q = true := by
  intro m
  induction m with
  | zero => intro k hk hkl hs; exact ⟨k, hkl, hs, fun q hq => by omega⟩
  | succ m ih =>
   intro k hk hkl hs
   by_cases hq : ∃ q, q < k ∧ sB its listed q = false
   ·obtain ⟨q, h1, h2⟩ := hq
    exact ih q (by omega) (by omega) h2
   ·refine ⟨k, hkl, hs, fun q hq' => ?_⟩
    cases e : sB its listed q with
    | true => rfl
    | false => exact absurd ⟨q, hq', e⟩ hq
 obtain ⟨k, h1, h2⟩ := h
 obtain ⟨k, hkl, hs, hall⟩ := hmin k k (Nat.le_refl _) h1 h2
 have hk : its[k]? = some its[k] := List.getElem?_eq_getElem hkl
 generalize its[k] = d at hk
 obtain ⟨o, ho, _⟩ := hd.item k d hk
 have hlt : d.idx < ops.size := (Array.getElem?_eq_some_iff.1 ho).1
 have hmem : d.idx ∈ Region.ready .any ops listed := by
  rw [mem_ready]
  refine ⟨?_, o, ho, fun e he hb => ?_⟩
  ·simp only [sB, hk] at hs
   have : d.idx < listed.size := by omega
   simp [this] at hs ⊢
   exact hs
  ·obtain ⟨q, dq, h1, h2, h3⟩ := hd.edge k d o e hk ho he hb
   have := hall q h1
   simp only [sB, h2, h3] at this
   exact this
 intro e
 rw [e] at hmem; cases hmem
theorem draw_all (hE : EnvOK P E) (hcall : CallOK P E call) (hd : DOK P E ops its) (hr : RunOK call E n its Ts Hr vl most live)
  (hmost : most = its.length ∨ ∃ dm, its[most]? = some dm ∧ dm.cls = .W ∧ live most = false)
  (hend : ∀ (listed : Array Bool) (a : Act) (w : World) (j : Nat) (ρ σ : Ren), (∀ k, k < its.length → sB its listed k = true) → DI ops n its Ts Hr vl most live K ρ0 w0 a0 listed a w j ρ σ →
   (j = most ∨ (j < most ∧ ∃ d, its[j]? = some d ∧ wcls d.cls = true ∧ sB its listed j = false)) → Q .normal a w)
  (hpan : ∀ (k : Nat) (d : DItem), its[k]? = some d → live k = false → (d.pre.testBit most = true ∧ live most = false) ∨
   (k = most ∧ d.cls = .W ∧ (∀ t ∈ glooks d.it, tget (Ts most) t = lastw its vl (Ts 0) live t most) ∧ wchk d (Ts most) (Hr most) = true ∧ ∃ x H', dstep call E (Ts most) (Hr most) d.it = some (.pan x H') ∧
    ∀ (listed : Array Bool) (a : Act) (w : World) (j : Nat) (ρ σ : Ren), DI ops n its Ts Hr vl most live K ρ0 w0 a0 listed a w j ρ σ →
     ∀ v w' ρ', VR ρ' x v → ρ0.le ρ' → WR K ρ' H' w' → (∀ b, K b → w'.heap[b]? = w0.heap[b]?) → Grew w0 w' → Q (.panic [{ v, recovered := false }]) a w')) :
  ∀ (fuel : Nat) (listed : Array Bool) (a : Act) (w : World) (j : Nat) (ρ σ : Ren), unl its listed ≤ fuel → DI ops n its Ts Hr vl most live K ρ0 w0 a0 listed a w j ρ σ →
   (j = most ∨ (j < most ∧ ∃ d, its[j]? = some d ∧ wcls d.cls = true ∧ sB its listed j = false)) → wpAny P .any ops Q fuel listed a w := by
 have hfin : ∀ (listed : Array Bool) (a : Act) (w : World) (j : Nat) (ρ σ : Ren), DI ops n its Ts Hr vl most live K ρ0 w0 a0 listed a w j ρ σ →
   (j = most ∨ (j < most ∧ ∃ d, its[j]? = some d ∧ wcls d.cls = true ∧ sB its listed j = false)) → Region.ready .any ops listed = [] → Q .normal a w := by
  intro listed a w j ρ σ h hst hnil
  refine hend listed a w j ρ σ (fun k hk => ?_) h hst
  cases e : sB its listed k with
  | true => rfl
  | false => exact absurd hnil (ready_of_unlisted hd h.lsz ⟨k, hk, e⟩)
 intro fuel
 induction fuel with
 | zero =>
  intro listed a w j ρ σ hu h hst
  have hnil : Region.ready .any ops listed = [] := by
   cases hrr : Region.ready .any ops listed with
   | nil => rfl
   | cons i rest =>
    exfalso
    have hi : i ∈ Region.ready .any ops listed := by rw [hrr]; exact List.mem_cons_self
    obtain ⟨hun, o, ho, _⟩ := mem_ready.1 hi
    obtain ⟨k, d, hk, rfl⟩ := hd.sur i (Array.getElem?_eq_some_iff.1 ho).1
    have hs : sB its listed k = false := by
     simp only [sB, hk]
     have : d.idx < listed.size := by rw [h.lsz]; exact (Array.getElem?_eq_some_iff.1 ho).1
     simp [this] at hun ⊢; exact hun
    have := unl_set hd h.lsz hk hs
    omega
  exact ⟨hnil, hfin listed a w j ρ σ h hst hnil⟩
 | succ fuel ih =>
  intro listed a w j ρ σ hu h hst
  refine ⟨fun hnil => hfin listed a w j ρ σ h hst hnil, fun i hi => ?_⟩
  obtain ⟨hun, o, ho, _⟩ := mem_ready.1 hi
  obtain ⟨k, d, hk, rfl⟩ := hd.sur i (Array.getElem?_eq_some_iff.1 ho).1
  have hs : sB its listed k = false := by
   simp only [sB, hk]
   have : d.idx < listed.size := by rw [h.lsz]; exact (Array.getElem?_eq_some_iff.1 ho).1
   simp [this] at hun ⊢; exact hun
  have hlt := unl_set hd h.lsz hk hs
  have hnext : ∀ a' w' j' ρ' σ', DI ops n its Ts Hr vl most live K ρ0 w0 a0 (listed.setIfInBounds d.idx true) a' w' j' ρ' σ' → wpAny P .any ops Q fuel (listed.setIfInBounds d.idx true) a' w' := by
   intro a' w' j' ρ' σ' h'
   obtain ⟨j2, ρ2, σ2, h2, hst2⟩ := h'.settle hr _ j' ρ' σ' rfl
   exact ih _ a' w' j2 ρ2 σ2 (by omega) h2 hst2
  cases hlive : live k with
  | true =>
   cases hc : d.cls with
   | P =>
    have hcw : wcls d.cls = false := by rw [hc]; rfl
    have hp := hr.p k d hk hlive hc
    refine h.doQuiet hE hd hr hk hlive hi hs hcw ?_ fun a' h' => hnext a' w j ρ σ h'
    -- whatever touches no memory is the same at every heap
    unfold istep at hp ⊢
    split at hp
    ·rename_i hw1
     split at hp
     ·rename_i v H1 hop
      simp only [Option.some.injEq, Prod.mk.injEq] at hp
      obtain ⟨rfl, rfl⟩ := hp
      have hq : quietOp d.it.op = true := by have := hd.cls k d hk; rw [hc] at this; exact this
      have := (quiet_any hq hop).2.2 (Hr j)
      simp only [hw1, this]
     ·cases hp
    ·rename_i hw1
     simp only [Option.some.injEq, Prod.mk.injEq] at hp
     simp only [hw1, hp.1]
    ·cases hp
   | R =>
    have hcw : wcls d.cls = false := by rw [hc]; rfl
    have hjle := Nat.le_trans h.jm hr.most_le
    have hW : j = its.length ∨ ∃ dj, its[j]? = some dj ∧ wcls dj.cls = true := by
     rcases hst with e | ⟨_, dj, e2, e3, _⟩
     ·rcases hmost with e2 | ⟨dm, e2, e3, _⟩
      ·exact .inl (by omega)
      ·exact .inr ⟨dm, by rw [e]; exact e2, by rw [e3]; rfl⟩
     ·exact .inr ⟨dj, e2, e3⟩
    have hcand : j ∈ d.cand := by
     refine hd.cand k d j hk hc hjle hW ?_ ?_
     ·cases e : d.pre.testBit j with
      | false => rfl
      | true =>
       exfalso
       have hl := hangs_ready h.closed (hd.pre k d j hk e) d hk hi
       rcases hst with e2 | ⟨_, dj, e2, e3, e4⟩
       ·subst e2
        rcases hmost with e2 | ⟨dm, e2, e3, e4⟩
        ·have : its[j]? = none := List.getElem?_eq_none (by omega)
         simp [sB, this] at hl
        ·have := h.lv j hl
         rw [e4] at this; cases this
       ·rw [e4] at hl; cases hl
     ·intro x dx hx hdx hwx
      cases e : dx.pre.testBit k with
      | false => rfl
      | true =>
       exfalso
       have := hangs_listed h.closed (hd.pre x dx k hdx e) (h.below x dx hx hdx hwx)
       rw [hs] at this; cases this
    exact h.doQuiet hE hd hr hk hlive hi hs hcw (hr.r k d j hk hlive hc hcand h.jm) fun a' h' => hnext a' w j ρ σ h'
   | A => exact h.doMake hE hd hr hk hlive hi hs hc fun a' w' σ' h' => hnext a' w' j ρ σ' h'
   | W => exact h.doLoud hE hcall hd hr hst hk hlive hi hs hc fun a' w' j' ρ' h' => hnext a' w' j' ρ' σ h'
  | false =>
   rcases hpan k d hk hlive with ⟨hp, hl⟩ | ⟨rfl, hc, hlw, hchk, x, H', hstep, hQ⟩
   ·have := hangs_ready h.closed (hd.pre k d most hk hp) d hk hi
    have := h.lv most this
    rw [hl] at this; cases this
   ·exact h.doPanic hE hcall hd hr hst hk hc hlw hi hs hstep hchk (hQ listed a w j ρ σ h)
end
end Go.Sim
end
section
namespace Go.Sim
variable [RO]
open Classical
def tsOf : List DRow → Tmps → Nat → Tmps
 | [], T, _ => T
 | r :: _, _, 0 => r.T
 | _ :: rs, T, k + 1 => tsOf rs T k
def hrOf : List DRow → AHeap → Nat → AHeap
 | [], H, _ => H
 | r :: _, _, 0 => r.H
 | _ :: rs, H, k + 1 => hrOf rs H k
def vlOf : List DRow → Nat → AVal
 | [], _ => AVal.undef
 | r :: _, 0 => r.val
 | _ :: rs, k + 1 => vlOf rs k
def GChain (call : CallF) (E : EnvD) (n : Nat) (lvd : DItem → Bool) : List DItem → Tmps → AHeap → List DRow → Tmps → AHeap → Prop
 | [], T, H, [], T', H' => T' = T ∧ H' = H
 | d :: l, T, H, r :: rs, T', H' => r.T = T ∧ r.H = H ∧
   ((lvd d = true ∧ wchk d T H = true ∧ ∃ H1 T1, dstep call E T H d.it = some (.val r.val H1) ∧ achk d H H1 = true ∧ tput n d.it.dst r.val T = some T1 ∧ GChain call E n lvd l T1 H1 rs T' H') ∨
    (lvd d = false ∧ GChain call E n lvd l T H rs T' H'))
 | _, _, _, _, _, _ => False
section
variable {call : CallF} {E : EnvD} {n : Nat} {lvd : DItem → Bool}
theorem gchain_len : ∀ {l : List DItem} {T : Tmps} {H : AHeap} {rs : List DRow} {T' : Tmps} {H' : AHeap}, GChain call E n lvd l T H rs T' H' → rs.length = l.length
 | [], _, _, [], _, _, _ => rfl
 | [], _, _, _ :: _, _, _, h => h.elim
 | _ :: _, _, _, [], _, _, h => h.elim
 | d :: l, T, H, r :: rs, T', H', h => by
  obtain ⟨_, _, h | h⟩ := h
  ·obtain ⟨_, _, H1, T1, _, _, _, h⟩ := h
   simp [gchain_len h]
  ·simp [gchain_len h.2]
theorem gchain_zero : ∀ {l : List DItem} {T : Tmps} {H : AHeap} {rs : List DRow} {T' : Tmps} {H' : AHeap}, GChain call E n lvd l T H rs T' H' → tsOf rs T' 0 = T ∧ hrOf rs H' 0 = H
 | [], _, _, [], _, _, h => ⟨h.1, h.2⟩
 | [], _, _, _ :: _, _, _, h => h.elim
 | _ :: _, _, _, [], _, _, h => h.elim
 | _ :: _, _, _, _ :: _, _, _, h => ⟨h.1, h.2.1⟩
theorem gchain_get : ∀ {l : List DItem} {T : Tmps} {H : AHeap} {rs : List DRow} {T' : Tmps} {H' : AHeap}, GChain call E n lvd l T H rs T' H' → ∀ (k : Nat) (d : DItem), l[k]? = some d →
  (lvd d = true ∧ wchk d (tsOf rs T' k) (hrOf rs H' k) = true ∧ dstep call E (tsOf rs T' k) (hrOf rs H' k) d.it = some (.val (vlOf rs k) (hrOf rs H' (k + 1))) ∧ achk d (hrOf rs H' k) (hrOf rs H' (k + 1)) = true ∧
   tput n d.it.dst (vlOf rs k) (tsOf rs T' k) = some (tsOf rs T' (k + 1))) ∨
  (lvd d = false ∧ tsOf rs T' (k + 1) = tsOf rs T' k ∧ hrOf rs H' (k + 1) = hrOf rs H' k)
 | [], _, _, [], _, _, _, k, d, hd => by simp at hd
 | [], _, _, _ :: _, _, _, h, _, _, _ => h.elim
 | _ :: _, _, _, [], _, _, h, _, _, _ => h.elim
 | d :: l, T, H, r :: rs, T', H', h, k, d', hd => by
  obtain ⟨h1, h2, h⟩ := h
  cases k with
  | zero =>
   simp only [List.getElem?_cons_zero, Option.some.injEq] at hd; subst hd
   rcases h with ⟨h3, h4, H1, T1, h5, h6, h7, h8⟩ | ⟨h3, h4⟩
   ·obtain ⟨z1, z2⟩ := gchain_zero h8
    refine .inl ⟨h3, ?_, ?_, ?_, ?_⟩
    ·show wchk d r.T r.H = true; rw [h1, h2]; exact h4
    ·show dstep call E r.T r.H d.it = some (.val r.val (hrOf rs H' 0)); rw [h1, h2, z2]; exact h5
    ·show achk d r.H (hrOf rs H' 0) = true; rw [h2, z2]; exact h6
    ·show tput n d.it.dst r.val r.T = some (tsOf rs T' 0); rw [h1, z1]; exact h7
   ·obtain ⟨z1, z2⟩ := gchain_zero h4
    refine .inr ⟨h3, ?_, ?_⟩
    ·show tsOf rs T' 0 = r.T; rw [z1, h1]
    ·show hrOf rs H' 0 = r.H; rw [z2, h2]
  | succ k =>
   rcases h with ⟨h3, h4, H1, T1, h5, h6, h7, h8⟩ | ⟨h3, h4⟩
   ·exact gchain_get h8 k d' (by simpa using hd)
   ·exact gchain_get h4 k d' (by simpa using hd)
theorem hrOf_ge : ∀ (rs : List DRow) (H : AHeap) (k : Nat), rs.length ≤ k → hrOf rs H k = H
 | [], _, _, _ => rfl
 | _ :: rs, H, 0, h => by simp at h
 | _ :: rs, H, k + 1, h => hrOf_ge rs H k (by simpa using h)
theorem hrOf_list : ∀ (rs : List DRow) (H : AHeap) (k : Nat), k ≤ rs.length → (rs.map (·.H) ++ [H])[k]? = some (hrOf rs H k)
 | [], H, 0, _ => rfl
 | [], _, k + 1, h => by simp at h
 | r :: rs, H, 0, _ => rfl
 | r :: rs, H, k + 1, h => by
  simp only [List.map_cons, List.cons_append, List.getElem?_cons_succ]
  exact hrOf_list rs H k (by simpa using h)
theorem make_shape {ao : AOp} {T : Tmps} {H H' : AHeap} {out : AOut} (hq : makeOp ao = true) (h : aop E T H ao = some (out, H')) : ∃ v c, out = .val v ∧ H' = H.new (.cells c 0 true) := by
 cases ao <;> simp only [makeOp, Bool.false_eq_true] at hq <;> simp only [aop, ret] at h
 ·simp only [Option.some.injEq, Prod.mk.injEq] at h
  obtain ⟨rfl, rfl⟩ := h
  exact ⟨_, _, rfl, rfl⟩
 ·split at h
  ·split at h
   ·simp only [Option.some.injEq, Prod.mk.injEq] at h
    obtain ⟨rfl, rfl⟩ := h
    exact ⟨_, _, rfl, rfl⟩
   ·cases h
  ·cases h
 ·split at h
  ·simp only [Option.some.injEq, Prod.mk.injEq] at h
   obtain ⟨rfl, rfl⟩ := h
   exact ⟨_, _, rfl, rfl⟩
  ·cases h
theorem istep_of_dstep {T : Tmps} {H H' : AHeap} {it : AItem} {v : AVal} (hq : quietOp it.op = true ∨ readOp it.op = true ∨ makeOp it.op = true) (h : dstep call E T H it = some (.val v H')) : istep E T H it = some (v, H') := by
 unfold dstep at h
 unfold istep
 split at h
 ·cases h
 ·rename_i hw
  rw [hw]
  simp only
  split at h
  ·rename_i u H1 hop
   simp only [Option.some.injEq, DRes.val.injEq] at h
   obtain ⟨rfl, rfl⟩ := h
   rw [hop]
  ·rename_i f args H1 hop
   exfalso
   rcases hq with hq | hq | hq
   ·obtain ⟨_, ⟨u, e⟩, _⟩ := quiet_any hq hop; cases e
   ·obtain ⟨_, ⟨u, e⟩, _⟩ := read_next hq hop; cases e
   ·obtain ⟨u, c, e, _⟩ := make_shape hq hop; cases e
  ·cases h
 ·rename_i hw
  rw [hw]
  simp only [Option.some.injEq, DRes.val.injEq] at h
  simp [h.1, h.2]
theorem istep_quiet {T : Tmps} {H H' : AHeap} {it : AItem} {v : AVal} (hq : quietOp it.op = true ∨ readOp it.op = true) (h : istep E T H it = some (v, H')) : H' = H := by
 unfold istep at h
 split at h
 ·split at h
  ·rename_i u H1 hop
   simp only [Option.some.injEq, Prod.mk.injEq] at h
   obtain ⟨rfl, rfl⟩ := h
   rcases hq with hq | hq
   ·exact (quiet_any hq hop).1
   ·exact (read_next hq hop).1
  ·cases h
 ·simp only [Option.some.injEq, Prod.mk.injEq] at h; exact h.2.symm
 ·cases h
theorem rcheck_mem {Hs : List AHeap} {d : DItem} {r : DRow} {most : Nat} : ∀ {l : List Nat}, rcheck E Hs d r most l = true → ∀ k ∈ l, k ≤ most → ∃ H, Hs[k]? = some H ∧ (wantedA r.T d.it.guard = some true → ∃ H', aop E r.T H d.it.op = some (.val r.val, H'))
 | [], _, k, hk, _ => by cases hk
 | x :: l, h, k, hk, hle => by
  simp only [rcheck, Bool.and_eq_true] at h
  cases hk with
  | head =>
   have h1 := h.1
   rw [if_pos hle] at h1
   split at h1
   ·rename_i H hH
    refine ⟨H, hH, fun hw => ?_⟩
    rw [hw] at h1
    simp only at h1
    split at h1
    ·rename_i v H' hop
     rw [beqV_sound depth v r.val h1] at hop
     exact ⟨H', hop⟩
    ·cases h1
   ·cases h1
  | tail _ hk => exact rcheck_mem h.2 k hk hle
theorem rchecks_get {Hs : List AHeap} {most : Nat} {skip : DItem → Bool} : ∀ {l : List DItem} {rs : List DRow}, rchecks E Hs most skip l rs = true → ∀ (k : Nat) (d : DItem) (r : DRow), l[k]? = some d → rs[k]? = some r → d.cls = .R → skip d = false →
  rcheck E Hs d r most d.cand = true
 | [], _, _, k, d, r, hd, _, _, _ => by simp at hd
 | _ :: _, [], _, k, d, r, _, hr, _, _ => by simp at hr
 | d :: l, r :: rs, h, k, d', r', hd, hr, hc, hsk => by
  simp only [rchecks, Bool.and_eq_true] at h
  cases k with
  | zero =>
   simp only [List.getElem?_cons_zero, Option.some.injEq] at hd hr; subst hd hr
   have h1 := h.1
   rw [hc] at h1
   simpa [hsk] using h1
  | succ k => exact rchecks_get h.2 k d' r' (by simpa using hd) (by simpa using hr) hc hsk
theorem row_get : ∀ (rs : List DRow) (T : Tmps) (H : AHeap) (k : Nat), k < rs.length → ∃ r, rs[k]? = some r ∧ r.T = tsOf rs T k ∧ r.H = hrOf rs H k ∧ r.val = vlOf rs k
 | [], _, _, k, h => by simp at h
 | r :: rs, _, _, 0, _ => ⟨r, rfl, rfl, rfl, rfl⟩
 | r :: rs, T, H, k + 1, h => by
  obtain ⟨r', h1, h2⟩ := row_get rs T H k (by simpa using h)
  exact ⟨r', by simpa using h1, h2⟩
theorem tput_get {d : Option Nat} {v : AVal} {T T' : Tmps} (h : tput n d v T = some T') (t : Nat) : tget T' t = if d = some t then v else tget T t := by
 unfold tput at h
 split at h
 ·simp only [Option.some.injEq] at h; subst h; simp
 ·rename_i x
  split at h
  ·simp only [Option.some.injEq] at h; subst h
   unfold tget
   rw [Trie.get_set]
   by_cases e : x = t
   ·subst e; simp
   ·simp [e]
  ·cases h
theorem tput_lt {x : Nat} {v : AVal} {T T' : Tmps} (h : tput n (some x) v T = some T') : x < n := by
 unfold tput at h
 simp only at h
 split at h
 ·assumption
 ·cases h
theorem run_of_chain {P : Program} {ops : Array Oper} {its : List DItem} (hd : DOK P E ops its) {T T' : Tmps} {H H' : AHeap} {rs : List DRow} (hg : GChain call E n lvd its T H rs T' H') {most : Nat} {live : Nat → Bool}
  (hlive : ∀ (k : Nat) (d : DItem), its[k]? = some d → live k = lvd d) (hml : most ≤ its.length) (hsmall : ∀ k, k < most → live k = true) (hW : ∀ (k : Nat) (d : DItem), its[k]? = some d → live k = true → d.cls = .W → k < most)
  {Hs : List AHeap} (hHs : ∀ k, k ≤ most → Hs[k]? = some (hrOf rs H' k)) {skip : DItem → Bool} (hskip : ∀ d, lvd d = true → skip d = false) (hrc : rchecks E Hs most skip its rs = true) :
  RunOK call E n its (tsOf rs T') (hrOf rs H') (vlOf rs) most live := by
 have hlen := gchain_len hg
 have hclsq : ∀ (k : Nat) (d : DItem), its[k]? = some d → wcls d.cls = false → quietOp d.it.op = true ∨ readOp d.it.op = true := by
  intro k d hk hc
  have hcl := hd.cls k d hk
  cases e : d.cls with
  | P => rw [e] at hcl; exact .inl hcl
  | R => rw [e] at hcl; simp only [clsOK, Bool.or_eq_true] at hcl; exact hcl
  | A => rw [e] at hc; cases hc
  | W => rw [e] at hc; cases hc
 have hany : ∀ {op : AOp}, quietOp op = true ∨ readOp op = true → quietOp op = true ∨ readOp op = true ∨ makeOp op = true := fun h => h.elim .inl fun h => .inr (.inl h)
 have hstay : ∀ (k : Nat) (d : DItem), its[k]? = some d → wcls d.cls = false → hrOf rs H' (k + 1) = hrOf rs H' k := by
  intro k d hk hc
  rcases gchain_get hg k d hk with ⟨_, _, h3, _⟩ | ⟨_, _, h3⟩
  ·exact istep_quiet (hclsq k d hk hc) (istep_of_dstep (hany (hclsq k d hk hc)) h3)
  ·exact h3
 have hA : ∀ (k : Nat) (d : DItem), its[k]? = some d → live k = true → d.cls = .A → istep E (tsOf rs T' k) (hrOf rs H' k) d.it = some (vlOf rs k, hrOf rs H' (k + 1)) ∧ achk d (hrOf rs H' k) (hrOf rs H' (k + 1)) = true := by
  intro k d hk hl hc
  rcases gchain_get hg k d hk with ⟨_, _, h3, h4, _⟩ | ⟨h1, _⟩
  ·have hmk : makeOp d.it.op = true := by have := hd.cls k d hk; rw [hc] at this; exact this
   exact ⟨istep_of_dstep (.inr (.inr hmk)) h3, h4⟩
  ·rw [hlive k d hk, h1] at hl; cases hl
 have hanew : ∀ (k : Nat) (d : DItem), its[k]? = some d → live k = true → d.cls = .A → hrOf rs H' (k + 1) = hrOf rs H' k ∨ ∃ c, hrOf rs H' (k + 1) = (hrOf rs H' k).new (.cells c 0 true) := by
  intro k d hk hl hc
  obtain ⟨h1, _⟩ := hA k d hk hl hc
  have hmk : makeOp d.it.op = true := by have := hd.cls k d hk; rw [hc] at this; exact this
  unfold istep at h1
  split at h1
  ·split at h1
   ·rename_i v H1 hop
    simp only [Option.some.injEq, Prod.mk.injEq] at h1
    obtain ⟨u, c, _, e⟩ := make_shape hmk hop
    exact .inr ⟨c, by rw [← h1.2, e]⟩
   ·cases h1
  ·simp only [Option.some.injEq, Prod.mk.injEq] at h1
   exact .inl h1.2.symm
  ·cases h1
 refine ⟨hml, ?_, ?_, ?_, ?_, hA, ?_, hanew, hstay, ?_, hsmall⟩
 ·-- the slots
  have key : ∀ k, k ≤ its.length → ∀ t, tget (tsOf rs T' k) t = lastw its (vlOf rs) (tsOf rs T' 0) live t k := by
   intro k
   induction k with
   | zero => intro _ t; rfl
   | succ k ih =>
    intro hk t
    have hkd : its[k]? = some its[k] := List.getElem?_eq_getElem (by omega)
    generalize its[k] = d at hkd
    simp only [lastw, hkd]
    rcases gchain_get hg k d hkd with ⟨h1, _, _, _, h5⟩ | ⟨h1, h2, _⟩
    ·rw [tput_get h5 t, hlive k d hkd, h1]
     by_cases e : d.it.dst = some t
     ·simp [e]
     ·simp only [e, if_false, and_false]
      exact ih (by omega) t
    ·rw [h2, hlive k d hkd, h1]
     simp only [Bool.false_eq_true, false_and, if_false]
     exact ih (by omega) t
  intro k d hk _ t
  exact key k (Nat.le_of_lt (List.getElem?_eq_some_iff.1 hk).1) t
 ·intro k d x hk hl hx
  rcases gchain_get hg k d hk with ⟨_, _, _, _, h5⟩ | ⟨h1, _⟩
  ·rw [hx] at h5; exact tput_lt h5
  ·rw [hlive k d hk, h1] at hl; cases hl
 ·intro k d hk hl hc
  have hq := hclsq k d hk (by rw [hc]; rfl)
  rcases gchain_get hg k d hk with ⟨_, _, h3, _⟩ | ⟨h1, _⟩
  ·have h := istep_of_dstep (hany hq) h3
   rw [istep_quiet hq h] at h; exact h
  ·rw [hlive k d hk, h1] at hl; cases hl
 ·intro k d j hk hl hc hj hjm
  have hq := hclsq k d hk (by rw [hc]; rfl)
  have hkl : k < rs.length := by rw [hlen]; exact (List.getElem?_eq_some_iff.1 hk).1
  obtain ⟨r, r1, r2, r3, r4⟩ := row_get rs T' H' k hkl
  have hlv : lvd d = true := by rw [← hlive k d hk]; exact hl
  obtain ⟨Hj, e1, e2⟩ := rcheck_mem (rchecks_get hrc k d r hk r1 hc (hskip d hlv)) j hj hjm
  rw [hHs j hjm] at e1; cases e1
  rw [r2, r4] at e2
  rcases gchain_get hg k d hk with ⟨_, _, h3, _⟩ | ⟨h1, _⟩
  ·have h := istep_of_dstep (hany hq) h3
   unfold istep at h ⊢
   split at h
   ·rename_i hw
    obtain ⟨H1, e3⟩ := e2 hw
    simp only [hw, e3]
    have : H1 = hrOf rs H' j := by
     rcases hq with hq | hq
     ·exact (quiet_any hq e3).1
     ·exact (read_next hq e3).1
    rw [this]
   ·rename_i hw
    simp only [Option.some.injEq, Prod.mk.injEq] at h
    simp only [hw, h.1]
   ·cases h
  ·rw [hlive k d hk, h1] at hl; cases hl
 ·intro k d hk hl hc
  rcases gchain_get hg k d hk with ⟨_, h2, h3, _⟩ | ⟨h1, _⟩
  ·exact ⟨hW k d hk hl hc, h3, h2⟩
  ·rw [hlive k d hk, h1] at hl; cases hl
 ·intro k
  rcases Nat.lt_or_ge k its.length with hk | hk
  ·have hkd : its[k]? = some its[k] := List.getElem?_eq_getElem hk
   generalize its[k] = d at hkd
   cases hc : d.cls with
   | P => rw [hstay k d hkd (by rw [hc]; rfl)]; exact Nat.le_refl _
   | R => rw [hstay k d hkd (by rw [hc]; rfl)]; exact Nat.le_refl _
   | A =>
    cases hl : live k with
    | true =>
     rcases hanew k d hkd hl hc with e | ⟨c, e⟩
     ·rw [e]; exact Nat.le_refl _
     ·rw [e]; exact Nat.le_succ _
    | false =>
     rcases gchain_get hg k d hkd with ⟨h1, _⟩ | ⟨_, _, h3⟩
     ·rw [hlive k d hkd, h1] at hl; cases hl
     ·rw [h3]; exact Nat.le_refl _
   | W =>
    rcases gchain_get hg k d hkd with ⟨_, _, _, h4, _⟩ | ⟨_, _, h3⟩
    ·unfold achk at h4
     rw [hc] at h4
     exact Nat.le_of_ble_eq_true h4
    ·rw [h3]; exact Nat.le_refl _
  ·rw [hrOf_ge rs H' k (by omega), hrOf_ge rs H' (k + 1) (by omega)]; exact Nat.le_refl _
end
end Go.Sim
end
section
namespace Go.Sim
variable [RO]
open Classical
inductive DR (E : EnvD) (ρ : Ren) : List (FuncId × List AVal) → List Deferred → Prop where
 | nil : DR E ρ [] []
 | cons {f : FuncId} {l : List AVal} {cap da : Array Value} {D : List (FuncId × List AVal)} {ds : List Deferred} (hf : E.isF f = true) (hl : LR ρ l (da ++ cap)) (h : DR E ρ D ds) :
   DR E ρ ((f, l) :: D) (⟨.fn (.func f) cap, da⟩ :: ds)
theorem DR.mono {E : EnvD} {ρ ρ' : Ren} (hl : ρ.le ρ') {D : List (FuncId × List AVal)} {ds : List Deferred} (h : DR E ρ D ds) : DR E ρ' D ds := by
 induction h with
 | nil => exact .nil
 | cons hf h1 _ ih => exact .cons hf (h1.mono hl) ih
def AXR (ρ : Ren) (x : AX) (e : Exit) : Prop :=
 match x with
 | .normal => e = .normal
 | .exit id => e = .exit id
 | .ret => e = .ret
 | .panic v => ∃ u, e = .panic [{ v := u, recovered := false }] ∧ VR ρ v u
def CodePost (E : EnvD) (n : Nat) (K : Nat → Prop) (ρ : Ren) (w : World) (x : AX) (s : St) (e : Exit) (a : Act) (w' : World) : Prop :=
 ∃ ρ', Post K ρ w ρ' s.H w' ∧ TR ρ' s.T a.tmps ∧ a.tmps.size = n ∧ DR E ρ' s.D a.defers ∧ AXR ρ' x e
section
variable {call : CallF} {E : EnvD} {n : Nat} {lvd : DItem → Bool}
theorem drun_done : ∀ {l : List DItem} {k : Nat} {acc : List DRow} {T : Tmps} {H : AHeap} {rows : List DRow} {T' : Tmps} {H' : AHeap},
  drun call E n l k acc T H = some (.done rows T' H') → ∃ rs, rows = acc.reverse ++ rs ∧ GChain call E n (fun _ => true) l T H rs T' H'
 | [], _, acc, T, H, rows, T', H', h => by
  simp only [drun, Option.some.injEq, DRun.done.injEq] at h
  obtain ⟨rfl, rfl, rfl⟩ := h
  exact ⟨[], by simp, rfl, rfl⟩
 | d :: l, k, acc, T, H, rows, T', H', h => by
  simp only [drun] at h
  split at h
  ·rename_i hw
   split at h
   ·rename_i v H1 hs
    split at h
    ·rename_i hc
     split at h
     ·rename_i T1 ht
      obtain ⟨rs, e, hg⟩ := drun_done h
      exact ⟨⟨v, T, H⟩ :: rs, by simp [e], rfl, rfl, .inl ⟨rfl, hw, H1, T1, hs, hc, ht, hg⟩⟩
     ·cases h
    ·cases h
   ·simp at h
   ·cases h
  ·cases h
theorem drun_pan : ∀ {l : List DItem} {k : Nat} {acc : List DRow} {T : Tmps} {H : AHeap} {rows : List DRow} {T0 : Tmps} {H0 : AHeap} {p : Nat} {v : AVal} {H' : AHeap},
  drun call E n l k acc T H = some (.pan rows T0 H0 p v H') → ∃ rs pre d post, l = pre ++ d :: post ∧ rows = acc.reverse ++ rs ∧ GChain call E n (fun _ => true) pre T H rs T0 H0 ∧ p = k + pre.length ∧
   wchk d T0 H0 = true ∧ dstep call E T0 H0 d.it = some (.pan v H')
 | [], _, _, _, _, _, _, _, _, _, _, h => by simp [drun] at h
 | d :: l, k, acc, T, H, rows, T0, H0, p, v, H', h => by
  simp only [drun] at h
  split at h
  ·rename_i hw
   split at h
   ·rename_i u H1 hs
    split at h
    ·rename_i hc
     split at h
     ·rename_i T1 ht
      obtain ⟨rs, pre, dp, post, e1, e2, hg, e3, e4, e5⟩ := drun_pan h
      refine ⟨⟨u, T, H⟩ :: rs, d :: pre, dp, post, by simp [e1], by simp [e2], ⟨rfl, rfl, .inl ⟨rfl, hw, H1, T1, hs, hc, ht, hg⟩⟩, by simp [e3]; omega, e4, e5⟩
     ·cases h
    ·cases h
   ·rename_i u H1 hs
    simp only [Option.some.injEq, DRun.pan.injEq] at h
    obtain ⟨rfl, rfl, rfl, rfl, rfl, rfl⟩ := h
    exact ⟨[], [], d, l, rfl, by simp, ⟨rfl, rfl⟩, by simp, hw, hs⟩
   ·cases h
  ·cases h
theorem dstep_mono {T : Tmps} {H H' : AHeap} {it : AItem} {v : AVal} (h : dstep (fun _ _ _ => none) E T H it = some (.val v H')) : dstep call E T H it = some (.val v H') := by
 unfold dstep at h ⊢
 cases hw : wantedA T it.guard with
 | none => rw [hw] at h; cases h
 | some b =>
  rw [hw] at h
  cases b with
  | false => exact h
  | true =>
   simp only at h ⊢
   split at h
   ·rename_i hop; first | (rw [hop]; exact h) | exact h
   ·cases h
   ·cases h
theorem ddry_chain {p : Nat} : ∀ {l : List DItem} {acc : List DRow} {T : Tmps} {H : AHeap} {more : List DRow}, ddry E n p l acc T H = some more →
  ∃ rs T' H', more = acc.reverse ++ rs ∧ GChain call E n (fun d => !d.pre.testBit p) l T H rs T' H' ∧ (∀ d ∈ l, d.pre.testBit p = false → d.cls ≠ .W)
 | [], acc, T, H, more, h => by
  simp only [ddry, Option.some.injEq] at h
  subst h
  exact ⟨[], T, H, by simp, ⟨rfl, rfl⟩, fun d hd => by cases hd⟩
 | d :: l, acc, T, H, more, h => by
  simp only [ddry] at h
  split at h
  ·rename_i hp
   obtain ⟨rs, T', H', e, hg, hn⟩ := ddry_chain h
   refine ⟨⟨AVal.undef, T, H⟩ :: rs, T', H', by simp [e], ⟨rfl, rfl, .inr ⟨by simp [hp], hg⟩⟩, fun x hx hxp => ?_⟩
   cases hx with
   | head => rw [hp] at hxp; cases hxp
   | tail _ hx => exact hn x hx hxp
  ·rename_i hp
   split at h
   ·cases h
   ·rename_i hcw
    split at h
    ·rename_i v H1 hs
     split at h
     ·rename_i hc
      split at h
      ·rename_i T1 ht
       obtain ⟨rs, T', H', e, hg, hn⟩ := ddry_chain h
       have hwk : wchk d T H = true := by
        unfold wchk
        cases hcl : d.cls <;> first | rfl | exact absurd hcl hcw
       refine ⟨⟨v, T, H⟩ :: rs, T', H', by simp [e], ⟨rfl, rfl, .inl ⟨by simpa using hp, hwk, H1, T1, dstep_mono hs, hc, ht, hg⟩⟩, fun x hx hxp => ?_⟩
       cases hx with
       | head => exact hcw
       | tail _ hx => exact hn x hx hxp
      ·cases h
     ·cases h
    ·cases h
theorem gchain_congr {lvd' : DItem → Bool} : ∀ {l : List DItem} {T : Tmps} {H : AHeap} {rs : List DRow} {T' : Tmps} {H' : AHeap}, (∀ d ∈ l, lvd d = lvd' d) → GChain call E n lvd l T H rs T' H' → GChain call E n lvd' l T H rs T' H'
 | [], _, _, [], _, _, _, h => h
 | [], _, _, _ :: _, _, _, _, h => h.elim
 | _ :: _, _, _, [], _, _, _, h => h.elim
 | d :: l, T, H, r :: rs, T', H', hl, h => by
  have hd := hl d List.mem_cons_self
  have hl' : ∀ d ∈ l, lvd d = lvd' d := fun d hd => hl d (List.mem_cons_of_mem _ hd)
  obtain ⟨h1, h2, h | h⟩ := h
  ·obtain ⟨h3, h4, H1, T1, h5, h6, h7, h8⟩ := h
   exact ⟨h1, h2, .inl ⟨hd ▸ h3, h4, H1, T1, h5, h6, h7, gchain_congr hl' h8⟩⟩
  ·exact ⟨h1, h2, .inr ⟨hd ▸ h.1, gchain_congr hl' h.2⟩⟩
theorem gchain_append : ∀ {l l' : List DItem} {T : Tmps} {H : AHeap} {rs rs' : List DRow} {T1 : Tmps} {H1 : AHeap} {T' : Tmps} {H' : AHeap},
  GChain call E n lvd l T H rs T1 H1 → GChain call E n lvd l' T1 H1 rs' T' H' → GChain call E n lvd (l ++ l') T H (rs ++ rs') T' H'
 | [], _, _, _, [], _, _, _, _, _, h, h' => by obtain ⟨rfl, rfl⟩ := h; exact h'
 | [], _, _, _, _ :: _, _, _, _, _, _, h, _ => h.elim
 | _ :: _, _, _, _, [], _, _, _, _, _, h, _ => h.elim
 | d :: l, l', T, H, r :: rs, rs', T1, H1, T', H', h, h' => by
  obtain ⟨h1, h2, h | h⟩ := h
  ·obtain ⟨h3, h4, H2, T2, h5, h6, h7, h8⟩ := h
   exact ⟨h1, h2, .inl ⟨h3, h4, H2, T2, h5, h6, h7, gchain_append h8 h'⟩⟩
  ·exact ⟨h1, h2, .inr ⟨h.1, gchain_append h.2 h'⟩⟩
theorem hrOf_append : ∀ (rs rs' : List DRow) (H : AHeap) (k : Nat), hrOf (rs ++ rs') H k = if k < rs.length then hrOf rs H k else hrOf rs' H (k - rs.length)
 | [], _, _, _ => by simp
 | r :: rs, rs', H, 0 => by simp [hrOf]
 | r :: rs, rs', H, k + 1 => by
  simp only [List.cons_append, hrOf, List.length_cons, Nat.add_lt_add_iff_right]
  rw [hrOf_append rs rs' H k]
  simp
theorem hrOf_any (H H' : AHeap) : ∀ (rs : List DRow) (k : Nat), k < rs.length → hrOf rs H k = hrOf rs H' k
 | [], _, h => by simp at h
 | r :: rs, 0, _ => rfl
 | r :: rs, k + 1, h => hrOf_any H H' rs k (by simpa using h)
theorem chain_lastw {its : List DItem} {T T' : Tmps} {H H' : AHeap} {rs : List DRow} (hg : GChain call E n lvd its T H rs T' H') {live : Nat → Bool}
  (hlive : ∀ (k : Nat) (d : DItem), its[k]? = some d → live k = lvd d) : ∀ k, k ≤ its.length → ∀ t, tget (tsOf rs T' k) t = lastw its (vlOf rs) (tsOf rs T' 0) live t k := by
 intro k
 induction k with
 | zero => intro _ t; rfl
 | succ k ih =>
  intro hk t
  have hkd : its[k]? = some its[k] := List.getElem?_eq_getElem (by omega)
  generalize its[k] = d at hkd
  simp only [lastw, hkd]
  rcases gchain_get hg k d hkd with ⟨h1, _, _, _, h5⟩ | ⟨h1, h2, _⟩
  ·rw [tput_get h5 t, hlive k d hkd, h1]
   by_cases e : d.it.dst = some t
   ·simp [e]
   ·simp only [e, if_false, and_false]
    exact ih (by omega) t
  ·rw [h2, hlive k d hkd, h1]
   simp only [Bool.false_eq_true, false_and, if_false]
   exact ih (by omega) t
theorem tsOf_ge : ∀ (rs : List DRow) (T : Tmps) (k : Nat), rs.length ≤ k → tsOf rs T k = T
 | [], _, _, _ => rfl
 | _ :: rs, T, 0, h => by simp at h
 | _ :: rs, T, k + 1, h => tsOf_ge rs T k (by simpa using h)
theorem hangs_lt {P : Program} {ops : Array Oper} {its : List DItem} (hd : DOK P E ops its) {k q : Nat} (h : Hangs ops its k q) : q < k := by
 induction h with
 | direct hk ho he hb hq hi =>
  obtain ⟨q', dq', h1, h2, h3⟩ := hd.edge _ _ _ _ hk ho he hb
  have := hd.inj _ _ _ _ hq h2 (by rw [hi, h3])
  omega
 | step _ _ h1 h2 => omega
theorem tget_junkAll : ∀ (l : List Nat) (T : Tmps) (t : Nat), tget (junkAll l T) t = if t ∈ l then .junk else tget T t
 | [], T, t => by simp [junkAll]
 | x :: l, T, t => by
  have := tget_junkAll l (T.set x (some .junk)) t
  show tget (junkAll l (T.set x (some .junk))) t = _
  rw [this]
  unfold tget
  rw [Trie.get_set]
  by_cases e : t ∈ l
  ·simp [e]
  ·by_cases e2 : x = t
   ·subst e2; simp
   ·simp [e, e2, Ne.symm e2]
theorem join_none (ρ : Ren) : join ρ (fun _ => none) = ρ := by
 funext i; unfold join; cases ρ i <;> rfl
theorem sB_none (its : List DItem) (m k : Nat) : sB its (Array.replicate m false) k = false := by
 unfold sB
 split
 ·simp only [Array.getD_eq_getD_getElem?, Array.getElem?_replicate]; split <;> rfl
 ·rfl
theorem pan_call {T : Tmps} {H H' : AHeap} {d : DItem} {v : AVal} (hc : clsOK d.cls d.it.op = true) (h : dstep call E T H d.it = some (.pan v H')) : d.cls = .W := by
 have hq : ¬ (quietOp d.it.op = true ∨ readOp d.it.op = true ∨ makeOp d.it.op = true) := by
  intro hq
  unfold dstep at h
  split at h
  ·cases h
  ·split at h
   ·simp at h
   ·rename_i f args H1 hop
    rcases hq with hq | hq | hq
    ·obtain ⟨_, ⟨u, e⟩, _⟩ := quiet_any hq hop; cases e
    ·obtain ⟨_, ⟨u, e⟩, _⟩ := read_next hq hop; cases e
    ·obtain ⟨u, c, e, _⟩ := make_shape hq hop; cases e
   ·cases h
  ·simp at h
 cases e : d.cls with
 | P => rw [e] at hc; exact absurd (.inl hc) hq
 | R => rw [e] at hc; simp only [clsOK, Bool.or_eq_true] at hc; exact absurd (hc.elim .inl fun h => .inr (.inl h)) hq
 | A => rw [e] at hc; exact absurd (.inr (.inr hc)) hq
 | W => rfl
theorem di_start {ops : Array Oper} {its : List DItem} {Ts : Nat → Tmps} {Hr : Nat → AHeap} {vl : Nat → AVal} {most : Nat} {live : Nat → Bool} {K : Nat → Prop} {ρ : Ren} {a : Act} {w : World}
  (ht : TR ρ (Ts 0) a.tmps) (hn : a.tmps.size = n) (hw : WR K ρ (Hr 0) w) :
  DI ops n its Ts Hr vl most live K ρ w a (Array.replicate ops.size false) a w 0 ρ (fun _ => none) := by
 refine ⟨hn, rfl, by simp, ?_, ?_, Nat.zero_le _, fun k d h => absurd h (Nat.not_lt_zero _), fun k d _ _ _ => sB_none _ _ _, ?_, ρ.le_refl, ?_, ?_, ?_, ?_, fun _ _ => rfl, fun _ _ => rfl, Grew.refl w, hw.ro⟩
 ·intro i o e hi
  simp only [Array.getD_eq_getD_getElem?, Array.getElem?_replicate] at hi
  split at hi <;> cases hi
 ·intro k hk; rw [sB_none] at hk; cases hk
 ·refine hw.anti (fun b hb => .inl (hw.ro b hb)) fun b hb => ?_
  rcases hb with hb | ⟨i, l, h, _⟩
  ·exact hb
  ·cases h
 ·intro i l h; cases h
 ·intro i i' l l' h; cases h
 ·intro k d _ _ _ hs; rw [sB_none] at hs; cases hs
 ·intro t
  rw [join_none, lastw_more (Nat.zero_le _) (fun k d _ _ _ => sB_none _ _ _)]
  exact ht t
theorem dreg_sound {P : Program} (hP : P.follows .mixedOrders = true) (hE : EnvOK P E) (hcall : CallOK P E call) {ops : Array Oper} {its : List DItem} (hd : DOK P E ops its) {s s' : St} {x : AX}
  (h : dreg call E n its s = some (x, s')) {K : Nat → Prop} {ρ : Ren} {a : Act} {w : World} (ht : TR ρ s.T a.tmps) (hn : a.tmps.size = n) (hw : WR K ρ s.H w) (hD : DR E ρ s.D a.defers) (id : Nat) :
  (Code.region id ops true).wp P (CodePost E n K ρ w x s') a w := by
 have hw' : WR K ρ s.H { w with drawn := w.drawn + 1 } := hw.of_heap rfl
 refine wp_region_any hP ?_
 unfold dreg at h
 split at h
 ·rename_i rows T H hrun
  split at h
  ·rename_i hrc
   simp only [Option.some.injEq, Prod.mk.injEq] at h
   obtain ⟨rfl, rfl⟩ := h
   obtain ⟨rs, e, hg⟩ := drun_done hrun
   simp only [List.reverse_nil, List.nil_append] at e
   subst e
   have hlen := gchain_len hg
   obtain ⟨z1, z2⟩ := gchain_zero hg
   have hr : RunOK call E n its (tsOf rows T) (hrOf rows H) (vlOf rows) rows.length (fun _ => true) := run_of_chain hd hg (fun _ _ _ => rfl) (by omega) (fun _ _ => rfl)
    (fun k d hk _ _ => by rw [hlen]; exact (List.getElem?_eq_some_iff.1 hk).1) (fun k hk => hrOf_list rows H k hk) (fun _ _ => rfl) hrc
   have h0 : DI ops n its (tsOf rows T) (hrOf rows H) (vlOf rows) rows.length (fun _ => true) K ρ { w with drawn := w.drawn + 1 } a (Array.replicate ops.size false) a { w with drawn := w.drawn + 1 } 0 ρ (fun _ => none) :=
    di_start (by rw [z1]; exact ht) hn (by rw [z2]; exact hw')
   obtain ⟨j, ρ1, σ1, h1, hst⟩ := h0.settle hr _ 0 ρ _ rfl
   refine draw_all hE hcall hd hr (.inl hlen) ?_ (fun k d _ hk => by cases hk) ops.size _ a _ j ρ1 σ1 ?_ h1 hst
   ·intro listed a' w1 j ρ2 σ2 hall h hst
    have hj : j = rows.length := by
     rcases hst with e | ⟨e1, d, e2, _, e3⟩
     ·exact e
     ·rw [hall j (by omega)] at e3; cases e3
    subst hj
    have hσ : σ2 = fun _ => none := by
     funext i
     cases e : σ2 i with
     | none => rfl
     | some l =>
      obtain ⟨k, d, _, _, _, h1, h2, _⟩ := h.sg i l e
      have := (List.getElem?_eq_some_iff.1 h2).1
      omega
    subst hσ
    have htm : TR ρ2 T a'.tmps := by
     intro t
     have := h.tm t
     rw [join_none, lastw_congr (s' := fun _ => true) (fun k d hk _ _ => hall k hk), ← chain_lastw hg (fun _ _ _ => rfl) its.length (Nat.le_refl _) t, tsOf_ge rows T its.length (by omega)] at this
     exact this
    refine ⟨ρ2, ⟨h.le, ?_, h.keep, ⟨h.grow.size, h.grow.os, h.grow.out, h.grow.tape⟩⟩, htm, h.sz, by rw [h.df]; exact hD.mono h.le, rfl⟩
    have := h.wr
    rw [hrOf_ge rows H rows.length (Nat.le_refl _)] at this
    exact this.anti h.ro fun b hb => .inl hb
   ·have : unl its (Array.replicate ops.size false) ≤ (List.range its.length).length := List.length_filter_le _ _
    rw [List.length_range, hd.len] at this
    exact this
  ·cases h
 ·rename_i rows T0 H0 p v H1 hrun
  split at h
  ·rename_i more hdry
   split at h
   ·rename_i hrc
    simp only [Option.some.injEq, Prod.mk.injEq] at h
    obtain ⟨rfl, rfl⟩ := h
    obtain ⟨rs, pre, dp, post, e1, e2, hg1, e3, hwk, hstep⟩ := drun_pan hrun
    simp only [List.reverse_nil, List.nil_append, Nat.zero_add] at e2 e3
    subst e2
    have hpost : its.drop (p + 1) = post := by
     rw [e1, e3]
     simp
    rw [hpost] at hdry
    obtain ⟨rs2, T2, H2, e4, hg2, hnW⟩ := ddry_chain (call := call) hdry
    simp only [List.reverse_nil, List.nil_append] at e4
    subst e4
    have hlen1 := gchain_len hg1
    have hp : its[p]? = some dp := by rw [e1, e3]; simp
    have hcls : dp.cls = .W := pan_call (hd.cls p dp hp) hstep
    have hpl : p < its.length := (List.getElem?_eq_some_iff.1 hp).1
    let lvd : DItem → Bool := fun d => d.idx != dp.idx && !d.pre.testBit p
    have hpre : ∀ d ∈ pre, lvd d = true := by
     intro d hdm
     obtain ⟨k, hk, hkd⟩ := List.getElem_of_mem hdm
     have hkd' : its[k]? = some d := by rw [e1, List.getElem?_append_left hk]; simp [hk, hkd]
     simp only [lvd, Bool.and_eq_true, bne_iff_ne, ne_eq, Bool.not_eq_true']
     refine ⟨fun e => ?_, ?_⟩
     ·have := hd.inj k p d dp hkd' hp e; omega
     ·cases e : d.pre.testBit p with
      | false => rfl
      | true => have := hangs_lt hd (hd.pre k d p hkd' e); omega
    have hpostl : ∀ d ∈ post, lvd d = !d.pre.testBit p := by
     intro d hdm
     obtain ⟨k, hk, hkd⟩ := List.getElem_of_mem hdm
     have hkd' : its[p + 1 + k]? = some d := by
      have : post[k]? = some d := by simp [hk, hkd]
      rw [← hpost, List.getElem?_drop] at this; exact this
     have : d.idx ≠ dp.idx := fun e => by have := hd.inj _ p d dp hkd' hp e; omega
     simp [lvd, this]
    have hg : GChain call E n lvd its s.T s.H (rows ++ ⟨AVal.undef, T0, H0⟩ :: more) T2 H2 := by
     rw [e1]
     refine gchain_append (gchain_congr (fun d hd => (hpre d hd).symm) hg1) ?_
     exact ⟨rfl, rfl, .inr ⟨by simp [lvd], gchain_congr (fun d hd => (hpostl d hd).symm) hg2⟩⟩
    let live : Nat → Bool := fun k => match its[k]? with
     | some d => lvd d
     | none => true
    have hlive : ∀ (k : Nat) (d : DItem), its[k]? = some d → live k = lvd d := by
     intro k d hk; simp [live, hk]
    have hprek : ∀ (k : Nat) (d : DItem), k < p → its[k]? = some d → d ∈ pre := by
     intro k d hk hkd
     rw [e1, List.getElem?_append_left (by omega)] at hkd
     exact List.mem_of_getElem? hkd
    have hsmall : ∀ k, k < p → live k = true := by
     intro k hk
     have hkd : its[k]? = some its[k] := List.getElem?_eq_getElem (by omega)
     generalize its[k] = d at hkd
     rw [hlive k d hkd]
     exact hpre d (hprek k d hk hkd)
    have hlp : live p = false := by rw [hlive p dp hp]; simp [lvd]
    have hr : RunOK call E n its (tsOf (rows ++ ⟨AVal.undef, T0, H0⟩ :: more) T2) (hrOf (rows ++ ⟨AVal.undef, T0, H0⟩ :: more) H2) (vlOf (rows ++ ⟨AVal.undef, T0, H0⟩ :: more)) p live := by
     refine run_of_chain (lvd := lvd) hd hg hlive (Nat.le_of_lt hpl) hsmall ?_ ?_ (skip := fun d => d.pre.testBit p) ?_ hrc
     ·intro k d hk hl hc
      rcases Nat.lt_trichotomy k p with h' | h' | h'
      ·exact h'
      ·subst h'; rw [hlp] at hl; cases hl
      ·exfalso
       have hm : d ∈ post := by
        rw [← hpost]
        refine List.mem_of_getElem? (i := k - (p + 1)) ?_
        rw [List.getElem?_drop]
        rw [show p + 1 + (k - (p + 1)) = k by omega]; exact hk
       rw [hlive k d hk, hpostl d hm] at hl
       exact hnW d hm (by simpa using hl) hc
     ·intro k hk
      rw [hrOf_append]
      have := hrOf_list rows H0 k (by omega)
      rw [this]
      split
      ·rename_i h'; rw [hrOf_any H0 H2 rows k h']
      ·have : k - rows.length = 0 := by omega
       rw [this, hrOf_ge rows H0 k (by omega)]; rfl
     ·intro d hd'
      simp only [lvd, Bool.and_eq_true, Bool.not_eq_true'] at hd'
      exact hd'.2
    obtain ⟨z1, z2⟩ := gchain_zero hg
    have h0 := di_start (ops := ops) (its := its) (vl := vlOf (rows ++ ⟨AVal.undef, T0, H0⟩ :: more)) (most := p) (live := live) (Ts := tsOf (rows ++ ⟨AVal.undef, T0, H0⟩ :: more) T2) (Hr := hrOf (rows ++ ⟨AVal.undef, T0, H0⟩ :: more) H2)
     (K := K) (ρ := ρ) (a := a) (w := { w with drawn := w.drawn + 1 }) (by rw [z1]; exact ht) hn (by rw [z2]; exact hw')
    obtain ⟨j, ρ1, σ1, h1, hst⟩ := h0.settle hr _ 0 ρ _ rfl
    have hTp : tsOf (rows ++ ⟨AVal.undef, T0, H0⟩ :: more) T2 p = T0 := by
     obtain ⟨r, r1, r2, r3, r4⟩ := row_get (rows ++ ⟨AVal.undef, T0, H0⟩ :: more) T2 H2 p (by simp; omega)
     rw [← r2]
     rw [List.getElem?_append_right (by omega), show p - rows.length = 0 by omega] at r1
     simp at r1; rw [← r1]
    have hHp : hrOf (rows ++ ⟨AVal.undef, T0, H0⟩ :: more) H2 p = H0 := by
     rw [hrOf_append, if_neg (by omega), show p - rows.length = 0 by omega]; rfl
    refine draw_all hE hcall hd hr (.inr ⟨dp, hp, hcls, hlp⟩) ?_ ?_ ops.size _ a _ j ρ1 σ1 ?_ h1 hst
    ·intro listed a' w1 j ρ2 σ2 hall h hst
     exfalso
     have := h.lv p (hall p hpl)
     rw [hlp] at this; cases this
    ·intro k d hk hl
     by_cases e : k = p
     ·subst e
      rw [hp] at hk; cases hk
      refine .inr ⟨rfl, hcls, fun t _ => chain_lastw hg hlive k (Nat.le_of_lt hpl) t, by rw [hTp, hHp]; exact hwk, v, H1, by rw [hTp, hHp]; exact hstep, ?_⟩
      intro listed a' w1 j ρ2 σ2 hdi v' w' ρ' hv hle hwr hkeep hgrow
      refine ⟨ρ', ⟨hle, hwr, hkeep, ⟨hgrow.size, hgrow.os, hgrow.out, hgrow.tape⟩⟩, ?_, hdi.sz, by rw [hdi.df]; exact hD.mono hle, _, rfl, hv⟩
      intro t
      rw [tget_junkAll]
      split
      ·exact .junk _
      ·rename_i hnt
       have := hdi.un t (fun k d hk e => hnt (List.mem_filterMap.2 ⟨d, List.mem_of_getElem? hk, e⟩))
       rw [this]
       exact (ht t).mono hle
     ·refine .inl ⟨?_, hlp⟩
      rw [hlive k d hk] at hl
      have : d.idx ≠ dp.idx := fun e' => e (hd.inj _ _ _ _ hk hp e')
      simp [lvd, this] at hl
      exact hl
    ·have : unl its (Array.replicate ops.size false) ≤ (List.range its.length).length := List.length_filter_le _ _
     rw [List.length_range, hd.len] at this
     exact this
   ·cases h
  ·cases h
 ·cases h
end
end Go.Sim
end
section
namespace Go.Sim
variable [RO]
def eqC : Value → Value → Bool
 | .bool a, .bool b => a == b
 | .int k n, .int k' n' => decide (k = k') && decide (n = n')
 | .string s, .string s' => decide (s = s')
 | .pointer none, .pointer none => true
 | .slice none a b, .slice none c d => Nat.beq a c && Nat.beq b d
 | .map none, .map none => true
 | .nilFunc, .nilFunc => true
 | .nilIface, .nilIface => true
 | .func f a b, .func g c d => decide (f = g) && Nat.beq a.size 0 && Nat.beq b.size 0 && Nat.beq c.size 0 && Nat.beq d.size 0
 | _, _ => false
theorem eqC_sound {a b : Value} (h : eqC a b = true) : a = b := by
 unfold eqC at h
 split at h <;> simp only [Bool.and_eq_true, decide_eq_true_eq, beq_iff_eq, Nat.beq_eq_true_eq, Bool.false_eq_true] at h
 ·rw [h]
 ·rw [h.1, h.2]
 ·rw [h]
 ·rfl
 ·rw [Nat.eq_of_beq_eq_true h.1, Nat.eq_of_beq_eq_true h.2]
 ·rfl
 ·rfl
 ·rfl
 ·obtain ⟨⟨⟨⟨h1, h2⟩, h3⟩, h4⟩, h5⟩ := h
  rw [h1, Array.eq_empty_of_size_eq_zero (Nat.eq_of_beq_eq_true h2), Array.eq_empty_of_size_eq_zero (Nat.eq_of_beq_eq_true h3), Array.eq_empty_of_size_eq_zero (Nat.eq_of_beq_eq_true h4), Array.eq_empty_of_size_eq_zero (Nat.eq_of_beq_eq_true h5)]
def eqO : Operand → Operand → Bool
 | .tmp a, .tmp b => Nat.beq a b
 | .const a, .const b => eqC a b
 | .func a, .func b => Nat.beq a b
 | .global a, .global b => Nat.beq a b
 | _, _ => false
theorem eqO_sound {a b : Operand} (h : eqO a b = true) : a = b := by
 unfold eqO at h
 split at h
 ·rw [Nat.eq_of_beq_eq_true h]
 ·rw [eqC_sound h]
 ·have := Nat.eq_of_beq_eq_true h; subst this; rfl
 ·rw [Nat.eq_of_beq_eq_true h]
 ·cases h
def eqLs {α : Type} (f : α → α → Bool) : List α → List α → Bool
 | [], [] => true
 | a :: l, b :: m => f a b && eqLs f l m
 | _, _ => false
theorem eqLs_sound {α : Type} {f : α → α → Bool} (hf : ∀ a b, f a b = true → a = b) : ∀ {l m : List α}, eqLs f l m = true → l = m
 | [], [], _ => rfl
 | a :: l, b :: m, h => by
  simp only [eqLs, Bool.and_eq_true] at h
  rw [hf a b h.1, eqLs_sound hf h.2]
 | [], _ :: _, h => by simp [eqLs] at h
 | _ :: _, [], h => by simp [eqLs] at h
def eqM {α : Type} (f : α → α → Bool) : Option α → Option α → Bool
 | none, none => true
 | some a, some b => f a b
 | _, _ => false
theorem eqM_sound {α : Type} {f : α → α → Bool} (hf : ∀ a b, f a b = true → a = b) {l m : Option α} (h : eqM f l m = true) : l = m := by
 unfold eqM at h
 split at h
 ·rfl
 ·rw [hf _ _ h]
 ·cases h
def eqP (a b : Nat × Nat × Operand) : Bool := Nat.beq a.1 b.1 && Nat.beq a.2.1 b.2.1 && eqO a.2.2 b.2.2
theorem eqP_sound (a b : Nat × Nat × Operand) (h : eqP a b = true) : a = b := by
 simp only [eqP, Bool.and_eq_true] at h
 obtain ⟨a1, a2, a3⟩ := a; obtain ⟨b1, b2, b3⟩ := b
 have h1 := Nat.eq_of_beq_eq_true h.1.1
 have h2 := Nat.eq_of_beq_eq_true h.1.2
 have h3 := eqO_sound h.2
 simp only at h1 h2 h3
 rw [h1, h2, h3]
def eqV (a b : AVal) : Bool := beqV depth a b
theorem eqV_sound (a b : AVal) (h : eqV a b = true) : a = b := beqV_sound depth a b h
def eqR (a b : Rope AVal) : Bool := eqV (.agg a) (.agg b)
theorem eqR_sound (a b : Rope AVal) (h : eqR a b = true) : a = b := by
 have := eqV_sound _ _ h
 simpa using this
def eqLK : LK → LK → Bool
 | .arr a, .arr b => Nat.beq a b
 | .sl, .sl => true
 | .st, .st => true
 | _, _ => false
theorem eqLK_sound {a b : LK} (h : eqLK a b = true) : a = b := by
 unfold eqLK at h
 split at h
 ·rw [Nat.eq_of_beq_eq_true h]
 ·rfl
 ·rfl
 ·cases h
def eqKd : Kd → Kd → Bool
 | .agg a, .agg b => Nat.beq a b
 | .scal, .scal => true
 | .bool, .bool => true
 | .ptr, .ptr => true
 | .slice, .slice => true
 | .func, .func => true
 | .iface, .iface => true
 | _, _ => false
theorem eqKd_sound {a b : Kd} (h : eqKd a b = true) : a = b := by
 unfold eqKd at h
 split at h
 ·rw [Nat.eq_of_beq_eq_true h]
 all_goals first | rfl | cases h
def eqOp : AOp → AOp → Bool
 | .mov x, .mov x' => eqO x x'
 | .pick c a b, .pick c' a' b' => eqO c c' && eqO a a' && eqO b b'
 | .new z, .new z' => eqR z z'
 | .box x, .box x' => eqO x x'
 | .build z ps, .build z' ps' => eqR z z' && eqLs eqP ps ps'
 | .bsl n z ps, .bsl n' z' ps' => Nat.beq n n' && eqR z z' && eqLs eqP ps ps'
 | .ldc x, .ldc x' => eqO x x'
 | .ldr n x, .ldr n' x' => Nat.beq n n' && eqO x x'
 | .sto n a v, .sto n' a' v' => Nat.beq n n' && eqO a a' && eqO v v'
 | .nilc x, .nilc x' => eqO x x'
 | .bin op k c x y, .bin op' k' c' x' y' => decide (op = op') && eqKd k k' && c == c' && eqO x x' && eqO y y'
 | .una op x, .una op' x' => decide (op = op') && eqO x x'
 | .cvt k x, .cvt k' x' => decide (k = k') && eqO x x'
 | .mki t x, .mki t' x' => Nat.beq t t' && eqO x x'
 | .mkf fn a b, .mkf fn' a' b' => decide (fn = fn') && eqLs eqO a a' && eqLs eqO b b'
 | .mkm, .mkm => true
 | .mks n z l c, .mks n' z' l' c' => Nat.beq n n' && eqR z z' && eqO l l' && eqO c c'
 | .sls s x l h, .sls s' x' l' h' => Nat.beq s s' && eqO x x' && eqM eqO l l' && eqM eqO h h'
 | .sla n s x l h, .sla n' s' x' l' h' => Nat.beq n n' && Nat.beq s s' && eqO x x' && eqM eqO l l' && eqM eqO h h'
 | .fa o x, .fa o' x' => Nat.beq o o' && eqO x x'
 | .fld g o s x, .fld g' o' s' x' => g == g' && Nat.beq o o' && Nat.beq s s' && eqO x x'
 | .iaa n s x i, .iaa n' s' x' i' => Nat.beq n n' && Nat.beq s s' && eqO x x' && eqO i i'
 | .ias s x i, .ias s' x' i' => Nat.beq s s' && eqO x x' && eqO i i'
 | .ixa n g s x i, .ixa n' g' s' x' i' => Nat.beq n n' && g == g' && Nat.beq s s' && eqO x x' && eqO i i'
 | .ixs x i, .ixs x' i' => eqO x x' && eqO i i'
 | .lkp k z ok x i, .lkp k' z' ok' x' i' => decide (k = k') && eqV z z' && ok == ok' && eqO x x' && eqO i i'
 | .mup k m i v, .mup k' m' i' v' => decide (k = k') && eqO m m' && eqO i i' && eqO v v'
 | .tas t ok z x, .tas t' ok' z' x' => Nat.beq t t' && ok == ok' && eqV z z' && eqO x x'
 | .ext x i, .ext x' i' => eqO x x' && Nat.beq i i'
 | .call f l, .call f' l' => Nat.beq f f' && eqLs eqO l l'
 | .clv f l, .clv f' l' => eqO f f' && eqLs eqO l l'
 | .inv n r l, .inv n' r' l' => decide (n = n') && eqO r r' && eqLs eqO l l'
 | .len k x, .len k' x' => eqLK k k' && eqO x x'
 | .app s b x y, .app s' b' x' y' => Nat.beq s s' && Nat.beq b b' && eqO x x' && eqO y y'
 | .cpy s x y, .cpy s' x' y' => Nat.beq s s' && eqO x x' && eqO y y'
 | .mnx m x y, .mnx m' x' y' => m == m' && eqO x x' && eqO y y'
 | .dfr f l, .dfr f' l' => eqO f f' && eqLs eqO l l'
 | .pnc x, .pnc x' => eqO x x'
 | .rcv, .rcv => true
 | _, _ => false
theorem eqOp_sound {a b : AOp} (h : eqOp a b = true) : a = b := by
 unfold eqOp at h
 have no {α : Type} {f : α → α → Bool} (hf : ∀ a b, f a b = true → a = b) {l m : List α} (h : eqLs f l m = true) := eqLs_sound hf h
 split at h
 case h_40 => cases h
 all_goals (
  try simp only [Bool.and_eq_true, decide_eq_true_eq, beq_iff_eq] at h)
 all_goals first
  | rfl
  | (rw [eqO_sound h]; done)
  | (rw [eqR_sound _ _ h]; done)
  | (rw [eqO_sound h.1, eqO_sound h.2]; done)
  | (rw [eqR_sound _ _ h.1, eqLs_sound eqP_sound h.2]; done)
  | (rw [Nat.eq_of_beq_eq_true h.1, eqO_sound h.2]; done)
  | (have e := Nat.eq_of_beq_eq_true h.1; subst e; rw [eqO_sound h.2]; done)
  | (rw [h.1, eqO_sound h.2]; done)
  | (rw [eqLK_sound h.1, eqO_sound h.2]; done)
  | (rw [eqO_sound h.1, Nat.eq_of_beq_eq_true h.2]; done)
  | (rw [Nat.eq_of_beq_eq_true h.1, eqLs_sound (fun _ _ => eqO_sound) h.2]; done)
  | (have e := Nat.eq_of_beq_eq_true h.1; subst e; rw [eqLs_sound (fun _ _ => eqO_sound) h.2]; done)
  | (rw [eqO_sound h.1, eqLs_sound (fun _ _ => eqO_sound) h.2]; done)
  | (rw [eqO_sound h.1.1, eqO_sound h.1.2, eqO_sound h.2]; done)
  | (rw [Nat.eq_of_beq_eq_true h.1.1, eqR_sound _ _ h.1.2, eqLs_sound eqP_sound h.2]; done)
  | (rw [Nat.eq_of_beq_eq_true h.1.1, eqO_sound h.1.2, eqO_sound h.2]; done)
  | (rw [h.1.1, eqO_sound h.1.2, eqO_sound h.2]; done)
  | (rw [h.1.1, eqO_sound h.1.2, eqLs_sound (fun _ _ => eqO_sound) h.2]; done)
  | (rw [h.1.1, eqLs_sound (fun _ _ => eqO_sound) h.1.2, eqLs_sound (fun _ _ => eqO_sound) h.2]; done)
  | (rw [Nat.eq_of_beq_eq_true h.1.1.1, eqR_sound _ _ h.1.1.2, eqO_sound h.1.2, eqO_sound h.2]; done)
  | (rw [Nat.eq_of_beq_eq_true h.1.1.1, eqO_sound h.1.1.2, eqM_sound (fun _ _ => eqO_sound) h.1.2, eqM_sound (fun _ _ => eqO_sound) h.2]; done)
  | (rw [Nat.eq_of_beq_eq_true h.1.1.1.1, Nat.eq_of_beq_eq_true h.1.1.1.2, eqO_sound h.1.1.2, eqM_sound (fun _ _ => eqO_sound) h.1.2, eqM_sound (fun _ _ => eqO_sound) h.2]; done)
  | (rw [h.1.1.1, Nat.eq_of_beq_eq_true h.1.1.2, Nat.eq_of_beq_eq_true h.1.2, eqO_sound h.2]; done)
  | (rw [Nat.eq_of_beq_eq_true h.1.1.1, Nat.eq_of_beq_eq_true h.1.1.2, eqO_sound h.1.2, eqO_sound h.2]; done)
  | (rw [Nat.eq_of_beq_eq_true h.1.1.1.1, h.1.1.1.2, Nat.eq_of_beq_eq_true h.1.1.2, eqO_sound h.1.2, eqO_sound h.2]; done)
  | (rw [h.1.1.1.1, eqKd_sound h.1.1.1.2, h.1.1.2, eqO_sound h.1.2, eqO_sound h.2]; done)
  | (rw [h.1.1.1.1, eqV_sound _ _ h.1.1.1.2, h.1.1.2, eqO_sound h.1.2, eqO_sound h.2]; done)
  | (rw [h.1.1.1, eqO_sound h.1.1.2, eqO_sound h.1.2, eqO_sound h.2]; done)
  | (have e := Nat.eq_of_beq_eq_true h.1.1.1; subst e; rw [h.1.1.2, eqV_sound _ _ h.1.2, eqO_sound h.2]; done)
  | skip
end Go.Sim
end
section
namespace Go.Sim
variable [RO]
def guardChk (ops : List Oper) (o : Oper) (it : AItem) : Bool :=
 match o.guard, it.guard with
 | none, none => true
 | some (j, b), some (t, b') => b == b' && (match ops[j]? with
  | some oj => (match oj.dst with | some t' => Nat.beq t t' | none => false)
  | none => false)
 | _, _ => false
def dstChk : Option Nat → Option Nat → Bool
 | none, none => true
 | some a, some b => Nat.beq a b
 | _, _ => false
def opChk (P : Program) (E : EnvD) (o : Op) : AOp → Bool
 | .bad => true
 | op => match comp P E o with
  | some op' => eqOp op' op
  | none => false
def itemChk (P : Program) (E : EnvD) (ops : List Oper) (o : Oper) (it : AItem) : Bool :=
 opChk P E o.op it.op && dstChk o.dst it.dst && guardChk ops o it
theorem itemChk_sound {P : Program} {E : EnvD} {ops : Array Oper} {o : Oper} {it : AItem} (h : itemChk P E ops.toList o it = true) : ItemOK P E ops o it := by
 simp only [itemChk, Bool.and_eq_true] at h
 obtain ⟨⟨h1, h2⟩, h3⟩ := h
 refine ⟨?_, ?_, ?_⟩
 ·unfold opChk at h1
  split at h1
  ·rename_i e; exact .inr e
  ·split at h1
   ·rename_i op' hc; rw [hc, eqOp_sound h1]; exact .inl rfl
   ·cases h1
 ·unfold dstChk at h2
  split at h2
  ·rename_i e1 e2; rw [e1, e2]
  ·rename_i e1 e2; rw [e1, e2, Nat.eq_of_beq_eq_true h2]
  ·cases h2
 ·unfold GuardOK
  unfold guardChk at h3
  split at h3
  ·rename_i e1 e2; rw [e1, e2]; trivial
  ·rename_i j b t b' e1 e2
   rw [e1, e2]
   simp only [Bool.and_eq_true, beq_iff_eq] at h3
   refine ⟨h3.1, ?_⟩
   have h4 := h3.2
   split at h4
   ·rename_i oj hj
    split at h4
    ·rename_i t' ht
     have := Nat.eq_of_beq_eq_true h4
     subst this
     have hj' : ops[j]? = some oj := by rw [← Array.getElem?_toList]; exact hj
     rw [hj']; exact ht
    ·cases h4
   ·cases h4
  ·cases h3
def regChk (P : Program) (E : EnvD) (ops : List Oper) : List Oper → List AItem → Bool
 | [], [] => true
 | o :: os, it :: its => itemChk P E ops o it && regChk P E ops os its
 | _, _ => false
def allB (f : Nat → Bool) : Nat → Bool
 | 0 => true
 | n + 1 => f n && allB f n
theorem allB_spec {f : Nat → Bool} : ∀ {n : Nat}, allB f n = true → ∀ k, k < n → f k = true
 | n + 1, h, k, hk => by
  simp only [allB, Bool.and_eq_true] at h
  by_cases e : k = n
  ·subst e; exact h.1
  ·exact allB_spec h.2 k (by omega)
def anyB (f : Nat → Bool) : Nat → Bool
 | 0 => false
 | n + 1 => f n || anyB f n
theorem anyB_spec {f : Nat → Bool} : ∀ {n : Nat}, anyB f n = true → ∃ k, k < n ∧ f k = true
 | n + 1, h => by
  simp only [anyB, Bool.or_eq_true] at h
  rcases h with h | h
  ·exact ⟨n, by omega, h⟩
  ·obtain ⟨k, h1, h2⟩ := anyB_spec h
   exact ⟨k, by omega, h2⟩
def memB (t : Nat) : List Nat → Bool
 | [] => false
 | x :: l => Nat.beq x t || memB t l
theorem memB_of {t : Nat} : ∀ {l : List Nat}, t ∈ l → memB t l = true
 | x :: l, h => by
  simp only [memB, Bool.or_eq_true]
  cases h with
  | head => exact .inl (Nat.beq_refl t)
  | tail _ h => exact .inr (memB_of h)
theorem memB_iff {t : Nat} : ∀ {l : List Nat}, memB t l = true → t ∈ l
 | [], h => by simp [memB] at h
 | x :: l, h => by
  simp only [memB, Bool.or_eq_true] at h
  rcases h with h | h
  ·rw [Nat.eq_of_beq_eq_true h]; exact List.mem_cons_self
  ·exact List.mem_cons_of_mem _ (memB_iff h)
def meet (d d' : DItem) : Bool :=
 (match d.it.dst with
  | some t => memB t (glooks d'.it) || (match d'.it.dst with | some t' => Nat.beq t t' | none => false)
  | none => false) ||
 (match d'.it.dst with
  | some t => memB t (glooks d.it)
  | none => false)
def onDir (its : List DItem) (q : Nat) : List Edge → Bool
 | [] => false
 | e :: l => (Region.binds .any e && (match its[q]? with | some d => Nat.beq d.idx e.on | none => false)) || onDir its q l
def hangChk (its : List DItem) (q : Nat) (es : List Edge) (k : Nat) : Bool :=
 onDir its q es || anyB (fun m => onDir its m es && (match its[m]? with | some d => d.pre.testBit q | none => false)) k
def isR : Cls → Bool
 | .R => true
 | _ => false
def isW : Cls → Bool
 | .W => true
 | _ => false
def candChk (r : Nat) (d : DItem) (n : Nat) : Nat → List DItem → Bool
 | j, [] => d.pre.testBit j || memB j d.cand || !(Nat.beq j n)
 | j, x :: l => (!(wcls x.cls) || d.pre.testBit j || memB j d.cand) && ((wcls x.cls && x.pre.testBit r) || candChk r d n (j + 1) l)
def dregChk (P : Program) (E : EnvD) (ops : List Oper) (its : List DItem) : Bool :=
 let n := its.length
 Nat.beq n ops.length &&
 allB (fun i => anyB (fun k => match its[k]? with | some d => Nat.beq d.idx i | none => false) n) n &&
 allB (fun k => match its[k]? with
  | some d => (match ops[d.idx]? with
   | some o => itemChk P E ops o d.it && clsOK d.cls d.it.op && Nat.blt d.pre (2 ^ k) &&
    (o.after.toList.all fun e => !Region.binds .any e || anyB (fun q => match its[q]? with | some dq => Nat.beq dq.idx e.on | none => false) k) &&
    allB (fun q => match d.pre.testBit q with
     | true => hangChk its q o.after.toList k
     | false => (match its[q]? with
      | some dq => !meet dq d && !(wcls dq.cls && isW d.cls) && !(Nat.beq dq.idx d.idx)
      | none => true)) k &&
    (!isR d.cls || candChk k d n 0 its)
   | none => false)
  | none => false) n
theorem onDir_spec {its : List DItem} {q : Nat} : ∀ {es : List Edge}, onDir its q es = true → ∃ e d, e ∈ es ∧ Region.binds .any e = true ∧ its[q]? = some d ∧ d.idx = e.on
 | e :: l, h => by
  simp only [onDir, Bool.or_eq_true, Bool.and_eq_true] at h
  rcases h with ⟨h1, h2⟩ | h
  ·split at h2
   ·rename_i d hd; exact ⟨e, d, List.mem_cons_self, h1, hd, Nat.eq_of_beq_eq_true h2⟩
   ·cases h2
  ·obtain ⟨e', d, h1, h2⟩ := onDir_spec h
   exact ⟨e', d, List.mem_cons_of_mem _ h1, h2⟩
theorem testBit_lt {p k q : Nat} (h : p < 2 ^ k) (hq : p.testBit q = true) : q < k := by
 rcases Nat.lt_or_ge q k with h' | h'
 ·exact h'
 ·have := Nat.testBit_lt_two_pow (Nat.lt_of_lt_of_le h (Nat.pow_le_pow_right (by omega) h'))
  rw [this] at hq; cases hq
theorem candChk_spec {its0 : List DItem} {r : Nat} {d : DItem} : ∀ {l : List DItem} {j0 : Nat}, candChk r d its0.length j0 l = true → its0.drop j0 = l → j0 ≤ its0.length →
  ∀ j, j0 ≤ j → j ≤ its0.length → (j = its0.length ∨ ∃ (dj : DItem), its0[j]? = some dj ∧ wcls dj.cls = true) → d.pre.testBit j = false →
  (∀ (x : Nat) (dx : DItem), x < j → its0[x]? = some dx → wcls dx.cls = true → dx.pre.testBit r = false) → j ∈ d.cand
 | [], j0, h, hd, hle, j, hj, hjl, hw, hp, hx => by
  have hl : its0.length ≤ j0 := by
   have := congrArg List.length hd
   simp at this; omega
  have : j = j0 := by omega
  subst this
  simp only [candChk, hp, Bool.false_or, Bool.or_eq_true, Bool.not_eq_true'] at h
  rcases h with h | h
  ·exact memB_iff h
  ·have : j = its0.length := by omega
   rw [← this, Nat.beq_refl] at h; cases h
 | y :: l, j0, h, hd, hle, j, hj, hjl, hw, hp, hx => by
  have hlt : j0 < its0.length := by
   have := congrArg List.length hd
   simp at this; omega
  have hy : its0[j0]? = some y := by
   have : (its0.drop j0)[0]? = some y := by rw [hd]; rfl
   rw [List.getElem?_drop] at this
   simpa using this
  have hd' : its0.drop (j0 + 1) = l := by
   rw [← List.drop_drop, hd]; rfl
  simp only [candChk, Bool.and_eq_true, Bool.or_eq_true, Bool.not_eq_true'] at h
  obtain ⟨h1, h2⟩ := h
  by_cases e : j = j0
  ·subst e
   rcases h1 with (h1 | h1) | h1
   ·rcases hw with hw | ⟨dj, hw1, hw2⟩
    ·omega
    ·rw [hy] at hw1; cases hw1
     rw [h1] at hw2; cases hw2
   ·rw [hp] at h1; cases h1
   ·exact memB_iff h1
  ·rcases h2 with ⟨h2, h3⟩ | h2
   ·have := hx j0 y (by omega) hy h2
    rw [h3] at this; cases this
   ·exact candChk_spec h2 hd' hlt j (by omega) hjl hw hp hx
theorem dregChk_sound {P : Program} {E : EnvD} {ops : Array Oper} {its : List DItem} (h : dregChk P E ops.toList its = true) : DOK P E ops its := by
 simp only [dregChk, Bool.and_eq_true] at h
 obtain ⟨⟨h1, h2⟩, h3⟩ := h
 have hlen : its.length = ops.size := by have := Nat.eq_of_beq_eq_true h1; simpa using this
 have hall := allB_spec h3
 have hsur := allB_spec h2
 have key : ∀ (k : Nat) (d : DItem), its[k]? = some d → ∃ o, ops[d.idx]? = some o ∧ itemChk P E ops.toList o d.it = true ∧ clsOK d.cls d.it.op = true ∧ d.pre < 2 ^ k ∧
   (∀ e ∈ o.after, Region.binds .any e = true → anyB (fun q => match its[q]? with | some dq => Nat.beq dq.idx e.on | none => false) k = true) ∧
   (∀ q, q < k → (match d.pre.testBit q with
     | true => hangChk its q o.after.toList k
     | false => (match its[q]? with
      | some dq => !meet dq d && !(wcls dq.cls && isW d.cls) && !(Nat.beq dq.idx d.idx)
      | none => true)) = true) ∧
   (d.cls = .R → candChk k d its.length 0 its = true) := by
  intro k d hk
  have hkl := (List.getElem?_eq_some_iff.1 hk).1
  have := hall k hkl
  rw [hk] at this
  simp only at this
  split at this
  ·rename_i o ho
   simp only [Bool.and_eq_true, Bool.or_eq_true, Bool.not_eq_true', List.all_eq_true] at this
   obtain ⟨⟨⟨⟨⟨g1, g2⟩, g3⟩, g4⟩, g5⟩, g6⟩ := this
   refine ⟨o, by rw [← Array.getElem?_toList]; exact ho, g1, g2, ?_, ?_, allB_spec g5, ?_⟩
   ·exact Nat.le_of_ble_eq_true g3
   ·intro e he hb
    rcases g4 e (by simpa using he) with h' | h'
    ·rw [hb] at h'; cases h'
    ·exact h'
   ·intro hc
    rcases g6 with h' | h'
    ·rw [hc] at h'; cases h'
    ·exact h'
  ·cases this
 have hedge : ∀ (k : Nat) (d : DItem) (o : Oper) (e : Edge), its[k]? = some d → ops[d.idx]? = some o → e ∈ o.after → Region.binds .any e = true → ∃ (q : Nat) (dq : DItem), q < k ∧ its[q]? = some dq ∧ dq.idx = e.on := by
  intro k d o e hk ho he hb
  obtain ⟨o', ho', _, _, _, g, _⟩ := key k d hk
  rw [ho] at ho'; cases ho'
  obtain ⟨q, hq, h'⟩ := anyB_spec (g e he hb)
  split at h'
  ·rename_i dq hdq; exact ⟨q, dq, hq, hdq, Nat.eq_of_beq_eq_true h'⟩
  ·cases h'
 have hpre : ∀ (k : Nat) (d : DItem) (q : Nat), its[k]? = some d → d.pre.testBit q = true → Hangs ops its k q := by
  intro k
  induction k using Nat.strongRecOn with
  | ind k ih =>
   intro d q hk hp
   obtain ⟨o, ho, _, _, hlt, _, g, _⟩ := key k d hk
   have hq := testBit_lt hlt hp
   have h' := g q hq
   rw [hp] at h'
   simp only [hangChk, Bool.or_eq_true] at h'
   rcases h' with h' | h'
   ·obtain ⟨e, dq, he, hb, hdq, hi⟩ := onDir_spec h'
    exact .direct hk ho (by simpa using he) hb hdq hi
   ·obtain ⟨m, hm, h'⟩ := anyB_spec h'
    simp only [Bool.and_eq_true] at h'
    obtain ⟨h'1, h'2⟩ := h'
    obtain ⟨e, dm, he, hb, hdm, hi⟩ := onDir_spec h'1
    rw [hdm] at h'2
    exact .step (.direct hk ho (by simpa using he) hb hdm hi) (ih m hm dm q hdm h'2)
 have hfree : ∀ (k k' : Nat) (d d' : DItem), k < k' → its[k]? = some d → its[k']? = some d' → d'.pre.testBit k = false → meet d d' = false ∧ (wcls d.cls && isW d'.cls) = false ∧ d.idx ≠ d'.idx := by
  intro k k' d d' hlt hk hk' hp
  obtain ⟨o, ho, _, _, _, _, g, _⟩ := key k' d' hk'
  have h' := g k hlt
  rw [hp] at h'
  simp only [hk] at h'
  simp only [Bool.and_eq_true, Bool.not_eq_true'] at h'
  refine ⟨h'.1.1, h'.1.2, fun e => ?_⟩
  rw [e, Nat.beq_refl] at h'
  cases h'.2
 have hinj0 : ∀ (k k' : Nat) (d d' : DItem), k < k' → its[k]? = some d → its[k']? = some d' → d.idx ≠ d'.idx := by
  intro k k' d d' hlt hk hk' e
  cases hp : d'.pre.testBit k with
  | false => exact (hfree k k' d d' hlt hk hk' hp).2.2 e
  | true =>
   -- the numbers are all there, so that none is there twice
   have hall : ∀ i, i < its.length → i ∈ its.map (·.idx) := by
    intro i hi
    obtain ⟨m, hm, h'⟩ := anyB_spec (hsur i hi)
    split at h'
    ·rename_i dm hdm
     exact List.mem_map.2 ⟨dm, List.mem_of_getElem? hdm, Nat.eq_of_beq_eq_true h'⟩
    ·cases h'
   have hsub : List.range its.length ⊆ (its.map (·.idx)).eraseIdx k := by
    intro i hi
    have hi' := hall i (List.mem_range.1 hi)
    rw [List.mem_eraseIdx_iff_getElem?]
    obtain ⟨m, hm⟩ := List.mem_iff_getElem?.1 hi'
    by_cases e2 : m = k
    ·subst e2
     refine ⟨k', by omega, ?_⟩
     rw [List.getElem?_map, hk] at hm
     rw [List.getElem?_map, hk']
     simp only [Option.map_some, Option.some.injEq] at hm ⊢
     omega
    ·exact ⟨m, e2, hm⟩
   have h1 := List.nodup_range.length_le_of_subset hsub
   have hkl := (List.getElem?_eq_some_iff.1 hk).1
   rw [List.length_eraseIdx] at h1
   simp only [List.length_range, List.length_map] at h1
   rw [if_pos hkl] at h1
   omega
 refine ⟨hlen, ?_, ?_, ?_, hedge, hpre, fun k d hk => (key k d hk).choose_spec.2.2.1, ?_, ?_, ?_⟩
 ·intro k d hk
  obtain ⟨o, ho, h', _⟩ := key k d hk
  exact ⟨o, ho, itemChk_sound h'⟩
 ·intro k k' d d' hk hk' e
  rcases Nat.lt_trichotomy k k' with h' | h' | h'
  ·exact absurd e (hinj0 k k' d d' h' hk hk')
  ·exact h'
  ·exact absurd e.symm (hinj0 k' k d' d h' hk' hk)
 ·intro i hi
  obtain ⟨m, hm, h'⟩ := anyB_spec (hsur i (by omega))
  split at h'
  ·rename_i dm hdm; exact ⟨m, dm, hdm, Nat.eq_of_beq_eq_true h'⟩
  ·cases h'
 ·intro k k' d d' t hlt hk hk' hcol
  cases hp : d'.pre.testBit k with
  | true => rfl
  | false =>
   exfalso
   have hm := (hfree k k' d d' hlt hk hk' hp).1
   simp only [meet, Bool.or_eq_false_iff] at hm
   obtain ⟨m1, m2⟩ := hm
   rcases hcol with ⟨c1, c2⟩ | ⟨c1, c2⟩
   ·rw [c1] at m1
    simp only [Bool.or_eq_false_iff] at m1
    rcases c2 with c2 | c2
    ·rw [memB_of c2] at m1; cases m1.1
    ·rw [c2] at m1; simp at m1
   ·rw [c1] at m2
    simp only at m2
    rw [memB_of c2] at m2; cases m2
 ·intro k k' d d' hlt hk hk' hw hW
  cases hp : d'.pre.testBit k with
  | true => rfl
  | false =>
   have hm := (hfree k k' d d' hlt hk hk' hp).2.1
   rw [hw, hW] at hm; cases hm
 ·intro r d j hk hc hj hw hp hx
  obtain ⟨o, ho, _, _, _, _, _, g⟩ := key r d hk
  exact candChk_spec (g hc) (by simp) (Nat.zero_le _) j (Nat.zero_le _) hj hw hp hx
end Go.Sim
end
