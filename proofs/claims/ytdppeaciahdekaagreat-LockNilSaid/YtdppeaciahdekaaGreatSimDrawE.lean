/- Regions that draw their order: one operation more. -/
import Derived.Test.YtdppeaciahdekaaGreatSimDrawD
set_option linter.unusedSimpArgs false
namespace Go.Sim
open Classical

section
variable {ops : Array Oper} {n : Nat} {its : List DItem} {Ts : Nat → Tmps} {Hr : Nat → AHeap} {vl : Nat → AVal} {most : Nat} {live : Nat → Bool}
  {K : Nat → Prop} {ρ0 : Ren} {w0 : World} {a0 : Act} {listed : Array Bool} {a : Act} {w : World} {j : Nat} {ρ σ : Ren} {call : CallF} {E : EnvD} {P : Program}

theorem put_tmps (a : Act) (dst : Option Tmp) (v : Value) : (a.put dst v).tmps = match dst with | some d => a.tmps.setIfInBounds d v | none => a.tmps := by
  cases dst <;> rfl

theorem put_defers' (a : Act) (dst : Option Tmp) (v : Value) : (a.put dst v).defers = a.defers := by cases dst <;> rfl

theorem sB_set (hd : DOK P E ops its) (hl : listed.size = ops.size) {k : Nat} {d : DItem} (hk : its[k]? = some d) : ∀ i, sB its (listed.setIfInBounds d.idx true) i = if i = k then true else sB its listed i := by
  intro i
  unfold sB
  have hlt : d.idx < listed.size := by
    obtain ⟨o, ho, _⟩ := hd.item k d hk
    rw [hl]; exact (Array.getElem?_eq_some_iff.1 ho).1
  by_cases e : i = k
  · subst e
    rw [hk, if_pos rfl]
    simp [hlt]
  · rw [if_neg e]
    cases hi : its[i]? with
    | none => rfl
    | some di =>
      have : d.idx ≠ di.idx := fun e' => e (hd.inj i k di d hi hk e'.symm)
      exact getD_set_ne false this

theorem closed_set {listed : Array Bool} (hc : Closed ops listed) {i : Nat} (hr : i ∈ Region.ready .any ops listed) : Closed ops (listed.setIfInBounds i true) := by
  intro q o e hq ho he hb
  obtain ⟨_, o', ho', hall⟩ := mem_ready.1 hr
  by_cases e1 : i = q
  · subst e1
    rw [ho] at ho'; cases ho'
    exact getD_set_true (hall e he hb)
  · rw [getD_set_ne false e1] at hq
    exact getD_set_true (hc q o e hq ho he hb)

/-- A table of all slots as they stand. -/
theorem DI.table (h : DI ops n its Ts Hr vl most live K ρ0 w0 a0 listed a w j ρ σ) (M : Nat) :
    ∃ T : Tmps, TR (join ρ σ) T a.tmps ∧ ∀ t, t < M → tget T t = lastw its vl (Ts 0) (sB its listed) t its.length := by
  obtain ⟨T, hT⟩ := exists_tmps (fun t => lastw its vl (Ts 0) (sB its listed) t its.length) (max n M)
  refine ⟨T, fun t => ?_, fun t ht => by rw [hT, if_pos (by omega)]⟩
  rw [hT]
  split
  · exact h.tm t
  · have : a.tmps.getD t Go.undef = Go.undef := by
      have := h.sz
      simp [Array.getD_eq_getD_getElem?, Array.getElem?_eq_none (show a.tmps.size ≤ t by omega)]
    rw [this]; exact VR.undef _

/-- What an operation that is ready looks at stands as in the evaluator's order. -/
theorem DI.agree (hd : DOK P E ops its) (hr : RunOK call E n its Ts Hr vl most live) (h : DI ops n its Ts Hr vl most live K ρ0 w0 a0 listed a w j ρ σ) {k : Nat} {d : DItem} (hk : its[k]? = some d) (hlive : live k = true)
    (hready : d.idx ∈ Region.ready .any ops listed) (hun : sB its listed k = false) : ∀ t ∈ glooks d.it, lastw its vl (Ts 0) (sB its listed) t its.length = tget (Ts k) t := by
  intro t ht
  have hkl : k < its.length := (List.getElem?_eq_some_iff.1 hk).1
  rw [hr.lw k d hk hlive t]
  rw [lastw_more (n := k) (Nat.le_of_lt hkl)]
  · refine lastw_congr fun k' d' hk' hd' hdst => ?_
    have hp := hd.s1 k' k d' d t hk' hd' hk (.inl ⟨hdst, .inl ht⟩)
    have := hangs_ready h.closed (hd.pre k d k' hk hp) d hk hready
    rw [this, h.lv k' this]
  · intro k' d' hk' hd' hdst
    by_cases e : k' = k
    · subst e; exact hun
    · cases hs : sB its listed k' with
      | false => rfl
      | true =>
        have hp := hd.s1 k k' d d' t (by omega) hk hd' (.inr ⟨hdst, ht⟩)
        have := hangs_listed h.closed (hd.pre k' d' k hd' hp) hs
        rw [hun] at this; cases this

theorem wanted_sound {ρ : Ren} {T : Tmps} {o : Oper} {it : AItem} {b : Bool} (ht : TR ρ T a.tmps) (hg : GuardOK ops o it) (hw : wantedA T it.guard = some b) : Region.wanted o (yielded ops a.tmps) = b := by
  unfold GuardOK at hg
  unfold Region.wanted
  unfold wantedA at hw
  split at hg
  · rename_i h1 h2
    rw [h1]
    rw [h2] at hw
    simpa using hw
  · rename_i i b0 t b' h1 h2
    obtain ⟨rfl, hg⟩ := hg
    rw [h1]
    rw [h2] at hw
    simp only [yielded, hg, Option.bind_some] at hw ⊢
    have hv := ht t
    rw [Array.getD_eq_getD_getElem?] at hv
    cases hx : a.tmps[t]? with
    | none =>
      rw [hx] at hv
      simp only [Option.getD_none] at hv
      generalize tget T t = x at hv hw
      cases x <;> first
        | (simp only [Option.some.injEq] at hw; subst hw; rfl)
        | (cases hw; done)
        | (exfalso; cases hv; done)
    | some u =>
      rw [hx] at hv
      simp only [Option.getD_some] at hv
      generalize tget T t = x at hv hw
      cases x with
      | bool c => cases hv; simp only [Option.some.injEq] at hw; subst hw; simp
      | junk => cases hw
      | _ => simp only [Option.some.injEq] at hw; subst hw; cases hv <;> rfl
  · exact hg.elim

/-- The slots behind one operation more. -/
theorem DI.put (hd : DOK P E ops its) (h : DI ops n its Ts Hr vl most live K ρ0 w0 a0 listed a w j ρ σ) {k : Nat} {d : DItem} (hk : its[k]? = some d)
    (hun : sB its listed k = false) {J : Ren} (hle : (join ρ σ).le J) {v : Value} (hv : VR J (vl k) v) (hdst : ∀ x, d.it.dst = some x → x < n) :
    (∀ t, VR J (lastw its vl (Ts 0) (sB its (listed.setIfInBounds d.idx true)) t its.length) ((a.put d.it.dst v).tmps.getD t Go.undef)) ∧ (a.put d.it.dst v).tmps.size = n ∧ (a.put d.it.dst v).defers = a0.defers ∧
    (∀ t, (∀ (k : Nat) (d : DItem), its[k]? = some d → d.it.dst ≠ some t) → (a.put d.it.dst v).tmps.getD t Go.undef = a0.tmps.getD t Go.undef) := by
  have hkl : k < its.length := (List.getElem?_eq_some_iff.1 hk).1
  have hset := sB_set hd h.lsz hk
  refine ⟨fun t => ?_, ?_, by rw [put_defers']; exact h.df, fun t ht => ?_⟩
  · rw [lastw_add (s := sB its listed) (k := k) hk (by rw [hset, if_pos rfl]) (fun i hi => by rw [hset, if_neg hi]) t ?_ hkl hun]
    · rw [put_tmps]
      by_cases e : d.it.dst = some t
      · rw [if_pos e, e]
        have := hdst t e
        have hsz := h.sz
        have htl : t < a.tmps.size := by omega
        simp only [Array.getD_eq_getD_getElem?]
        rw [Array.getElem?_setIfInBounds_self_of_lt htl]
        exact hv
      · rw [if_neg e]
        have hold := (h.tm t).mono hle
        cases hx : d.it.dst with
        | none => exact hold
        | some x =>
          have hne : x ≠ t := fun e' => e (by rw [hx, e'])
          simp only [Array.getD_eq_getD_getElem?] at hold ⊢
          rw [Array.getElem?_setIfInBounds_ne hne]
          exact hold
    · intro k' d' hkk hd' hdst' hs e
      have hp := hd.s1 k k' d d' t hkk hk hd' (.inl ⟨e, .inr hdst'⟩)
      have := hangs_listed h.closed (hd.pre k' d' k hd' hp) hs
      rw [hun] at this; cases this
  · rw [put_tmps]
    have := h.sz
    cases d.it.dst <;> simpa using this
  · rw [put_tmps]
    have hold := h.un t ht
    cases hx : d.it.dst with
    | none => exact hold
    | some x =>
      have hne : x ≠ t := fun e => ht k d hk (by rw [hx, e])
      simp only [Array.getD_eq_getD_getElem?] at hold ⊢
      rw [Array.getElem?_setIfInBounds_ne hne]
      exact hold

theorem DI.lv' (hd : DOK P E ops its) (h : DI ops n its Ts Hr vl most live K ρ0 w0 a0 listed a w j ρ σ) {k : Nat} {d : DItem} (hk : its[k]? = some d) (hlive : live k = true) :
    ∀ i, sB its (listed.setIfInBounds d.idx true) i = true → live i = true := by
  intro i hi
  rw [sB_set hd h.lsz hk] at hi
  split at hi
  · rename_i e; subst e; exact hlive
  · exact h.lv i hi

/-- An operation that leaves memory alone. -/
theorem DI.quiet (hd : DOK P E ops its) (hr : RunOK call E n its Ts Hr vl most live) (h : DI ops n its Ts Hr vl most live K ρ0 w0 a0 listed a w j ρ σ) {k : Nat} {d : DItem} (hk : its[k]? = some d) (hlive : live k = true)
    (hready : d.idx ∈ Region.ready .any ops listed) (hun : sB its listed k = false) (hc : wcls d.cls = false) {v : Value} (hv : VR (join ρ σ) (vl k) v) :
    DI ops n its Ts Hr vl most live K ρ0 w0 a0 (listed.setIfInBounds d.idx true) (a.put d.it.dst v) w j ρ σ := by
  obtain ⟨p1, p2, p3, p4⟩ := h.put hd hk hun (Ren.le_refl _) hv fun x hx => hr.dst k d x hk hlive hx
  have hset := sB_set hd h.lsz hk
  refine ⟨p2, p3, by simpa using h.lsz, closed_set h.closed hready, h.lv' hd hk hlive, h.jm, ?_, ?_, h.wr, h.le, ?_, h.sginj, ?_, p1, p4, h.keep, h.grow⟩
  · intro i di hi hdi hw
    rw [hset]; split
    · rfl
    · exact h.below i di hi hdi hw
  · intro i di hi hdi hw
    rw [hset]; split
    · rename_i e; subst e; rw [hk] at hdi; cases hdi; rw [hw] at hc; cases hc
    · exact h.above i di hi hdi hw
  · intro i l hi
    obtain ⟨k', dk, c, cs, e, h1, h2, h3, h4, h5⟩ := h.sg i l hi
    refine ⟨k', dk, c, cs, e, h1, h2, h3, ?_, h5⟩
    rw [hset]; split
    · rfl
    · exact h4
  · intro k' dk h1 h2 h3 h4
    rw [hset] at h4
    split at h4
    · rename_i e; subst e; rw [hk] at h2; cases h2; rw [h3] at hc; cases hc
    · exact h.sgall k' dk h1 h2 h3 h4
end
end Go.Sim
