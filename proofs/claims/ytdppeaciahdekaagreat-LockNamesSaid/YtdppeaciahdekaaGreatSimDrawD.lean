/- Regions that draw their order: what holds at each stage. -/
import Derived.Test.YtdppeaciahdekaaGreatSimDrawC
set_option linter.unusedSimpArgs false
namespace Go.Sim
open Classical

/-- What a call leaves, by what it comes to in the evaluator. -/
def CallPost (K : Nat → Prop) (ρ : Ren) (w : World) (r : CRes) (e : Ending) (w' : World) : Prop :=
  match r with
  | .ret x H' => ∃ ρ' v, e = .returned v ∧ VR ρ' x v ∧ Post K ρ w ρ' H' w'
  | .pan x H' => ∃ ρ' v, e = .panicked [{ v, recovered := false }] ∧ VR ρ' x v ∧ Post K ρ w ρ' H' w'

def CallOK (P : Program) (E : EnvD) (call : CallF) : Prop :=
  ∀ f l H r, call f l H = some r → E.isF f = true → ∀ (K : Nat → Prop) (ρ : Ren) (w : World) (l' : Array Value), LR ρ l l' → WR K ρ H w → Calls P f l' w (CallPost K ρ w r)

/-- The blocks of new memory that was made ahead of its turn. -/
def held (K : Nat → Prop) (σ : Ren) (b : Nat) : Prop := K b ∨ ∃ i l, σ i = some l ∧ l.blk = b

structure DI (ops : Array Oper) (n : Nat) (its : List DItem) (Ts : Nat → Tmps) (Hr : Nat → AHeap) (vl : Nat → AVal) (most : Nat) (live : Nat → Bool)
    (K : Nat → Prop) (ρ0 : Ren) (w0 : World) (a0 : Act) (listed : Array Bool) (a : Act) (w : World) (j : Nat) (ρ σ : Ren) : Prop where
  sz : a.tmps.size = n
  df : a.defers = a0.defers
  lsz : listed.size = ops.size
  closed : Closed ops listed
  lv : ∀ k, sB its listed k = true → live k = true
  jm : j ≤ most
  below : ∀ (k : Nat) (d : DItem), k < j → its[k]? = some d → wcls d.cls = true → sB its listed k = true
  above : ∀ (k : Nat) (d : DItem), j ≤ k → its[k]? = some d → d.cls = .W → sB its listed k = false
  wr : WR (held K σ) ρ (Hr j) w
  le : ρ0.le ρ
  sg : ∀ i l, σ i = some l → ∃ (k : Nat) (d : DItem) (c : Rope AVal) (cs : Array Value) (e : TypeId), j ≤ k ∧ its[k]? = some d ∧ d.cls = .A ∧ sB its listed k = true ∧ i = (Hr k).next ∧ Hr (k + 1) = (Hr k).new (.cells c 0 true) ∧
    w.heap[l.blk]? = some (.cells cs e (0, 0)) ∧ cs.size = c.size ∧ RR (join ρ σ) c cs 0 ∧ scR (scV (Hr k).next depth) c = true ∧ l.off = 0 ∧ l.sp = 0 ∧ ¬ K l.blk
  sginj : ∀ i i' l l', σ i = some l → σ i' = some l' → l.blk = l'.blk → i = i'
  sgall : ∀ (k : Nat) (d : DItem), j ≤ k → its[k]? = some d → d.cls = .A → sB its listed k = true → Hr (k + 1) = Hr k ∨ ∃ l, σ (Hr k).next = some l
  tm : ∀ t, VR (join ρ σ) (lastw its vl (Ts 0) (sB its listed) t its.length) (a.tmps.getD t Go.undef)
  un : ∀ t, (∀ (k : Nat) (d : DItem), its[k]? = some d → d.it.dst ≠ some t) → a.tmps.getD t Go.undef = a0.tmps.getD t Go.undef
  keep : ∀ b, K b → w.heap[b]? = w0.heap[b]?
  grow : Grew w0 w

section
variable {ops : Array Oper} {n : Nat} {its : List DItem} {Ts : Nat → Tmps} {Hr : Nat → AHeap} {vl : Nat → AVal} {most : Nat} {live : Nat → Bool}
  {K : Nat → Prop} {ρ0 : Ren} {w0 : World} {a0 : Act} {listed : Array Bool} {a : Act} {w : World} {j : Nat} {ρ σ : Ren} {call : CallF} {E : EnvD} {P : Program}

/-- A new block's number is none that ρ knows. -/
theorem DI.fresh (h : DI ops n its Ts Hr vl most live K ρ0 w0 a0 listed a w j ρ σ) {i : Nat} (hi : (Hr j).next ≤ i) : ρ i = none := by
  cases e : ρ i with
  | none => rfl
  | some l => have := h.wr.dom i l e; omega

theorem DI.sgge (hm : ∀ k, (Hr k).next ≤ (Hr (k + 1)).next) (h : DI ops n its Ts Hr vl most live K ρ0 w0 a0 listed a w j ρ σ) {i : Nat} {l : Loc} (hs : σ i = some l) : (Hr j).next ≤ i := by
  obtain ⟨k, d, c, cs, e, h1, _, _, _, rfl, _⟩ := h.sg i l hs
  exact mono_le hm h1

/-- What is made ahead of its turn takes its turn. -/
theorem DI.absorb (hr : RunOK call E n its Ts Hr vl most live) (h : DI ops n its Ts Hr vl most live K ρ0 w0 a0 listed a w j ρ σ) {d : DItem} (hd : its[j]? = some d) (hA : d.cls = .A) (hs : sB its listed j = true) (hj : j < most) :
    ∃ ρ' σ', DI ops n its Ts Hr vl most live K ρ0 w0 a0 listed a w (j + 1) ρ' σ' := by
  have hm := hr.mono
  have hbelow : ∀ (k : Nat) (d : DItem), k < j + 1 → its[k]? = some d → wcls d.cls = true → sB its listed k = true := by
    intro k dk hk hdk hw
    by_cases e : k = j
    · subst e; exact hs
    · exact h.below k dk (by omega) hdk hw
  have habove : ∀ (k : Nat) (d : DItem), j + 1 ≤ k → its[k]? = some d → d.cls = .W → sB its listed k = false := fun k dk hk => h.above k dk (by omega)
  by_cases hsame : Hr (j + 1) = Hr j
  · refine ⟨ρ, σ, h.sz, h.df, h.lsz, h.closed, h.lv, hj, hbelow, habove, by rw [hsame]; exact h.wr, h.le, ?_, h.sginj, ?_, h.tm, h.un, h.keep, h.grow⟩
    · intro i l hi
      obtain ⟨k, dk, c, cs, e, h1, h2, h3, h4, h5, h6, h7⟩ := h.sg i l hi
      refine ⟨k, dk, c, cs, e, ?_, h2, h3, h4, h5, h6, h7⟩
      by_cases e : k = j
      · subst e
        rw [hsame] at h6
        have := congrArg AHeap.next h6
        simp only [AHeap.new] at this
        omega
      · omega
    · exact fun k dk hk => h.sgall k dk (by omega)
  · obtain ⟨l, hl⟩ := (h.sgall j d (Nat.le_refl _) hd hA hs).resolve_left hsame
    obtain ⟨k, dk, c, cs, e, h1, h2, h3, h4, h5, h6, h7, h8, h9, h10, h11, h12, h13⟩ := h.sg _ l hl
    obtain ⟨c', hc'⟩ := (hr.anew j d hd (h.lv j hs) hA).resolve_left hsame
    have hnew : (Hr (j + 1)).next = (Hr j).next + 1 := by rw [hc']; rfl
    have hkj : k = j := by
      rcases Nat.lt_or_ge j k with h' | h'
      · have := mono_le hm (show j + 1 ≤ k from h')
        omega
      · omega
    subst hkj
    rw [hd] at h2; cases h2
    have hcc : c' = c := by
      have := hc'.symm.trans h6
      have := congrArg (fun H : AHeap => H.get (Hr k).next) this
      simp only [AHeap.get_new, if_true, Option.some.injEq, ABlk.cells.injEq] at this
      exact this.1
    have hloc : l = ⟨l.blk, 0, 0⟩ := by cases l; simp at h11 h12; simp [h11, h12]
    let ρ' : Ren := fun i => if i = (Hr k).next then some l else ρ i
    let σ' : Ren := fun i => if i = (Hr k).next then none else σ i
    have hfresh : ρ (Hr k).next = none := h.fresh (Nat.le_refl _)
    have hle : ρ.le ρ' := by
      intro i li e
      have := h.wr.dom i li e
      show (if i = (Hr k).next then some l else ρ i) = some li
      rw [if_neg (by omega)]; exact e
    have hjoin : join ρ' σ' = join ρ σ := by
      funext i
      unfold join
      show (match (if i = (Hr k).next then some l else ρ i) with | some l => some l | none => (if i = (Hr k).next then none else σ i)) = _
      by_cases e : i = (Hr k).next
      · subst e; rw [if_pos rfl, hfresh]; exact hl.symm
      · simp only [if_neg e]; cases ρ i <;> rfl
    have hσ : ∀ i li, σ' i = some li → σ i = some li ∧ i ≠ (Hr k).next := by
      intro i li e
      have e' : (if i = (Hr k).next then none else σ i) = some li := e
      split at e'
      · cases e'
      · rename_i hne; exact ⟨e', hne⟩
    have hheld : ∀ b, held K σ' b → held K σ b := by
      intro b hb
      rcases hb with hb | ⟨i, li, h1, h2⟩
      · exact .inl hb
      · exact .inr ⟨i, li, (hσ i li h1).1, h2⟩
    have hnh : ¬ held K σ' l.blk := by
      rintro (hb | ⟨i, li, h1, h2⟩)
      · exact h13 hb
      · exact (hσ i li h1).2 (h.sginj i _ li l (hσ i li h1).1 hl h2)
    have hin : held K σ l.blk := .inr ⟨_, l, hl, rfl⟩
    -- the new block's cells speak of old blocks alone
    have hrr : RR ρ' c cs 0 := by
      intro i hi
      obtain ⟨x, v, x1, x2, x3, x4⟩ := h9 i hi
      refine ⟨x, v, x1, x2, x3, ?_⟩
      refine scR_sound (f := scV (Hr k).next depth) (fun v' x' hv hx => scV_sound (ρ := join ρ σ) (m := (Hr k).next) ?_ depth v' x' hv hx) h10 i x v x1 x4
      intro q lq hq e
      have : join ρ' σ' q = some lq := by rw [hjoin]; exact e
      unfold join at this
      split at this
      · rename_i lq' e'; cases this; exact e'
      · have := (hσ q lq this).1
        have := h.sgge hm this
        omega
    have hwr : WR (held K σ') ρ' (Hr (k + 1)) w := by
      have hw0 := h.wr
      refine ⟨?_, ?_, ?_, fun b hb => hw0.kb b (hheld b hb)⟩
      · intro i b hb
        rw [h6, AHeap.get_new] at hb
        split at hb
        · rename_i e; subst e; cases hb
          refine ⟨l, _, if_pos rfl, h7, ?_, hnh⟩
          refine .cells ?_ (fun _ => h12) (by rw [h11]; exact hrr)
          rw [h11, h12]; omega
        · obtain ⟨li, o, y1, y2, y3, y4⟩ := hw0.live i b hb
          exact ⟨li, o, hle _ _ y1, y2, y3.mono hle, fun hb' => y4 (hheld _ hb')⟩
      · have key : ∀ i b li, (Hr k).get i = some b → ρ' i = some li → ρ i = some li ∧ li.blk ≠ l.blk := by
          intro i b li hb e
          obtain ⟨li', o, y1, y2, y3, y4⟩ := hw0.live i b hb
          have := hle _ _ y1
          rw [e] at this; cases this
          exact ⟨y1, fun e' => y4 (e' ▸ hin)⟩
        intro i i' bi bj li lj hi hj hli hlj e
        rw [h6, AHeap.get_new] at hi hj
        have hlk : ρ' (Hr k).next = some l := if_pos rfl
        split at hi <;> split at hj
        · omega
        · rename_i e1 _; subst e1
          rw [hlk] at hli; cases hli
          exact absurd e.symm (key _ _ _ hj hlj).2
        · rename_i _ e1; subst e1
          rw [hlk] at hlj; cases hlj
          exact absurd e (key _ _ _ hi hli).2
        · exact hw0.inj i i' bi bj li lj hi hj (key _ _ _ hi hli).1 (key _ _ _ hj hlj).1 e
      · intro i li e
        show i < (Hr (k + 1)).next
        by_cases hi : i = (Hr k).next
        · omega
        · have e' : (if i = (Hr k).next then some l else ρ i) = some li := e
          rw [if_neg hi] at e'
          have := hw0.dom i li e'; omega
    refine ⟨ρ', σ', h.sz, h.df, h.lsz, h.closed, h.lv, hj, hbelow, habove, hwr, fun i li e => hle _ _ (h.le _ _ e), ?_, ?_, ?_, by rw [hjoin]; exact h.tm, h.un, h.keep, h.grow⟩
    · intro i li e
      obtain ⟨e1, e2⟩ := hσ i li e
      obtain ⟨k', dk, c2, cs2, t2, z1, z2, z3, z4, z5, z6, z7, z8, z9, z10⟩ := h.sg i li e1
      refine ⟨k', dk, c2, cs2, t2, ?_, z2, z3, z4, z5, z6, z7, z8, by rw [hjoin]; exact z9, z10⟩
      by_cases e : k' = k
      · subst e; exact absurd z5 e2
      · omega
    · intro i i' li li' e1 e2 e3
      exact h.sginj i i' li li' (hσ _ _ e1).1 (hσ _ _ e2).1 e3
    · intro k' dk hk hdk hA' hs'
      rcases h.sgall k' dk (by omega) hdk hA' hs' with h' | ⟨lk, h'⟩
      · exact .inl h'
      · refine .inr ⟨lk, ?_⟩
        show (if (Hr k').next = (Hr k).next then none else σ (Hr k').next) = some lk
        have := mono_le hm hk
        rw [if_neg (by omega)]; exact h'

/-- As far as it goes. -/
theorem DI.settle (hr : RunOK call E n its Ts Hr vl most live) : ∀ (m j : Nat) (ρ σ : Ren), most - j = m → DI ops n its Ts Hr vl most live K ρ0 w0 a0 listed a w j ρ σ →
    ∃ j' ρ' σ', DI ops n its Ts Hr vl most live K ρ0 w0 a0 listed a w j' ρ' σ' ∧ (j' = most ∨ (j' < most ∧ ∃ d, its[j']? = some d ∧ wcls d.cls = true ∧ sB its listed j' = false))
  | 0, j, ρ, σ, hm, h => ⟨j, ρ, σ, h, .inl (by have := h.jm; omega)⟩
  | m + 1, j, ρ, σ, hm, h => by
    have hj : j < most := by omega
    have hlt : j < its.length := Nat.lt_of_lt_of_le hj hr.most_le
    have hd : its[j]? = some its[j] := List.getElem?_eq_getElem hlt
    generalize its[j] = d at hd
    cases hc : wcls d.cls with
    | false =>
      have hsame := hr.stay j d hd hc
      refine DI.settle hr m (j + 1) ρ σ (by omega) ⟨h.sz, h.df, h.lsz, h.closed, h.lv, hj, ?_, fun k dk hk => h.above k dk (by omega), by rw [hsame]; exact h.wr, h.le, ?_, h.sginj, fun k dk hk => h.sgall k dk (by omega), h.tm, h.un, h.keep, h.grow⟩
      · intro k dk hk hdk hw
        by_cases e : k = j
        · subst e; rw [hd] at hdk; cases hdk; rw [hc] at hw; cases hw
        · exact h.below k dk (by omega) hdk hw
      · intro i l hi
        obtain ⟨k, dk, c, cs, e, h1, h2, h3, h4⟩ := h.sg i l hi
        refine ⟨k, dk, c, cs, e, ?_, h2, h3, h4⟩
        by_cases e : k = j
        · subst e; rw [hd] at h2; cases h2; rw [h3] at hc; cases hc
        · omega
    | true =>
      cases hs : sB its listed j with
      | false => exact ⟨j, ρ, σ, h, .inr ⟨hj, d, hd, hc, hs⟩⟩
      | true =>
        have hA : d.cls = .A := by
          cases e : d.cls with
          | A => rfl
          | W => have := h.above j d (Nat.le_refl _) hd e; rw [hs] at this; cases this
          | P => rw [e] at hc; cases hc
          | R => rw [e] at hc; cases hc
        obtain ⟨ρ', σ', h'⟩ := h.absorb hr hd hA hs hj
        exact DI.settle hr m (j + 1) ρ' σ' (by omega) h'
end
end Go.Sim
