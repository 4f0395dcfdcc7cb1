/- Regions that draw their order: sound. -/
import Derived.Test.YtdppeaciahdekaaGreatSimDrawI
set_option linter.unusedSimpArgs false
namespace Go.Sim
open Classical

inductive DR (E : EnvD) (ρ : Ren) : List (FuncId × List AVal) → List Deferred → Prop where
  | nil : DR E ρ [] []
  | cons {f : FuncId} {l : List AVal} {cap da : Array Value} {D : List (FuncId × List AVal)} {ds : List Deferred} (hf : E.isF f = true) (hl : LR ρ l (da ++ cap)) (h : DR E ρ D ds) :
      DR E ρ ((f, l) :: D) (⟨.fn (.func f) cap, da⟩ :: ds)

theorem DR.mono {E : EnvD} {ρ ρ' : Ren} (hl : ρ.le ρ') {D : List (FuncId × List AVal)} {ds : List Deferred} (h : DR E ρ D ds) : DR E ρ' D ds := by
  induction h with
  | nil => exact .nil
  | cons hf h1 _ ih => exact .cons hf (h1.mono hl) ih

/-- How code is left. -/
def AXR (ρ : Ren) (x : AX) (e : Exit) : Prop :=
  match x with
  | .normal => e = .normal
  | .exit id => e = .exit id
  | .ret => e = .ret
  | .panic v => ∃ u, e = .panic [{ v := u, recovered := false }] ∧ VR ρ v u

/-- What code leaves. -/
def CodePost (E : EnvD) (n : Nat) (K : Nat → Prop) (ρ : Ren) (w : World) (x : AX) (s : St) (e : Exit) (a : Act) (w' : World) : Prop :=
  ∃ ρ', Post K ρ w ρ' s.H w' ∧ TR ρ' s.T a.tmps ∧ a.tmps.size = n ∧ DR E ρ' s.D a.defers ∧ AXR ρ' x e

section
variable {call : CallF} {E : EnvD} {n : Nat} {lvd : DItem → Bool}

theorem drun_done : ∀ {l : List DItem} {k : Nat} {acc : List DRow} {T : Tmps} {H : AHeap} {rows : List DRow} {T' : Tmps} {H' : AHeap},
    drun call E n l k acc T H = some (.done rows T' H') → ∃ rs, rows = acc.reverse ++ rs ∧ GChain call E n (fun _ => true) l T H rs T' H'
  | [], _, acc, T, H, rows, T', H', h => by
    simp only [drun, Option.some.injEq, DRun.done.injEq] at h
    obtain ⟨rfl, rfl, rfl⟩ := h
    exact ⟨[], by simp, rfl, rfl⟩
  | d :: l, k, acc, T, H, rows, T', H', h => by
    simp only [drun] at h
    split at h
    · rename_i hw
      split at h
      · rename_i v H1 hs
        split at h
        · rename_i hc
          split at h
          · rename_i T1 ht
            obtain ⟨rs, e, hg⟩ := drun_done h
            exact ⟨⟨v, T, H⟩ :: rs, by simp [e], rfl, rfl, .inl ⟨rfl, hw, H1, T1, hs, hc, ht, hg⟩⟩
          · cases h
        · cases h
      · simp at h
      · cases h
    · cases h

theorem drun_pan : ∀ {l : List DItem} {k : Nat} {acc : List DRow} {T : Tmps} {H : AHeap} {rows : List DRow} {T0 : Tmps} {H0 : AHeap} {p : Nat} {v : AVal} {H' : AHeap},
    drun call E n l k acc T H = some (.pan rows T0 H0 p v H') → ∃ rs pre d post, l = pre ++ d :: post ∧ rows = acc.reverse ++ rs ∧ GChain call E n (fun _ => true) pre T H rs T0 H0 ∧ p = k + pre.length ∧
      wchk d T0 H0 = true ∧ dstep call E T0 H0 d.it = some (.pan v H')
  | [], _, _, _, _, _, _, _, _, _, _, h => by simp [drun] at h
  | d :: l, k, acc, T, H, rows, T0, H0, p, v, H', h => by
    simp only [drun] at h
    split at h
    · rename_i hw
      split at h
      · rename_i u H1 hs
        split at h
        · rename_i hc
          split at h
          · rename_i T1 ht
            obtain ⟨rs, pre, dp, post, e1, e2, hg, e3, e4, e5⟩ := drun_pan h
            refine ⟨⟨u, T, H⟩ :: rs, d :: pre, dp, post, by simp [e1], by simp [e2], ⟨rfl, rfl, .inl ⟨rfl, hw, H1, T1, hs, hc, ht, hg⟩⟩, by simp [e3]; omega, e4, e5⟩
          · cases h
        · cases h
      · rename_i u H1 hs
        simp only [Option.some.injEq, DRun.pan.injEq] at h
        obtain ⟨rfl, rfl, rfl, rfl, rfl, rfl⟩ := h
        exact ⟨[], [], d, l, rfl, by simp, ⟨rfl, rfl⟩, by simp, hw, hs⟩
      · cases h
    · cases h

theorem dstep_mono {T : Tmps} {H H' : AHeap} {it : AItem} {v : AVal} (h : dstep (fun _ _ _ => none) E T H it = some (.val v H')) : dstep call E T H it = some (.val v H') := by
  unfold dstep at h ⊢
  cases hw : wantedA T it.guard with
  | none => rw [hw] at h; cases h
  | some b =>
    rw [hw] at h
    cases b with
    | false => exact h
    | true =>
      simp only at h ⊢
      split at h
      · rename_i hop; first | (rw [hop]; exact h) | exact h
      · cases h
      · cases h

theorem ddry_chain {p : Nat} : ∀ {l : List DItem} {acc : List DRow} {T : Tmps} {H : AHeap} {more : List DRow}, ddry E n p l acc T H = some more →
    ∃ rs T' H', more = acc.reverse ++ rs ∧ GChain call E n (fun d => !d.pre.testBit p) l T H rs T' H' ∧ (∀ d ∈ l, d.pre.testBit p = false → d.cls ≠ .W)
  | [], acc, T, H, more, h => by
    simp only [ddry, Option.some.injEq] at h
    subst h
    exact ⟨[], T, H, by simp, ⟨rfl, rfl⟩, fun d hd => by cases hd⟩
  | d :: l, acc, T, H, more, h => by
    simp only [ddry] at h
    split at h
    · rename_i hp
      obtain ⟨rs, T', H', e, hg, hn⟩ := ddry_chain h
      refine ⟨⟨AVal.undef, T, H⟩ :: rs, T', H', by simp [e], ⟨rfl, rfl, .inr ⟨by simp [hp], hg⟩⟩, fun x hx hxp => ?_⟩
      cases hx with
      | head => rw [hp] at hxp; cases hxp
      | tail _ hx => exact hn x hx hxp
    · rename_i hp
      split at h
      · cases h
      · rename_i hcw
        split at h
        · rename_i v H1 hs
          split at h
          · rename_i hc
            split at h
            · rename_i T1 ht
              obtain ⟨rs, T', H', e, hg, hn⟩ := ddry_chain h
              have hwk : wchk d T H = true := by
                unfold wchk
                cases hcl : d.cls <;> first | rfl | exact absurd hcl hcw
              refine ⟨⟨v, T, H⟩ :: rs, T', H', by simp [e], ⟨rfl, rfl, .inl ⟨by simpa using hp, hwk, H1, T1, dstep_mono hs, hc, ht, hg⟩⟩, fun x hx hxp => ?_⟩
              cases hx with
              | head => exact hcw
              | tail _ hx => exact hn x hx hxp
            · cases h
          · cases h
        · cases h

theorem gchain_congr {lvd' : DItem → Bool} : ∀ {l : List DItem} {T : Tmps} {H : AHeap} {rs : List DRow} {T' : Tmps} {H' : AHeap}, (∀ d ∈ l, lvd d = lvd' d) → GChain call E n lvd l T H rs T' H' → GChain call E n lvd' l T H rs T' H'
  | [], _, _, [], _, _, _, h => h
  | [], _, _, _ :: _, _, _, _, h => h.elim
  | _ :: _, _, _, [], _, _, _, h => h.elim
  | d :: l, T, H, r :: rs, T', H', hl, h => by
    have hd := hl d List.mem_cons_self
    have hl' : ∀ d ∈ l, lvd d = lvd' d := fun d hd => hl d (List.mem_cons_of_mem _ hd)
    obtain ⟨h1, h2, h | h⟩ := h
    · obtain ⟨h3, h4, H1, T1, h5, h6, h7, h8⟩ := h
      exact ⟨h1, h2, .inl ⟨hd ▸ h3, h4, H1, T1, h5, h6, h7, gchain_congr hl' h8⟩⟩
    · exact ⟨h1, h2, .inr ⟨hd ▸ h.1, gchain_congr hl' h.2⟩⟩

theorem gchain_append : ∀ {l l' : List DItem} {T : Tmps} {H : AHeap} {rs rs' : List DRow} {T1 : Tmps} {H1 : AHeap} {T' : Tmps} {H' : AHeap},
    GChain call E n lvd l T H rs T1 H1 → GChain call E n lvd l' T1 H1 rs' T' H' → GChain call E n lvd (l ++ l') T H (rs ++ rs') T' H'
  | [], _, _, _, [], _, _, _, _, _, h, h' => by obtain ⟨rfl, rfl⟩ := h; exact h'
  | [], _, _, _, _ :: _, _, _, _, _, _, h, _ => h.elim
  | _ :: _, _, _, _, [], _, _, _, _, _, h, _ => h.elim
  | d :: l, l', T, H, r :: rs, rs', T1, H1, T', H', h, h' => by
    obtain ⟨h1, h2, h | h⟩ := h
    · obtain ⟨h3, h4, H2, T2, h5, h6, h7, h8⟩ := h
      exact ⟨h1, h2, .inl ⟨h3, h4, H2, T2, h5, h6, h7, gchain_append h8 h'⟩⟩
    · exact ⟨h1, h2, .inr ⟨h.1, gchain_append h.2 h'⟩⟩

theorem hrOf_append : ∀ (rs rs' : List DRow) (H : AHeap) (k : Nat), hrOf (rs ++ rs') H k = if k < rs.length then hrOf rs H k else hrOf rs' H (k - rs.length)
  | [], _, _, _ => by simp
  | r :: rs, rs', H, 0 => by simp [hrOf]
  | r :: rs, rs', H, k + 1 => by
    simp only [List.cons_append, hrOf, List.length_cons, Nat.add_lt_add_iff_right]
    rw [hrOf_append rs rs' H k]
    simp

theorem hrOf_any (H H' : AHeap) : ∀ (rs : List DRow) (k : Nat), k < rs.length → hrOf rs H k = hrOf rs H' k
  | [], _, h => by simp at h
  | r :: rs, 0, _ => rfl
  | r :: rs, k + 1, h => hrOf_any H H' rs k (by simpa using h)

theorem chain_lastw {its : List DItem} {T T' : Tmps} {H H' : AHeap} {rs : List DRow} (hg : GChain call E n lvd its T H rs T' H') {live : Nat → Bool}
    (hlive : ∀ (k : Nat) (d : DItem), its[k]? = some d → live k = lvd d) : ∀ k, k ≤ its.length → ∀ t, tget (tsOf rs T' k) t = lastw its (vlOf rs) (tsOf rs T' 0) live t k := by
  intro k
  induction k with
  | zero => intro _ t; rfl
  | succ k ih =>
    intro hk t
    have hkd : its[k]? = some its[k] := List.getElem?_eq_getElem (by omega)
    generalize its[k] = d at hkd
    simp only [lastw, hkd]
    rcases gchain_get hg k d hkd with ⟨h1, _, _, _, h5⟩ | ⟨h1, h2, _⟩
    · rw [tput_get h5 t, hlive k d hkd, h1]
      by_cases e : d.it.dst = some t
      · simp [e]
      · simp only [e, if_false, and_false]
        exact ih (by omega) t
    · rw [h2, hlive k d hkd, h1]
      simp only [Bool.false_eq_true, false_and, if_false]
      exact ih (by omega) t

theorem tsOf_ge : ∀ (rs : List DRow) (T : Tmps) (k : Nat), rs.length ≤ k → tsOf rs T k = T
  | [], _, _, _ => rfl
  | _ :: rs, T, 0, h => by simp at h
  | _ :: rs, T, k + 1, h => tsOf_ge rs T k (by simpa using h)

theorem hangs_lt {P : Program} {ops : Array Oper} {its : List DItem} (hd : DOK P E ops its) {k q : Nat} (h : Hangs ops its k q) : q < k := by
  induction h with
  | direct hk ho he hb hq hi =>
    obtain ⟨q', dq', h1, h2, h3⟩ := hd.edge _ _ _ _ hk ho he hb
    have := hd.inj _ _ _ _ hq h2 (by rw [hi, h3])
    omega
  | step _ _ h1 h2 => omega

theorem tget_junkAll : ∀ (l : List Nat) (T : Tmps) (t : Nat), tget (junkAll l T) t = if t ∈ l then .junk else tget T t
  | [], T, t => by simp [junkAll]
  | x :: l, T, t => by
    have := tget_junkAll l (T.set x (some .junk)) t
    show tget (junkAll l (T.set x (some .junk))) t = _
    rw [this]
    unfold tget
    rw [Trie.get_set]
    by_cases e : t ∈ l
    · simp [e]
    · by_cases e2 : x = t
      · subst e2; simp
      · simp [e, e2, Ne.symm e2]

theorem join_none (ρ : Ren) : join ρ (fun _ => none) = ρ := by
  funext i; unfold join; cases ρ i <;> rfl

theorem sB_none (its : List DItem) (m k : Nat) : sB its (Array.replicate m false) k = false := by
  unfold sB
  split
  · simp only [Array.getD_eq_getD_getElem?, Array.getElem?_replicate]; split <;> rfl
  · rfl

theorem pan_call {T : Tmps} {H H' : AHeap} {d : DItem} {v : AVal} (hc : clsOK d.cls d.it.op = true) (h : dstep call E T H d.it = some (.pan v H')) : d.cls = .W := by
  have hq : ¬ (quietOp d.it.op = true ∨ readOp d.it.op = true ∨ makeOp d.it.op = true) := by
    intro hq
    unfold dstep at h
    split at h
    · cases h
    · split at h
      · simp at h
      · rename_i f args H1 hop
        rcases hq with hq | hq | hq
        · obtain ⟨_, ⟨u, e⟩, _⟩ := quiet_any hq hop; cases e
        · obtain ⟨_, ⟨u, e⟩, _⟩ := read_next hq hop; cases e
        · obtain ⟨u, c, e, _⟩ := make_shape hq hop; cases e
      · cases h
    · simp at h
  cases e : d.cls with
  | P => rw [e] at hc; exact absurd (.inl hc) hq
  | R => rw [e] at hc; simp only [clsOK, Bool.or_eq_true] at hc; exact absurd (hc.elim .inl fun h => .inr (.inl h)) hq
  | A => rw [e] at hc; exact absurd (.inr (.inr hc)) hq
  | W => rfl

/-- What holds at the outset. -/
theorem di_start {ops : Array Oper} {its : List DItem} {Ts : Nat → Tmps} {Hr : Nat → AHeap} {vl : Nat → AVal} {most : Nat} {live : Nat → Bool} {K : Nat → Prop} {ρ : Ren} {a : Act} {w : World}
    (ht : TR ρ (Ts 0) a.tmps) (hn : a.tmps.size = n) (hw : WR K ρ (Hr 0) w) :
    DI ops n its Ts Hr vl most live K ρ w a (Array.replicate ops.size false) a w 0 ρ (fun _ => none) := by
  refine ⟨hn, rfl, by simp, ?_, ?_, Nat.zero_le _, fun k d h => absurd h (Nat.not_lt_zero _), fun k d _ _ _ => sB_none _ _ _, ?_, ρ.le_refl, ?_, ?_, ?_, ?_, fun _ _ => rfl, fun _ _ => rfl, Grew.refl w⟩
  · intro i o e hi
    simp only [Array.getD_eq_getD_getElem?, Array.getElem?_replicate] at hi
    split at hi <;> cases hi
  · intro k hk; rw [sB_none] at hk; cases hk
  · refine hw.anti fun b hb => ?_
    rcases hb with hb | ⟨i, l, h, _⟩
    · exact hb
    · cases h
  · intro i l h; cases h
  · intro i i' l l' h; cases h
  · intro k d _ _ _ hs; rw [sB_none] at hs; cases hs
  · intro t
    rw [join_none, lastw_more (Nat.zero_le _) (fun k d _ _ _ => sB_none _ _ _)]
    exact ht t

theorem dreg_sound {P : Program} (hP : P.follows .mixedOrders = true) (hE : EnvOK P E) (hcall : CallOK P E call) {ops : Array Oper} {its : List DItem} (hd : DOK P E ops its) {s s' : St} {x : AX}
    (h : dreg call E n its s = some (x, s')) {K : Nat → Prop} {ρ : Ren} {a : Act} {w : World} (ht : TR ρ s.T a.tmps) (hn : a.tmps.size = n) (hw : WR K ρ s.H w) (hD : DR E ρ s.D a.defers) (id : Nat) :
    (Code.region id ops true).wp P (CodePost E n K ρ w x s') a w := by
  have hw' : WR K ρ s.H { w with drawn := w.drawn + 1 } := hw.of_heap rfl
  refine wp_region_any hP ?_
  unfold dreg at h
  split at h
  · rename_i rows T H hrun
    split at h
    · rename_i hrc
      simp only [Option.some.injEq, Prod.mk.injEq] at h
      obtain ⟨rfl, rfl⟩ := h
      obtain ⟨rs, e, hg⟩ := drun_done hrun
      simp only [List.reverse_nil, List.nil_append] at e
      subst e
      have hlen := gchain_len hg
      obtain ⟨z1, z2⟩ := gchain_zero hg
      have hr : RunOK call E n its (tsOf rows T) (hrOf rows H) (vlOf rows) rows.length (fun _ => true) := run_of_chain hd hg (fun _ _ _ => rfl) (by omega) (fun _ _ => rfl)
        (fun k d hk _ _ => by rw [hlen]; exact (List.getElem?_eq_some_iff.1 hk).1) (fun k hk => hrOf_list rows H k hk) (fun _ _ => rfl) hrc
      have h0 : DI ops n its (tsOf rows T) (hrOf rows H) (vlOf rows) rows.length (fun _ => true) K ρ { w with drawn := w.drawn + 1 } a (Array.replicate ops.size false) a { w with drawn := w.drawn + 1 } 0 ρ (fun _ => none) :=
        di_start (by rw [z1]; exact ht) hn (by rw [z2]; exact hw')
      obtain ⟨j, ρ1, σ1, h1, hst⟩ := h0.settle hr _ 0 ρ _ rfl
      refine draw_all hE hcall hd hr (.inl hlen) ?_ (fun k d _ hk => by cases hk) ops.size _ a _ j ρ1 σ1 ?_ h1 hst
      · intro listed a' w1 j ρ2 σ2 hall h hst
        have hj : j = rows.length := by
          rcases hst with e | ⟨e1, d, e2, _, e3⟩
          · exact e
          · rw [hall j (by omega)] at e3; cases e3
        subst hj
        have hσ : σ2 = fun _ => none := by
          funext i
          cases e : σ2 i with
          | none => rfl
          | some l =>
            obtain ⟨k, d, _, _, _, h1, h2, _⟩ := h.sg i l e
            have := (List.getElem?_eq_some_iff.1 h2).1
            omega
        subst hσ
        have htm : TR ρ2 T a'.tmps := by
          intro t
          have := h.tm t
          rw [join_none, lastw_congr (s' := fun _ => true) (fun k d hk _ _ => hall k hk), ← chain_lastw hg (fun _ _ _ => rfl) its.length (Nat.le_refl _) t, tsOf_ge rows T its.length (by omega)] at this
          exact this
        refine ⟨ρ2, ⟨h.le, ?_, h.keep, ⟨h.grow.size, h.grow.os, h.grow.out, h.grow.frz⟩⟩, htm, h.sz, by rw [h.df]; exact hD.mono h.le, rfl⟩
        have := h.wr
        rw [hrOf_ge rows H rows.length (Nat.le_refl _)] at this
        exact this.anti fun b hb => .inl hb
      · have : unl its (Array.replicate ops.size false) ≤ (List.range its.length).length := List.length_filter_le _ _
        rw [List.length_range, hd.len] at this
        exact this
    · cases h
  · rename_i rows T0 H0 p v H1 hrun
    split at h
    · rename_i more hdry
      split at h
      · rename_i hrc
        simp only [Option.some.injEq, Prod.mk.injEq] at h
        obtain ⟨rfl, rfl⟩ := h
        obtain ⟨rs, pre, dp, post, e1, e2, hg1, e3, hwk, hstep⟩ := drun_pan hrun
        simp only [List.reverse_nil, List.nil_append, Nat.zero_add] at e2 e3
        subst e2
        have hpost : its.drop (p + 1) = post := by
          rw [e1, e3]
          simp
        rw [hpost] at hdry
        obtain ⟨rs2, T2, H2, e4, hg2, hnW⟩ := ddry_chain (call := call) hdry
        simp only [List.reverse_nil, List.nil_append] at e4
        subst e4
        have hlen1 := gchain_len hg1
        have hp : its[p]? = some dp := by rw [e1, e3]; simp
        have hcls : dp.cls = .W := pan_call (hd.cls p dp hp) hstep
        have hpl : p < its.length := (List.getElem?_eq_some_iff.1 hp).1
        let lvd : DItem → Bool := fun d => d.idx != dp.idx && !d.pre.testBit p
        have hpre : ∀ d ∈ pre, lvd d = true := by
          intro d hdm
          obtain ⟨k, hk, hkd⟩ := List.getElem_of_mem hdm
          have hkd' : its[k]? = some d := by rw [e1, List.getElem?_append_left hk]; simp [hk, hkd]
          simp only [lvd, Bool.and_eq_true, bne_iff_ne, ne_eq, Bool.not_eq_true']
          refine ⟨fun e => ?_, ?_⟩
          · have := hd.inj k p d dp hkd' hp e; omega
          · cases e : d.pre.testBit p with
            | false => rfl
            | true => have := hangs_lt hd (hd.pre k d p hkd' e); omega
        have hpostl : ∀ d ∈ post, lvd d = !d.pre.testBit p := by
          intro d hdm
          obtain ⟨k, hk, hkd⟩ := List.getElem_of_mem hdm
          have hkd' : its[p + 1 + k]? = some d := by
            have : post[k]? = some d := by simp [hk, hkd]
            rw [← hpost, List.getElem?_drop] at this; exact this
          have : d.idx ≠ dp.idx := fun e => by have := hd.inj _ p d dp hkd' hp e; omega
          simp [lvd, this]
        have hg : GChain call E n lvd its s.T s.H (rows ++ ⟨AVal.undef, T0, H0⟩ :: more) T2 H2 := by
          rw [e1]
          refine gchain_append (gchain_congr (fun d hd => (hpre d hd).symm) hg1) ?_
          exact ⟨rfl, rfl, .inr ⟨by simp [lvd], gchain_congr (fun d hd => (hpostl d hd).symm) hg2⟩⟩
        let live : Nat → Bool := fun k => match its[k]? with
          | some d => lvd d
          | none => true
        have hlive : ∀ (k : Nat) (d : DItem), its[k]? = some d → live k = lvd d := by
          intro k d hk; simp [live, hk]
        have hprek : ∀ (k : Nat) (d : DItem), k < p → its[k]? = some d → d ∈ pre := by
          intro k d hk hkd
          rw [e1, List.getElem?_append_left (by omega)] at hkd
          exact List.mem_of_getElem? hkd
        have hsmall : ∀ k, k < p → live k = true := by
          intro k hk
          have hkd : its[k]? = some its[k] := List.getElem?_eq_getElem (by omega)
          generalize its[k] = d at hkd
          rw [hlive k d hkd]
          exact hpre d (hprek k d hk hkd)
        have hlp : live p = false := by rw [hlive p dp hp]; simp [lvd]
        have hr : RunOK call E n its (tsOf (rows ++ ⟨AVal.undef, T0, H0⟩ :: more) T2) (hrOf (rows ++ ⟨AVal.undef, T0, H0⟩ :: more) H2) (vlOf (rows ++ ⟨AVal.undef, T0, H0⟩ :: more)) p live := by
          refine run_of_chain (lvd := lvd) hd hg hlive (Nat.le_of_lt hpl) hsmall ?_ ?_ (skip := fun d => d.pre.testBit p) ?_ hrc
          · intro k d hk hl hc
            rcases Nat.lt_trichotomy k p with h' | h' | h'
            · exact h'
            · subst h'; rw [hlp] at hl; cases hl
            · exfalso
              have hm : d ∈ post := by
                rw [← hpost]
                refine List.mem_of_getElem? (i := k - (p + 1)) ?_
                rw [List.getElem?_drop]
                rw [show p + 1 + (k - (p + 1)) = k by omega]; exact hk
              rw [hlive k d hk, hpostl d hm] at hl
              exact hnW d hm (by simpa using hl) hc
          · intro k hk
            rw [hrOf_append]
            have := hrOf_list rows H0 k (by omega)
            rw [this]
            split
            · rename_i h'; rw [hrOf_any H0 H2 rows k h']
            · have : k - rows.length = 0 := by omega
              rw [this, hrOf_ge rows H0 k (by omega)]; rfl
          · intro d hd'
            simp only [lvd, Bool.and_eq_true, Bool.not_eq_true'] at hd'
            exact hd'.2
        obtain ⟨z1, z2⟩ := gchain_zero hg
        have h0 := di_start (ops := ops) (its := its) (vl := vlOf (rows ++ ⟨AVal.undef, T0, H0⟩ :: more)) (most := p) (live := live) (Ts := tsOf (rows ++ ⟨AVal.undef, T0, H0⟩ :: more) T2) (Hr := hrOf (rows ++ ⟨AVal.undef, T0, H0⟩ :: more) H2)
          (K := K) (ρ := ρ) (a := a) (w := { w with drawn := w.drawn + 1 }) (by rw [z1]; exact ht) hn (by rw [z2]; exact hw')
        obtain ⟨j, ρ1, σ1, h1, hst⟩ := h0.settle hr _ 0 ρ _ rfl
        have hTp : tsOf (rows ++ ⟨AVal.undef, T0, H0⟩ :: more) T2 p = T0 := by
          obtain ⟨r, r1, r2, r3, r4⟩ := row_get (rows ++ ⟨AVal.undef, T0, H0⟩ :: more) T2 H2 p (by simp; omega)
          rw [← r2]
          rw [List.getElem?_append_right (by omega), show p - rows.length = 0 by omega] at r1
          simp at r1; rw [← r1]
        have hHp : hrOf (rows ++ ⟨AVal.undef, T0, H0⟩ :: more) H2 p = H0 := by
          rw [hrOf_append, if_neg (by omega), show p - rows.length = 0 by omega]; rfl
        refine draw_all hE hcall hd hr (.inr ⟨dp, hp, hcls, hlp⟩) ?_ ?_ ops.size _ a _ j ρ1 σ1 ?_ h1 hst
        · intro listed a' w1 j ρ2 σ2 hall h hst
          exfalso
          have := h.lv p (hall p hpl)
          rw [hlp] at this; cases this
        · intro k d hk hl
          by_cases e : k = p
          · subst e
            rw [hp] at hk; cases hk
            refine .inr ⟨rfl, hcls, fun t _ => chain_lastw hg hlive k (Nat.le_of_lt hpl) t, by rw [hTp, hHp]; exact hwk, v, H1, by rw [hTp, hHp]; exact hstep, ?_⟩
            intro listed a' w1 j ρ2 σ2 hdi v' w' ρ' hv hle hwr hkeep hgrow
            refine ⟨ρ', ⟨hle, hwr, hkeep, ⟨hgrow.size, hgrow.os, hgrow.out, hgrow.frz⟩⟩, ?_, hdi.sz, by rw [hdi.df]; exact hD.mono hle, _, rfl, hv⟩
            intro t
            rw [tget_junkAll]
            split
            · exact .junk _
            · rename_i hnt
              have := hdi.un t (fun k d hk e => hnt (List.mem_filterMap.2 ⟨d, List.mem_of_getElem? hk, e⟩))
              rw [this]
              exact (ht t).mono hle
          · refine .inl ⟨?_, hlp⟩
            rw [hlive k d hk] at hl
            have : d.idx ≠ dp.idx := fun e' => e (hd.inj _ _ _ _ hk hp e')
            simp [lvd, this] at hl
            exact hl
        · have : unl its (Array.replicate ops.size false) ≤ (List.range its.length).length := List.length_filter_le _ _
          rw [List.length_range, hd.len] at this
          exact this
      · cases h
    · cases h
  · cases h
end
end Go.Sim
