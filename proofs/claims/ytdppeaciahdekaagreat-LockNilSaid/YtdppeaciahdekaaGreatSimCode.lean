/- Code: what the evaluator finds is what the model does. -/
import Derived.Test.YtdppeaciahdekaaGreatSimChkB
import Derived.Recover
import Derived.LoopN
set_option linter.unusedSimpArgs false
namespace Go.Sim

section
variable {P : Program} {E : EnvD} {call : CallF} {n : Nat} {K : Nat → Prop} {ρ0 : Ren} {w0 : World}

theorem tput_sound {ρ : Ren} {T T' : Tmps} {a : Act} {d : Option Nat} {v : AVal} {u : Value} (ht : TR ρ T a.tmps) (hn : a.tmps.size = n) (hp : tput n d v T = some T') (hv : VR ρ v u) :
    TR ρ T' (a.put d u).tmps ∧ (a.put d u).tmps.size = n ∧ (a.put d u).defers = a.defers := by
  unfold tput at hp
  split at hp
  · simp only [Option.some.injEq] at hp; subst hp; exact ⟨ht, hn, rfl⟩
  · split at hp
    · rename_i x hx
      simp only [Option.some.injEq] at hp; subst hp
      exact ⟨ht.set (by omega) hv, by simp [Act.put, hn], rfl⟩
    · cases hp

/-- Items in the order in which they stand. -/
theorem aitems_sound (hE : EnvOK P E) (hcall : CallOK P E call) {ops : Array Oper} {x : AX} {s' : St} : ∀ (its : List AItem) (os : List Oper) (k : Nat) (s : St) (ρ : Ren) (a : Act) (w : World),
    regChk P E ops.toList os its = true → (∀ (i : Nat) o, os[i]? = some o → ops[k + i]? = some o) → aitems call E n its s = some (x, s') → Post K ρ0 w0 ρ s.H w → TR ρ s.T a.tmps → a.tmps.size = n → DR E ρ s.D a.defers →
    wpOps P ops (CodePost E n K ρ0 w0 x s') (List.range' k os.length) a w
  | [], [], k, s, ρ, a, w, _, _, h, hp, ht, hn, hD => by
    simp only [aitems, Option.some.injEq, Prod.mk.injEq] at h
    obtain ⟨rfl, rfl⟩ := h
    exact ⟨ρ, hp, ht, hn, hD, rfl⟩
  | [], _ :: _, _, _, _, _, _, h, _, _, _, _, _, _ => by simp [regChk] at h
  | _ :: _, [], _, _, _, _, _, h, _, _, _, _, _, _ => by simp [regChk] at h
  | it :: its, o :: os, k, s, ρ, a, w, hc, hops, h, hp, ht, hn, hD => by
    simp only [regChk, Bool.and_eq_true] at hc
    have hio := itemChk_sound hc.1
    have ho : ops[k]? = some o := hops 0 o rfl
    have hops' : ∀ (i : Nat) o', os[i]? = some o' → ops[k + 1 + i]? = some o' := by
      intro i o' hi
      have := hops (i + 1) o' (by simpa using hi)
      rwa [show k + 1 + i = k + (i + 1) by omega]
    rw [List.length_cons, List.range'_succ, wpOps_cons]
    refine wpOp_some ho ?_
    have next : ∀ (v : AVal) (u : Value) (T : Tmps) (H : AHeap) (D : List (FuncId × List AVal)) (ρ1 : Ren) (w1 : World) (a1 : Act), tput n it.dst v s.T = some T → aitems call E n its ⟨T, H, D⟩ = some (x, s') → VR ρ1 v u → Post K ρ w ρ1 H w1 →
        a1.tmps = a.tmps → DR E ρ1 D a1.defers → wpOps P ops (CodePost E n K ρ0 w0 x s') (List.range' (k + 1) os.length) (a1.put o.dst u) w1 := by
      intro v u T H D ρ1 w1 a1 h1 h2 h3 h4 h5 h6
      rw [hio.dst]
      obtain ⟨p1, p2, p3⟩ := tput_sound (a := a1) (by rw [h5]; exact ht.mono h4.le) (by rw [h5]; exact hn) h1 h3
      exact aitems_sound hE hcall its os (k + 1) ⟨T, H, D⟩ ρ1 _ w1 hc.2 hops' h2 (hp.trans h4) p1 p2 (by rw [p3]; exact h6)
    simp only [aitems] at h
    split at h
    · cases h
    · rename_i hw1
      rw [wanted_sound ht hio.guard hw1]
      simp only [if_true]
      split at h
      · rename_i v H1 hop
        split at h
        · rename_i T1 hT
          obtain ⟨ρ1, v', w1, g1, g2, g3⟩ := op_sound hE ht hp.wr (comp_of hio hop) hop
          unfold Oper.wp
          rcases g1 with g1 | ⟨g1, rfl⟩
          · rw [g1]
            exact next v v' T1 H1 s.D ρ1 w1 a hT h g2 g3 rfl (hD.mono g3.le)
          · rw [g1]
            exact next v _ T1 H1 s.D ρ1 w1 a hT h g2 g3 rfl (hD.mono g3.le)
        · cases h
      · rename_i f args H1 hop
        obtain ⟨l', g1, g2, g3, g4⟩ := op_sound hE ht hp.wr (comp_of hio hop) hop
        subst g3
        unfold Oper.wp
        rw [g1]
        simp only [Oper.upon]
        split at h
        · rename_i v H2 hcl
          split at h
          · rename_i T1 hT
            refine (hcall f args _ _ hcl g4 K ρ w l' g2 hp.wr).mono fun e w' hq => ?_
            obtain ⟨ρ1, v', rfl, q1, q2⟩ := hq
            exact next v v' T1 H2 s.D ρ1 w' a hT h q1 q2 rfl (hD.mono q2.le)
          · cases h
        · rename_i v H2 hcl
          simp only [Option.some.injEq, Prod.mk.injEq] at h
          obtain ⟨rfl, rfl⟩ := h
          refine (hcall f args _ _ hcl g4 K ρ w l' g2 hp.wr).mono fun e w' hq => ?_
          obtain ⟨ρ1, v', rfl, q1, q2⟩ := hq
          exact ⟨ρ1, hp.trans q2, ht.mono q2.le, hn, hD.mono q2.le, _, rfl, q1⟩
        · cases h
      · rename_i v H1 hop
        simp only [Option.some.injEq, Prod.mk.injEq] at h
        obtain ⟨rfl, rfl⟩ := h
        obtain ⟨v', g1, g2, g3⟩ := op_sound hE ht hp.wr (comp_of hio hop) hop
        subst g3
        unfold Oper.wp
        rw [g1]
        exact ⟨ρ, hp, ht, hn, hD, _, rfl, g2⟩
      · rename_i f args H1 hop
        split at h
        · rename_i T1 hT
          obtain ⟨cap, da, g1, g2, g3, g4⟩ := op_sound hE ht hp.wr (comp_of hio hop) hop
          subst g3
          unfold Oper.wp
          rw [g1]
          exact next _ _ T1 _ _ ρ w { a with defers := ⟨.fn (.func f) cap, da⟩ :: a.defers } hT h (VR.undef ρ) (Post.refl hp.wr) rfl (.cons g4 g2 hD)
        · cases h
      · cases h
    · rename_i hw1
      rw [wanted_sound ht hio.guard hw1]
      simp only [Bool.false_eq_true, if_false]
      split at h
      · rename_i T1 hT
        exact next _ _ T1 _ _ ρ w a hT h (VR.undef ρ) (Post.refl hp.wr) rfl hD
      · cases h

def codeOK (P : Program) (E : EnvD) : Code → ACode → Bool
  | _, .bad => true
  | .skip, .skip => true
  | .region _ ops d, .reg l => !d && regChk P E ops.toList ops.toList l
  | .region _ ops d, .drg l => d && dregChk P E ops.toList l
  | .seq a b, .seq a' b' => codeOK P E a a' && codeOK P E b b'
  | .cond c a b, .cond c' a' b' => eqO c c' && codeOK P E a a' && codeOK P E b b'
  | .block id a, .blk id' a' => Nat.beq id id' && codeOK P E a a'
  | .loop a, .loop a' => codeOK P E a a'
  | .exit id, .exit id' => Nat.beq id id'
  | .ret, .ret => true
  | _, _ => false

theorem CodePost.trans {ρ : Ren} {w : World} {H : AHeap} {x : AX} {s : St} {e : Exit} {a : Act} {w' : World} (hp : Post K ρ0 w0 ρ H w) (h : CodePost E n K ρ w x s e a w') : CodePost E n K ρ0 w0 x s e a w' := by
  obtain ⟨ρ', h1, h2⟩ := h
  exact ⟨ρ', hp.trans h1, h2⟩

theorem aexec_sound (hP : P.follows .mixedOrders = true) (hE : EnvOK P E) (hcall : CallOK P E call) {lf : Nat} : ∀ (ac : ACode) (c : Code) (s s' : St) (x : AX) (ρ : Ren) (a : Act) (w : World),
    codeOK P E c ac = true → aexec call E n lf ac s = some (x, s') → Post K ρ0 w0 ρ s.H w → TR ρ s.T a.tmps → a.tmps.size = n → DR E ρ s.D a.defers → c.wp P (CodePost E n K ρ0 w0 x s') a w := by
  intro ac
  induction ac with
  | bad => intro c s s' x ρ a w _ h; simp [aexec] at h
  | skip =>
    intro c s s' x ρ a w hc h hp ht hn hD
    cases c <;> simp [codeOK] at hc
    simp only [aexec, Option.some.injEq, Prod.mk.injEq] at h
    obtain ⟨rfl, rfl⟩ := h
    exact wp_skip ⟨ρ, hp, ht, hn, hD, rfl⟩
  | ret =>
    intro c s s' x ρ a w hc h hp ht hn hD
    cases c <;> simp [codeOK] at hc
    simp only [aexec, Option.some.injEq, Prod.mk.injEq] at h
    obtain ⟨rfl, rfl⟩ := h
    exact wp_ret ⟨ρ, hp, ht, hn, hD, rfl⟩
  | exit id =>
    intro c s s' x ρ a w hc h hp ht hn hD
    cases c <;> simp only [codeOK, Bool.false_eq_true] at hc
    have := Nat.eq_of_beq_eq_true hc
    subst this
    simp only [aexec, Option.some.injEq, Prod.mk.injEq] at h
    obtain ⟨rfl, rfl⟩ := h
    exact wp_exit ⟨ρ, hp, ht, hn, hD, rfl⟩
  | reg l =>
    intro c s s' x ρ a w hc h hp ht hn hD
    cases c <;> simp only [codeOK, Bool.false_eq_true] at hc
    rename_i id ops d
    simp only [Bool.and_eq_true, Bool.not_eq_true'] at hc
    obtain ⟨rfl, hc⟩ := hc
    refine wp_region ?_
    have := aitems_sound hE hcall l ops.toList 0 s ρ a w hc (fun i o hi => by simpa using hi) h hp ht hn hD
    rw [Array.length_toList] at this
    rw [List.range_eq_range']
    exact this
  | drg l =>
    intro c s s' x ρ a w hc h hp ht hn hD
    cases c <;> simp only [codeOK, Bool.false_eq_true] at hc
    rename_i id ops d
    simp only [Bool.and_eq_true] at hc
    obtain ⟨rfl, hc⟩ := hc
    exact Code.wp_mono (fun e a' w' hq => CodePost.trans hp hq) (dreg_sound hP hE hcall (dregChk_sound hc) h ht hn hp.wr hD id)
  | seq p q ih1 ih2 =>
    intro c s s' x ρ a w hc h hp ht hn hD
    cases c <;> simp only [codeOK, Bool.false_eq_true] at hc
    simp only [Bool.and_eq_true] at hc
    refine wp_seq ?_
    simp only [aexec] at h
    split at h
    · rename_i s1 h1
      refine Code.wp_mono ?_ (ih1 _ s s1 .normal ρ a w hc.1 h1 hp ht hn hD)
      rintro e a1 w1 ⟨ρ1, q1, q2, q3, q4, rfl⟩
      exact ih2 _ s1 s' x ρ1 a1 w1 hc.2 h q1 q2 q3 q4
    · rename_i r hne
      refine Code.wp_mono ?_ (ih1 _ s s' x ρ a w hc.1 h hp ht hn hD)
      rintro e a1 w1 ⟨ρ1, q1, q2, q3, q4, q5⟩
      cases x with
      | normal => exact absurd h (hne s')
      | exit id => cases q5; exact ⟨ρ1, q1, q2, q3, q4, rfl⟩
      | ret => cases q5; exact ⟨ρ1, q1, q2, q3, q4, rfl⟩
      | panic v => obtain ⟨u, rfl, q6⟩ := q5; exact ⟨ρ1, q1, q2, q3, q4, u, rfl, q6⟩
  | cond o p q ih1 ih2 =>
    intro c s s' x ρ a w hc h hp ht hn hD
    cases c <;> simp only [codeOK, Bool.false_eq_true] at hc
    simp only [Bool.and_eq_true] at hc
    have := eqO_sound hc.1.1
    subst this
    simp only [aexec] at h
    split at h
    · rename_i hv
      exact wp_cond (t := true) (aev_sound ht hv).bool_inv (ih1 _ s s' x ρ a w hc.1.2 h hp ht hn hD)
    · rename_i hv
      exact wp_cond (t := false) (aev_sound ht hv).bool_inv (ih2 _ s s' x ρ a w hc.2 h hp ht hn hD)
    · cases h
  | blk id p ih =>
    intro c s s' x ρ a w hc h hp ht hn hD
    cases c <;> simp only [codeOK, Bool.false_eq_true] at hc
    simp only [Bool.and_eq_true] at hc
    have := Nat.eq_of_beq_eq_true hc.1
    subst this
    refine wp_block ?_
    simp only [aexec] at h
    split at h
    · rename_i i s1 h1
      refine Code.wp_mono ?_ (ih _ s s1 (.exit i) ρ a w hc.2 h1 hp ht hn hD)
      rintro e a1 w1 ⟨ρ1, q1, q2, q3, q4, rfl⟩
      split at h
      · rename_i e
        subst e
        simp only [Option.some.injEq, Prod.mk.injEq] at h
        obtain ⟨rfl, rfl⟩ := h
        simp only [Exit.inBlock, if_true]
        exact ⟨ρ1, q1, q2, q3, q4, rfl⟩
      · rename_i e
        simp only [Option.some.injEq, Prod.mk.injEq] at h
        obtain ⟨rfl, rfl⟩ := h
        simp only [Exit.inBlock, if_neg e]
        exact ⟨ρ1, q1, q2, q3, q4, rfl⟩
    · rename_i r hne
      refine Code.wp_mono ?_ (ih _ s s' x ρ a w hc.2 h hp ht hn hD)
      rintro e a1 w1 ⟨ρ1, q1, q2, q3, q4, q5⟩
      cases x with
      | normal => cases q5; exact ⟨ρ1, q1, q2, q3, q4, rfl⟩
      | exit id => exact absurd h (hne _ _)
      | ret => cases q5; exact ⟨ρ1, q1, q2, q3, q4, rfl⟩
      | panic v => obtain ⟨u, rfl, q6⟩ := q5; exact ⟨ρ1, q1, q2, q3, q4, u, rfl, q6⟩
  | loop p ih =>
    intro c s s' x ρ a w hc h hp ht hn hD
    cases c <;> simp only [codeOK, Bool.false_eq_true] at hc
    rename_i body
    simp only [aexec] at h
    refine wp_loop_rounds lf ?_
    suffices ∀ m s ρ a w, aiter (aexec call E n lf p) m s = some (x, s') → Post K ρ0 w0 ρ s.H w → TR ρ s.T a.tmps → a.tmps.size = n → DR E ρ s.D a.defers → Code.rounds P body (CodePost E n K ρ0 w0 x s') m a w from this lf s ρ a w h hp ht hn hD
    intro m
    induction m with
    | zero => intro s ρ a w h; simp [aiter] at h
    | succ m ihm =>
      intro s ρ a w h hp ht hn hD
      rw [rounds_succ]
      simp only [aiter] at h
      split at h
      · rename_i s1 h1
        refine Code.wp_mono ?_ (ih _ s s1 .normal ρ a w hc h1 hp ht hn hD)
        rintro e a1 w1 ⟨ρ1, q1, q2, q3, q4, rfl⟩
        exact ihm s1 ρ1 a1 w1 h q1 q2 q3 q4
      · rename_i r hne
        refine Code.wp_mono ?_ (ih _ s s' x ρ a w hc h hp ht hn hD)
        rintro e a1 w1 ⟨ρ1, q1, q2, q3, q4, q5⟩
        cases x with
        | normal => exact absurd h (hne s')
        | exit id => cases q5; exact ⟨ρ1, q1, q2, q3, q4, rfl⟩
        | ret => cases q5; exact ⟨ρ1, q1, q2, q3, q4, rfl⟩
        | panic v => obtain ⟨u, rfl, q6⟩ := q5; exact ⟨ρ1, q1, q2, q3, q4, u, rfl, q6⟩

/-- Results. -/
def resChk (P : Program) : List ResultVar → List ARes → Bool
  | [], [] => true
  | .tmp t :: l, .tmp t' :: m => Nat.beq t t' && resChk P l m
  | .cell a t :: l, .cell a' g s :: m => Nat.beq a a' && (match isAggT P t, csize P t with
    | some g', some s' => g == g' && Nat.beq s s'
    | _, _ => false) && resChk P l m
  | _, _ => false

theorem run_mapM_results {tmps : Array Value} {w : World} {ρ : Ren} {T : Tmps} {H : AHeap} (ht : TR ρ T tmps) (hw : WR K ρ H w) {f : ResultVar → Sem Value}
    (hf1 : ∀ t, f (.tmp t) = pure (tmps.getD t undef)) (hf2 : ∀ a t, f (.cell a t) = (asAddr (tmps.getD a undef) >>= fun q => loadVar t q)) :
    ∀ (l : List ResultVar) (m : List ARes) (vs : List AVal), resChk P l m = true → aresL T H m = some vs → ∃ vs', (l.mapM f).run P w = .ok vs' w ∧ vs'.length = vs.length ∧ ∀ (i : Nat) x v, vs[i]? = some x → vs'[i]? = some v → VR ρ x v
  | [], [], vs, _, h => by
    simp only [aresL, Option.some.injEq] at h
    subst h
    exact ⟨[], by simp, rfl, by intro i x v h; simp at h⟩
  | .tmp t :: l, .tmp t' :: m, vs, hc, h => by
    simp only [resChk, Bool.and_eq_true] at hc
    have := Nat.eq_of_beq_eq_true hc.1
    subst this
    simp only [aresL, ares1] at h
    split at h
    · rename_i vs1 h1
      simp only [Option.some.injEq] at h
      subst h
      obtain ⟨vs', e1, e2, e3⟩ := run_mapM_results ht hw hf1 hf2 l m vs1 hc.2 h1
      refine ⟨tmps.getD t undef :: vs', ?_, by simp [e2], ?_⟩
      · simp only [List.mapM_cons, hf1, Sem.run_bind, Sem.run_pure, Result.andThen_ok, e1]
      · intro i x v h1 h2
        cases i with
        | zero => simp at h1 h2; subst h1 h2; have := ht t; rwa [Array.getD_eq_getD_getElem?] at this
        | succ i => exact e3 i x v (by simpa using h1) (by simpa using h2)
    · cases h
  | .cell a t :: l, .cell a' g s :: m, vs, hc, h => by
    simp only [resChk, Bool.and_eq_true] at hc
    obtain ⟨⟨c1, c2⟩, c3⟩ := hc
    have := Nat.eq_of_beq_eq_true c1
    subst this
    split at c2
    · rename_i g' s' hg hs
      simp only [Bool.and_eq_true, beq_iff_eq] at c2
      obtain ⟨rfl, c2⟩ := c2
      have := Nat.eq_of_beq_eq_true c2
      subst this
      simp only [aresL] at h
      split at h
      · rename_i v hv
        split at h
        · rename_i vs1 h1
          simp only [Option.some.injEq] at h
          subst h
          obtain ⟨vs', e1, e2, e3⟩ := run_mapM_results ht hw hf1 hf2 l m vs1 c3 h1
          simp only [ares1] at hv
          split at hv
          · rename_i i o hp
            have hpt := ht a
            rw [hp] at hpt
            obtain ⟨lo, hlo, hpe⟩ := hpt.ptr_inv
            have key : ∃ u, (loadVar t ⟨lo.blk, lo.off + o, none⟩).run P w = .ok u w ∧ VR ρ v u := by
              cases g with
              | true =>
                simp only [if_true] at hv
                split at hv
                · rename_i c hc
                  simp only [Option.some.injEq] at hv
                  subst hv
                  obtain ⟨cs, r1, r2, r3, r4⟩ := hw.loadN hc hlo P
                  refine ⟨.agg cs, ?_, RR.agg (by omega) r4⟩
                  simp only [loadVar, Sem.run_bind, run_agg hg, Result.andThen_ok, if_true, run_size hs, r1, Sem.run_pure]
                · cases hv
              | false =>
                simp only [Bool.false_eq_true, if_false] at hv
                obtain ⟨u, r1, r2⟩ := hw.cell hv hlo
                refine ⟨u, ?_, r2⟩
                simp only [loadVar, Sem.run_bind, run_agg hg, Result.andThen_ok, Bool.false_eq_true, if_false, run_load, r1]
            obtain ⟨u, k1, k2⟩ := key
            refine ⟨u :: vs', ?_, by simp [e2], ?_⟩
            · simp only [List.mapM_cons, hf2, Sem.run_bind, hpe, asAddr, Sem.run_pure, Result.andThen_ok, k1, e1]
            · intro i x v h1 h2
              cases i with
              | zero => simp at h1 h2; subst h1 h2; exact k2
              | succ i => exact e3 i x v (by simpa using h1) (by simpa using h2)
          · cases hv
        · cases h
      · cases h
    · cases c2
  | [], _ :: _, _, h, _ => by simp [resChk] at h
  | .tmp _ :: _, .cell _ _ _ :: _, _, h, _ => by simp [resChk] at h
  | .cell _ _ :: _, .tmp _ :: _, _, h, _ => by simp [resChk] at h
  | .tmp _ :: _, [], _, h, _ => by simp [resChk] at h
  | .cell _ _ :: _, [], _, h, _ => by simp [resChk] at h

theorem results_sound {fn : Func} {tmps : Array Value} {w : World} {ρ : Ren} {T : Tmps} {H : AHeap} {res : List ARes} {v : AVal} (ht : TR ρ T tmps) (hw : WR K ρ H w) (hc : resChk P fn.results.toList res = true) (h : aresults T H res = some v) :
    ∃ u, (results fn tmps).run P w = .ok u w ∧ VR ρ v u := by
  have hm : ∀ vs, aresL T H res = some vs → ∃ vs' : List Value, (results fn tmps).run P w = .ok (if h : vs'.toArray.size = 1 then vs'.toArray[0] else .tuple vs'.toArray) w ∧ LR ρ vs vs'.toArray := by
    intro vs hvs
    have key : ∀ (f : ResultVar → Sem Value), (∀ t, f (.tmp t) = pure (tmps.getD t undef)) → (∀ a t, f (.cell a t) = (asAddr (tmps.getD a undef) >>= fun q => loadVar t q)) →
        ∃ vs' : List Value, ((fn.results.mapM f) >>= fun vs => pure (if h : vs.size = 1 then vs[0] else Value.tuple vs)).run P w = .ok (if h : vs'.toArray.size = 1 then vs'.toArray[0] else .tuple vs'.toArray) w ∧ LR ρ vs vs'.toArray := by
      intro f hf1 hf2
      obtain ⟨vs', e1, e2, e3⟩ := run_mapM_results (P := P) ht hw hf1 hf2 fn.results.toList res vs hc hvs
      refine ⟨vs', ?_, by simp [e2], fun i x v h1 h2 => e3 i x v h1 (by simpa using h2)⟩
      rw [Sem.run_bind, Array.mapM_eq_mapM_toList, Sem.run_map, e1]
      rfl
    unfold results
    exact key _ (fun _ => rfl) (fun _ _ => rfl)
  unfold aresults at h
  split at h
  · rename_i x hx
    simp only [Option.some.injEq] at h
    subst h
    obtain ⟨vs', e1, e2, e3⟩ := hm _ hx
    have hs : vs'.toArray.size = 1 := e2
    rw [dif_pos hs] at e1
    exact ⟨_, e1, e3 0 _ _ rfl (by simp)⟩
  · rename_i vs hne hx
    simp only [Option.some.injEq] at h
    subst h
    obtain ⟨vs', e1, e2⟩ := hm _ hx
    have hs : ¬ vs'.toArray.size = 1 := by
      intro hs
      have := e2.1
      rw [hs] at this
      match vs, this with
      | [x], _ => exact hne x rfl
    rw [dif_neg hs] at e1
    exact ⟨_, e1, .tup e2.1 e2.2⟩
  · cases h
end
end Go.Sim
