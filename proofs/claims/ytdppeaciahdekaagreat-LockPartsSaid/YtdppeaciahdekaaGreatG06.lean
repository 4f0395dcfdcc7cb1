/- A part of the proof that LockParts returns true for every input. No condition. -/
import Derived.Test.YtdppeaciahdekaaGreatG05
import Derived.Recover
import Derived.LoopN
import Derived.Test.YtdppeaciahdekaaGreatG00
import Derived.Laws.StructEq
import Derived.Below
import Derived.OrdersHeld
import Derived.Deep.RegionHeld3
import Derived.Laws.BitsLemmas
import Derived.RowKit
import Derived.Test.YtdppeaciahdekaaGreatChecked
import Derived.WalkKit
import Derived.ProofKit
import Derived.RegionTactic
import Derived.BigRegion
import Derived.ChangeAlike
set_option linter.all false
section
namespace Go.Sim
variable [RO]
section
variable {P : Program} {E : EnvD} {call : CallF} {n : Nat} {K : Nat → Prop} {ρ0 : Ren} {w0 : World}
theorem tput_sound {ρ : Ren} {T T' : Tmps} {a : Act} {d : Option Nat} {v : AVal} {u : Value} (ht : TR ρ T a.tmps) (hn : a.tmps.size = n) (hp : tput n d v T = some T') (hv : VR ρ v u) :
  TR ρ T' (a.put d u).tmps ∧ (a.put d u).tmps.size = n ∧ (a.put d u).defers = a.defers := by
 unfold tput at hp
 split at hp
 ·simp only [Option.some.injEq] at hp; subst hp; exact ⟨ht, hn, rfl⟩
 ·split at hp
  ·rename_i x hx
   simp only [Option.some.injEq] at hp; subst hp
   exact ⟨ht.set (by omega) hv, by simp [Act.put, hn], rfl⟩
  ·cases hp
theorem aitems_sound (hE : EnvOK P E) (hcall : CallOK P E call) {ops : Array Oper} {x : AX} {s' : St} : ∀ (its : List AItem) (os : List Oper) (k : Nat) (s : St) (ρ : Ren) (a : Act) (w : World),
  regChk P E ops.toList os its = true → (∀ (i : Nat) o, os[i]? = some o → ops[k + i]? = some o) → aitems call E n its s = some (x, s') → Post K ρ0 w0 ρ s.H w → TR ρ s.T a.tmps → a.tmps.size = n → DR E ρ s.D a.defers →
  wpOps P ops (CodePost E n K ρ0 w0 x s') (List.range' k os.length) a w
 | [], [], k, s, ρ, a, w, _, _, h, hp, ht, hn, hD => by
  simp only [aitems, Option.some.injEq, Prod.mk.injEq] at h
  obtain ⟨rfl, rfl⟩ := h
  exact ⟨ρ, hp, ht, hn, hD, rfl⟩
 | [], _ :: _, _, _, _, _, _, h, _, _, _, _, _, _ => by simp [regChk] at h
 | _ :: _, [], _, _, _, _, _, h, _, _, _, _, _, _ => by simp [regChk] at h
 | it :: its, o :: os, k, s, ρ, a, w, hc, hops, h, hp, ht, hn, hD => by
  simp only [regChk, Bool.and_eq_true] at hc
  have hio := itemChk_sound hc.1
  have ho : ops[k]? = some o := hops 0 o rfl
  have hops' : ∀ (i : Nat) o', os[i]? = some o' → ops[k + 1 + i]? = some o' := by
   intro i o' hi
   have := hops (i + 1) o' (by simpa using hi)
   rwa [show k + 1 + i = k + (i + 1) by omega]
  rw [List.length_cons, List.range'_succ, wpOps_cons]
  refine wpOp_some ho ?_
  have next : ∀ (v : AVal) (u : Value) (T : Tmps) (H : AHeap) (D : List (FuncId × List AVal)) (ρ1 : Ren) (w1 : World) (a1 : Act), tput n it.dst v s.T = some T → aitems call E n its ⟨T, H, D⟩ = some (x, s') → VR ρ1 v u → Post K ρ w ρ1 H w1 →
    a1.tmps = a.tmps → DR E ρ1 D a1.defers → wpOps P ops (CodePost E n K ρ0 w0 x s') (List.range' (k + 1) os.length) (a1.put o.dst u) w1 := by
   intro v u T H D ρ1 w1 a1 h1 h2 h3 h4 h5 h6
   rw [hio.dst]
   obtain ⟨p1, p2, p3⟩ := tput_sound (a := a1) (by rw [h5]; exact ht.mono h4.le) (by rw [h5]; exact hn) h1 h3
   exact aitems_sound hE hcall its os (k + 1) ⟨T, H, D⟩ ρ1 _ w1 hc.2 hops' h2 (hp.trans h4) p1 p2 (by rw [p3]; exact h6)
  simp only [aitems] at h
  split at h
  ·cases h
  ·rename_i hw1
   rw [wanted_sound ht hio.guard hw1]
   simp only [if_true]
   split at h
   ·rename_i v H1 hop
    split at h
    ·rename_i T1 hT
     obtain ⟨ρ1, v', w1, g1, g2, g3⟩ := op_sound hE ht hp.wr (comp_of hio hop) hop
     unfold Oper.wp
     rcases g1 with g1 | ⟨g1, rfl⟩
     ·rw [g1]
      exact next v v' T1 H1 s.D ρ1 w1 a hT h g2 g3 rfl (hD.mono g3.le)
     ·rw [g1]
      exact next v _ T1 H1 s.D ρ1 w1 a hT h g2 g3 rfl (hD.mono g3.le)
    ·cases h
   ·rename_i f args H1 hop
    obtain ⟨l', g1, g2, g3, g4⟩ := op_sound hE ht hp.wr (comp_of hio hop) hop
    subst g3
    unfold Oper.wp
    rw [g1]
    simp only [Oper.upon]
    split at h
    ·rename_i v H2 hcl
     split at h
     ·rename_i T1 hT
      refine (hcall f args _ _ hcl g4 K ρ w l' g2 hp.wr).mono fun e w' hq => ?_
      obtain ⟨ρ1, v', rfl, q1, q2⟩ := hq
      exact next v v' T1 H2 s.D ρ1 w' a hT h q1 q2 rfl (hD.mono q2.le)
     ·cases h
    ·rename_i v H2 hcl
     simp only [Option.some.injEq, Prod.mk.injEq] at h
     obtain ⟨rfl, rfl⟩ := h
     refine (hcall f args _ _ hcl g4 K ρ w l' g2 hp.wr).mono fun e w' hq => ?_
     obtain ⟨ρ1, v', rfl, q1, q2⟩ := hq
     exact ⟨ρ1, hp.trans q2, ht.mono q2.le, hn, hD.mono q2.le, _, rfl, q1⟩
    ·cases h
   ·rename_i v H1 hop
    simp only [Option.some.injEq, Prod.mk.injEq] at h
    obtain ⟨rfl, rfl⟩ := h
    obtain ⟨v', g1, g2, g3⟩ := op_sound hE ht hp.wr (comp_of hio hop) hop
    subst g3
    unfold Oper.wp
    rw [g1]
    exact ⟨ρ, hp, ht, hn, hD, _, rfl, g2⟩
   ·rename_i f args H1 hop
    split at h
    ·rename_i T1 hT
     obtain ⟨cap, da, g1, g2, g3, g4⟩ := op_sound hE ht hp.wr (comp_of hio hop) hop
     subst g3
     unfold Oper.wp
     rw [g1]
     exact next _ _ T1 _ _ ρ w { a with defers := ⟨.fn (.func f) cap, da⟩ :: a.defers } hT h (VR.undef ρ) (Post.refl hp.wr) rfl (.cons g4 g2 hD)
    ·cases h
   ·cases h
  ·rename_i hw1
   rw [wanted_sound ht hio.guard hw1]
   simp only [Bool.false_eq_true, if_false]
   split at h
   ·rename_i T1 hT
    exact next _ _ T1 _ _ ρ w a hT h (VR.undef ρ) (Post.refl hp.wr) rfl hD
   ·cases h
def codeOK (P : Program) (E : EnvD) : Code → ACode → Bool
 | _, .bad => true
 | .skip, .skip => true
 | .region _ ops d, .reg l => !d && regChk P E ops.toList ops.toList l
 | .region _ ops d, .drg l => d && dregChk P E ops.toList l
 | .seq a b, .seq a' b' => codeOK P E a a' && codeOK P E b b'
 | .cond c a b, .cond c' a' b' => eqO c c' && codeOK P E a a' && codeOK P E b b'
 | .block id a, .blk id' a' => Nat.beq id id' && codeOK P E a a'
 | .loop a, .loop a' => codeOK P E a a'
 | .exit id, .exit id' => Nat.beq id id'
 | .ret, .ret => true
 | _, _ => false
theorem CodePost.trans {ρ : Ren} {w : World} {H : AHeap} {x : AX} {s : St} {e : Exit} {a : Act} {w' : World} (hp : Post K ρ0 w0 ρ H w) (h : CodePost E n K ρ w x s e a w') : CodePost E n K ρ0 w0 x s e a w' := by
 obtain ⟨ρ', h1, h2⟩ := h
 exact ⟨ρ', hp.trans h1, h2⟩
theorem aexec_sound (hP : P.follows .mixedOrders = true) (hE : EnvOK P E) (hcall : CallOK P E call) {lf : Nat} : ∀ (ac : ACode) (c : Code) (s s' : St) (x : AX) (ρ : Ren) (a : Act) (w : World),
  codeOK P E c ac = true → aexec call E n lf ac s = some (x, s') → Post K ρ0 w0 ρ s.H w → TR ρ s.T a.tmps → a.tmps.size = n → DR E ρ s.D a.defers → c.wp P (CodePost E n K ρ0 w0 x s') a w := by
 intro ac
 induction ac with
 | bad => intro c s s' x ρ a w _ h; simp [aexec] at h
 | skip =>
  intro c s s' x ρ a w hc h hp ht hn hD
  cases c <;> simp [codeOK] at hc
  simp only [aexec, Option.some.injEq, Prod.mk.injEq] at h
  obtain ⟨rfl, rfl⟩ := h
  exact wp_skip ⟨ρ, hp, ht, hn, hD, rfl⟩
 | ret =>
  intro c s s' x ρ a w hc h hp ht hn hD
  cases c <;> simp [codeOK] at hc
  simp only [aexec, Option.some.injEq, Prod.mk.injEq] at h
  obtain ⟨rfl, rfl⟩ := h
  exact wp_ret ⟨ρ, hp, ht, hn, hD, rfl⟩
 | exit id =>
  intro c s s' x ρ a w hc h hp ht hn hD
  cases c <;> simp only [codeOK, Bool.false_eq_true] at hc
  have := Nat.eq_of_beq_eq_true hc
  subst this
  simp only [aexec, Option.some.injEq, Prod.mk.injEq] at h
  obtain ⟨rfl, rfl⟩ := h
  exact wp_exit ⟨ρ, hp, ht, hn, hD, rfl⟩
 | reg l =>
  intro c s s' x ρ a w hc h hp ht hn hD
  cases c <;> simp only [codeOK, Bool.false_eq_true] at hc
  rename_i id ops d
  simp only [Bool.and_eq_true, Bool.not_eq_true'] at hc
  obtain ⟨rfl, hc⟩ := hc
  refine wp_region ?_
  have := aitems_sound hE hcall l ops.toList 0 s ρ a w hc (fun i o hi => by simpa using hi) h hp ht hn hD
  rw [Array.length_toList] at this
  rw [List.range_eq_range']
  exact this
 | drg l =>
  intro c s s' x ρ a w hc h hp ht hn hD
  cases c <;> simp only [codeOK, Bool.false_eq_true] at hc
  rename_i id ops d
  simp only [Bool.and_eq_true] at hc
  obtain ⟨rfl, hc⟩ := hc
  exact Code.wp_mono (fun e a' w' hq => CodePost.trans hp hq) (dreg_sound hP hE hcall (dregChk_sound hc) h ht hn hp.wr hD id)
 | seq p q ih1 ih2 =>
  intro c s s' x ρ a w hc h hp ht hn hD
  cases c <;> simp only [codeOK, Bool.false_eq_true] at hc
  simp only [Bool.and_eq_true] at hc
  refine wp_seq ?_
  simp only [aexec] at h
  split at h
  ·rename_i s1 h1
   refine Code.wp_mono ?_ (ih1 _ s s1 .normal ρ a w hc.1 h1 hp ht hn hD)
   rintro e a1 w1 ⟨ρ1, q1, q2, q3, q4, rfl⟩
   exact ih2 _ s1 s' x ρ1 a1 w1 hc.2 h q1 q2 q3 q4
  ·rename_i r hne
   refine Code.wp_mono ?_ (ih1 _ s s' x ρ a w hc.1 h hp ht hn hD)
   rintro e a1 w1 ⟨ρ1, q1, q2, q3, q4, q5⟩
   cases x with
   | normal => exact absurd h (hne s')
   | exit id => cases q5; exact ⟨ρ1, q1, q2, q3, q4, rfl⟩
   | ret => cases q5; exact ⟨ρ1, q1, q2, q3, q4, rfl⟩
   | panic v => obtain ⟨u, rfl, q6⟩ := q5; exact ⟨ρ1, q1, q2, q3, q4, u, rfl, q6⟩
 | cond o p q ih1 ih2 =>
  intro c s s' x ρ a w hc h hp ht hn hD
  cases c <;> simp only [codeOK, Bool.false_eq_true] at hc
  simp only [Bool.and_eq_true] at hc
  have := eqO_sound hc.1.1
  subst this
  simp only [aexec] at h
  split at h
  ·rename_i hv
   exact wp_cond (t := true) (aev_sound ht hv).bool_inv (ih1 _ s s' x ρ a w hc.1.2 h hp ht hn hD)
  ·rename_i hv
   exact wp_cond (t := false) (aev_sound ht hv).bool_inv (ih2 _ s s' x ρ a w hc.2 h hp ht hn hD)
  ·cases h
 | blk id p ih =>
  intro c s s' x ρ a w hc h hp ht hn hD
  cases c <;> simp only [codeOK, Bool.false_eq_true] at hc
  simp only [Bool.and_eq_true] at hc
  have := Nat.eq_of_beq_eq_true hc.1
  subst this
  refine wp_block ?_
  simp only [aexec] at h
  split at h
  ·rename_i i s1 h1
   refine Code.wp_mono ?_ (ih _ s s1 (.exit i) ρ a w hc.2 h1 hp ht hn hD)
   rintro e a1 w1 ⟨ρ1, q1, q2, q3, q4, rfl⟩
   split at h
   ·rename_i e
    subst e
    simp only [Option.some.injEq, Prod.mk.injEq] at h
    obtain ⟨rfl, rfl⟩ := h
    simp only [Exit.inBlock, if_true]
    exact ⟨ρ1, q1, q2, q3, q4, rfl⟩
   ·rename_i e
    simp only [Option.some.injEq, Prod.mk.injEq] at h
    obtain ⟨rfl, rfl⟩ := h
    simp only [Exit.inBlock, if_neg e]
    exact ⟨ρ1, q1, q2, q3, q4, rfl⟩
  ·rename_i r hne
   refine Code.wp_mono ?_ (ih _ s s' x ρ a w hc.2 h hp ht hn hD)
   rintro e a1 w1 ⟨ρ1, q1, q2, q3, q4, q5⟩
   cases x with
   | normal => cases q5; exact ⟨ρ1, q1, q2, q3, q4, rfl⟩
   | exit id => exact absurd h (hne _ _)
   | ret => cases q5; exact ⟨ρ1, q1, q2, q3, q4, rfl⟩
   | panic v => obtain ⟨u, rfl, q6⟩ := q5; exact ⟨ρ1, q1, q2, q3, q4, u, rfl, q6⟩
 | loop p ih =>
  intro c s s' x ρ a w hc h hp ht hn hD
  cases c <;> simp only [codeOK, Bool.false_eq_true] at hc
  rename_i body
  simp only [aexec] at h
  refine wp_loop_rounds lf ?_
  suffices ∀ m s ρ a w, aiter (aexec call E n lf p) m s = some (x, s') → Post K ρ0 w0 ρ s.H w → TR ρ s.T a.tmps → a.tmps.size = n → DR E ρ s.D a.defers → Code.rounds P body (CodePost E n K ρ0 w0 x s') m a w from this lf s ρ a w h hp ht hn hD
  intro m
  induction m with
  | zero => intro s ρ a w h; simp [aiter] at h
  | succ m ihm =>
   intro s ρ a w h hp ht hn hD
   rw [rounds_succ]
   simp only [aiter] at h
   split at h
   ·rename_i s1 h1
    refine Code.wp_mono ?_ (ih _ s s1 .normal ρ a w hc h1 hp ht hn hD)
    rintro e a1 w1 ⟨ρ1, q1, q2, q3, q4, rfl⟩
    exact ihm s1 ρ1 a1 w1 h q1 q2 q3 q4
   ·rename_i r hne
    refine Code.wp_mono ?_ (ih _ s s' x ρ a w hc h hp ht hn hD)
    rintro e a1 w1 ⟨ρ1, q1, q2, q3, q4, q5⟩
    cases x with
    | normal => exact absurd h (hne s')
    | exit id => cases q5; exact ⟨ρ1, q1, q2, q3, q4, rfl⟩
    | ret => cases q5; exact ⟨ρ1, q1, q2, q3, q4, rfl⟩
    | panic v => obtain ⟨u, rfl, q6⟩ := q5; exact ⟨ρ1, q1, q2, q3, q4, u, rfl, q6⟩
def resChk (P : Program) : List ResultVar → List ARes → Bool
 | [], [] => true
 | .tmp t :: l, .tmp t' :: m => Nat.beq t t' && resChk P l m
 | .cell a t :: l, .cell a' g s :: m => Nat.beq a a' && (match isAggT P t, csize P t with
  | some g', some s' => g == g' && Nat.beq s s'
  | _, _ => false) && resChk P l m
 | _, _ => false
theorem run_mapM_results {tmps : Array Value} {w : World} {ρ : Ren} {T : Tmps} {H : AHeap} (ht : TR ρ T tmps) (hw : WR K ρ H w) {f : ResultVar → Sem Value}
  (hf1 : ∀ t, f (.tmp t) = pure (tmps.getD t undef)) (hf2 : ∀ a t, f (.cell a t) = (asAddr (tmps.getD a undef) >>= fun q => loadVar t q)) :
  ∀ (l : List ResultVar) (m : List ARes) (vs : List AVal), resChk P l m = true → aresL T H m = some vs → ∃ vs', (l.mapM f).run P w = .ok vs' w ∧ vs'.length = vs.length ∧ ∀ (i : Nat) x v, vs[i]? = some x → vs'[i]? = some v → VR ρ x v
 | [], [], vs, _, h => by
  simp only [aresL, Option.some.injEq] at h
  subst h
  exact ⟨[], by simp, rfl, by intro i x v h; simp at h⟩
 | .tmp t :: l, .tmp t' :: m, vs, hc, h => by
  simp only [resChk, Bool.and_eq_true] at hc
  have := Nat.eq_of_beq_eq_true hc.1
  subst this
  simp only [aresL, ares1] at h
  split at h
  ·rename_i vs1 h1
   simp only [Option.some.injEq] at h
   subst h
   obtain ⟨vs', e1, e2, e3⟩ := run_mapM_results ht hw hf1 hf2 l m vs1 hc.2 h1
   refine ⟨tmps.getD t undef :: vs', ?_, by simp [e2], ?_⟩
   ·simp only [List.mapM_cons, hf1, Sem.run_bind, Sem.run_pure, Result.andThen_ok, e1]
   ·intro i x v h1 h2
    cases i with
    | zero => simp at h1 h2; subst h1 h2; have := ht t; rwa [Array.getD_eq_getD_getElem?] at this
    | succ i => exact e3 i x v (by simpa using h1) (by simpa using h2)
  ·cases h
 | .cell a t :: l, .cell a' g s :: m, vs, hc, h => by
  simp only [resChk, Bool.and_eq_true] at hc
  obtain ⟨⟨c1, c2⟩, c3⟩ := hc
  have := Nat.eq_of_beq_eq_true c1
  subst this
  split at c2
  ·rename_i g' s' hg hs
   simp only [Bool.and_eq_true, beq_iff_eq] at c2
   obtain ⟨rfl, c2⟩ := c2
   have := Nat.eq_of_beq_eq_true c2
   subst this
   simp only [aresL] at h
   split at h
   ·rename_i v hv
    split at h
    ·rename_i vs1 h1
     simp only [Option.some.injEq] at h
     subst h
     obtain ⟨vs', e1, e2, e3⟩ := run_mapM_results ht hw hf1 hf2 l m vs1 c3 h1
     simp only [ares1] at hv
     split at hv
     ·rename_i i o hp
      have hpt := ht a
      rw [hp] at hpt
      obtain ⟨lo, hlo, hpe⟩ := hpt.ptr_inv
      have key : ∃ u, (loadVar t ⟨lo.blk, lo.off + o, none⟩).run P w = .ok u w ∧ VR ρ v u := by
       cases g with
       | true =>
        simp only [if_true] at hv
        split at hv
        ·rename_i c hc
         simp only [Option.some.injEq] at hv
         subst hv
         obtain ⟨cs, r1, r2, r3, r4⟩ := hw.loadN hc hlo P
         refine ⟨.agg cs, ?_, RR.agg (by omega) r4⟩
         simp only [loadVar, Sem.run_bind, run_agg hg, Result.andThen_ok, if_true, run_size hs, r1, Sem.run_pure]
        ·cases hv
       | false =>
        simp only [Bool.false_eq_true, if_false] at hv
        obtain ⟨u, r1, r2⟩ := hw.cell hv hlo
        refine ⟨u, ?_, r2⟩
        simp only [loadVar, Sem.run_bind, run_agg hg, Result.andThen_ok, Bool.false_eq_true, if_false, run_load, r1]
      obtain ⟨u, k1, k2⟩ := key
      refine ⟨u :: vs', ?_, by simp [e2], ?_⟩
      ·simp only [List.mapM_cons, hf2, Sem.run_bind, hpe, asAddr, Sem.run_pure, Result.andThen_ok, k1, e1]
      ·intro i x v h1 h2
       cases i with
       | zero => simp at h1 h2; subst h1 h2; exact k2
       | succ i => exact e3 i x v (by simpa using h1) (by simpa using h2)
     ·cases hv
    ·cases h
   ·cases h
  ·cases c2
 | [], _ :: _, _, h, _ => by simp [resChk] at h
 | .tmp _ :: _, .cell _ _ _ :: _, _, h, _ => by simp [resChk] at h
 | .cell _ _ :: _, .tmp _ :: _, _, h, _ => by simp [resChk] at h
 | .tmp _ :: _, [], _, h, _ => by simp [resChk] at h
 | .cell _ _ :: _, [], _, h, _ => by simp [resChk] at h
theorem results_sound {fn : Func} {tmps : Array Value} {w : World} {ρ : Ren} {T : Tmps} {H : AHeap} {res : List ARes} {v : AVal} (ht : TR ρ T tmps) (hw : WR K ρ H w) (hc : resChk P fn.results.toList res = true) (h : aresults T H res = some v) :
  ∃ u, (results fn tmps).run P w = .ok u w ∧ VR ρ v u := by
 have hm : ∀ vs, aresL T H res = some vs → ∃ vs' : List Value, (results fn tmps).run P w = .ok (if h : vs'.toArray.size = 1 then vs'.toArray[0] else .tuple vs'.toArray) w ∧ LR ρ vs vs'.toArray := by
  intro vs hvs
  have key : ∀ (f : ResultVar → Sem Value), (∀ t, f (.tmp t) = pure (tmps.getD t undef)) → (∀ a t, f (.cell a t) = (asAddr (tmps.getD a undef) >>= fun q => loadVar t q)) →
    ∃ vs' : List Value, ((fn.results.mapM f) >>= fun vs => pure (if h : vs.size = 1 then vs[0] else Value.tuple vs)).run P w = .ok (if h : vs'.toArray.size = 1 then vs'.toArray[0] else .tuple vs'.toArray) w ∧ LR ρ vs vs'.toArray := by
   intro f hf1 hf2
   obtain ⟨vs', e1, e2, e3⟩ := run_mapM_results (P := P) ht hw hf1 hf2 fn.results.toList res vs hc hvs
   refine ⟨vs', ?_, by simp [e2], fun i x v h1 h2 => e3 i x v h1 (by simpa using h2)⟩
   rw [Sem.run_bind, Array.mapM_eq_mapM_toList, Sem.run_map, e1]
   rfl
  unfold results
  exact key _ (fun _ => rfl) (fun _ _ => rfl)
 unfold aresults at h
 split at h
 ·rename_i x hx
  simp only [Option.some.injEq] at h
  subst h
  obtain ⟨vs', e1, e2, e3⟩ := hm _ hx
  have hs : vs'.toArray.size = 1 := e2
  rw [dif_pos hs] at e1
  exact ⟨_, e1, e3 0 _ _ rfl (by simp)⟩
 ·rename_i vs hne hx
  simp only [Option.some.injEq] at h
  subst h
  obtain ⟨vs', e1, e2⟩ := hm _ hx
  have hs : ¬ vs'.toArray.size = 1 := by
   intro hs
   have := e2.1
   rw [hs] at this
   match vs, this with
   | [x], _ => exact hne x rfl
  rw [dif_neg hs] at e1
  exact ⟨_, e1, .tup e2.1 e2.2⟩
 ·cases h
end
end Go.Sim
end
section
namespace Go.Sim
variable [RO]
def funcChk (P : Program) (E : EnvD) (fn : Func) (af : AFunc) : Bool :=
 Nat.beq fn.ntmps af.n && !(decide (fn.name = "runtime.NumGoroutine")) && resChk P fn.results.toList af.res && (match fn.body with
  | some c => codeOK P E c af.body
  | none => false)
structure FuncOK (P : Program) (E : EnvD) (f : FuncId) (fn : Func) (c : Code) (af : AFunc) : Prop where
 func : P.funcs[f]? = some fn
 body : fn.body = some c
 n : fn.ntmps = af.n
 name : fn.name ≠ "runtime.NumGoroutine"
 res : resChk P fn.results.toList af.res = true
 code : codeOK P E c af.body = true
theorem funcChk_sound {P : Program} {E : EnvD} {f : FuncId} {fn : Func} {af : AFunc} (hf : P.funcs[f]? = some fn) (h : funcChk P E fn af = true) : ∃ c, FuncOK P E f fn c af := by
 simp only [funcChk, Bool.and_eq_true] at h
 obtain ⟨⟨⟨h1, h0⟩, h2⟩, h3⟩ := h
 split at h3
 ·rename_i c hc
  exact ⟨c, hf, hc, Nat.eq_of_beq_eq_true h1, by simpa using h0, h2, h3⟩
 ·cases h3
def CodesOK (P : Program) (E : EnvD) (C : FuncId → Option AFunc) : Prop := ∀ f af, C f = some af → ∃ fn c, FuncOK P E f fn c af
def ModeR (ρ : Ren) (m : Option AVal) (u : FrameMode) : Prop :=
 match m with
 | none => u = .returning ∨ ∃ v, u = .panicking [{ v, recovered := true }]
 | some x => ∃ v, u = .panicking [{ v, recovered := false }] ∧ VR ρ x v
theorem ModeR.mono {ρ ρ' : Ren} (hl : ρ.le ρ') {m : Option AVal} {u : FrameMode} (h : ModeR ρ m u) : ModeR ρ' m u := by
 unfold ModeR at h ⊢
 split
 ·exact h
 ·obtain ⟨v, h1, h2⟩ := h; exact ⟨v, h1, h2.mono hl⟩
section
variable {P : Program} {E : EnvD} {call : CallF} {n : Nat} {K : Nat → Prop} {ρ0 : Ren} {w0 : World}
theorem tinit_get : ∀ (l : List AVal) (k t : Nat), tget (tinit l k) t = if k ≤ t ∧ t < k + l.length then (l[t - k]?).getD AVal.undef else AVal.undef
 | [], k, t => by simp [tinit, tget, Trie.get_leaf]
 | v :: l, k, t => by
  have ih := tinit_get l (k + 1) t
  unfold tget at ih ⊢
  simp only [tinit]
  rw [Trie.get_set]
  by_cases e : k = t
  ·subst e; simp
  ·simp only [e, if_false]
   rw [ih]
   by_cases e2 : k + 1 ≤ t ∧ t < k + 1 + l.length
   ·rw [if_pos e2, if_pos (by simp; omega), show t - k = (t - (k + 1)) + 1 by omega]
    simp
   ·rw [if_neg e2, if_neg (by simp; omega)]
theorem tinit_sound {ρ : Ren} {l : List AVal} {l' : Array Value} (h : LR ρ l l') (m : Nat) : TR ρ (tinit l 0) (l' ++ Array.replicate m Go.undef) := by
 intro t
 rw [tinit_get, Array.getD_eq_getD_getElem?, Array.getElem?_append]
 by_cases e : t < l.length
 ·rw [if_pos (by omega), if_pos (by rw [h.1]; exact e)]
  have e' : t < l'.size := by rw [h.1]; exact e
  have := h.2 t l[t] l'[t] (by simp [e]) (by simp [e'])
  simpa [e, e'] using this
 ·rw [if_neg (by omega), if_neg (by rw [h.1]; exact e)]
  have : ((Array.replicate m Go.undef)[t - l'.size]?).getD Go.undef = Go.undef := by
   rw [Array.getElem?_replicate]; split <;> rfl
  rw [this]
  exact VR.undef ρ
def CodePostS (E : EnvD) (n : Nat) (K : Nat → Prop) (ρ0 : Ren) (w0 : World) (c0 : Frame) (cs0 : List Frame) (x : AX) (s : St) (m : Option AVal) (e : Exit) (a : Act) (cs : List Frame) (w' : World) : Prop :=
 ∃ u ρ', cs = { c0 with mode := u } :: cs0 ∧ ModeR ρ' m u ∧ Post K ρ0 w0 ρ' s.H w' ∧ TR ρ' s.T a.tmps ∧ a.tmps.size = n ∧ DR E ρ' s.D a.defers ∧ AXR ρ' x e
theorem recoverD_of {ρ : Ren} {m : Option AVal} {u : FrameMode} (c0 : Frame) (cs0 : List Frame) (h : ModeR ρ m u) :
  match m with
  | none => recoverD ({ c0 with mode := u } :: cs0) = none
  | some x => ∃ v u', recoverD ({ c0 with mode := u } :: cs0) = some (v, { c0 with mode := u' } :: cs0) ∧ VR ρ x v ∧ ModeR ρ none u' := by
 unfold ModeR at h
 split at h
 ·rcases h with rfl | ⟨v, rfl⟩ <;> rfl
 ·obtain ⟨v, rfl, h2⟩ := h
  exact ⟨v, .panicking [{ v, recovered := true }], rfl, h2, .inr ⟨v, rfl⟩⟩
theorem aitemsS_sound (hE : EnvOK P E) (hcall : CallOK P E call) {ops : Array Oper} {x : AX} {s' : St} {m' : Option AVal} (c0 : Frame) (cs0 : List Frame) : ∀ (its : List AItem) (os : List Oper) (k : Nat) (s : St) (m : Option AVal) (ρ : Ren) (a : Act) (u : FrameMode) (w : World),
  regChk P E ops.toList os its = true → (∀ (i : Nat) o, os[i]? = some o → ops[k + i]? = some o) → aitemsS call E n its m s = some (x, s', m') → ModeR ρ m u → Post K ρ0 w0 ρ s.H w → TR ρ s.T a.tmps → a.tmps.size = n → DR E ρ s.D a.defers →
  wpOpsS P ops (CodePostS E n K ρ0 w0 c0 cs0 x s' m') (List.range' k os.length) a ({ c0 with mode := u } :: cs0) w
 | [], [], k, s, m, ρ, a, u, w, _, _, h, hm, hp, ht, hn, hD => by
  simp only [aitemsS, Option.some.injEq, Prod.mk.injEq] at h
  obtain ⟨rfl, rfl, rfl⟩ := h
  exact ⟨u, ρ, rfl, hm, hp, ht, hn, hD, rfl⟩
 | [], _ :: _, _, _, _, _, _, _, _, h, _, _, _, _, _, _, _ => by simp [regChk] at h
 | _ :: _, [], _, _, _, _, _, _, _, h, _, _, _, _, _, _, _ => by simp [regChk] at h
 | it :: its, o :: os, k, s, m, ρ, a, u, w, hc, hops, h, hm, hp, ht, hn, hD => by
  simp only [regChk, Bool.and_eq_true] at hc
  have hio := itemChk_sound hc.1
  have ho : ops[k]? = some o := hops 0 o rfl
  have hops' : ∀ (i : Nat) o', os[i]? = some o' → ops[k + 1 + i]? = some o' := by
   intro i o' hi
   have := hops (i + 1) o' (by simpa using hi)
   rwa [show k + 1 + i = k + (i + 1) by omega]
  have next : ∀ (v : AVal) (u1 : Value) (T : Tmps) (H : AHeap) (D : List (FuncId × List AVal)) (ρ1 : Ren) (w1 : World) (a1 : Act) (m1 : Option AVal) (md : FrameMode), tput n it.dst v s.T = some T → aitemsS call E n its m1 ⟨T, H, D⟩ = some (x, s', m') → ModeR ρ1 m1 md → VR ρ1 v u1 → Post K ρ w ρ1 H w1 →
    a1.tmps = a.tmps → DR E ρ1 D a1.defers → wpOpsS P ops (CodePostS E n K ρ0 w0 c0 cs0 x s' m') (List.range' (k + 1) os.length) (a1.put o.dst u1) ({ c0 with mode := md } :: cs0) w1 := by
   intro v u1 T H D ρ1 w1 a1 m1 md h1 h2 h2' h3 h4 h5 h6
   rw [hio.dst]
   obtain ⟨p1, p2, p3⟩ := tput_sound (a := a1) (by rw [h5]; exact ht.mono h4.le) (by rw [h5]; exact hn) h1 h3
   exact aitemsS_sound hE hcall c0 cs0 its os (k + 1) ⟨T, H, D⟩ m1 ρ1 _ md w1 hc.2 hops' h2 h2' (hp.trans h4) p1 p2 (by rw [p3]; exact h6)
  rw [List.length_cons, List.range'_succ]
  simp only [wpOpsS, ho]
  simp only [aitemsS] at h
  split at h
  ·cases h
  ·rename_i hw1
   rw [wanted_sound ht hio.guard hw1]
   simp only [if_true]
   split at h
   ·rename_i v H1 hop
    split at h
    ·rename_i T1 hT
     obtain ⟨ρ1, v', w1, g1, g2, g3⟩ := op_sound hE ht hp.wr (comp_of hio hop) hop
     rcases g1 with g1 | ⟨g1, rfl⟩
     ·rw [g1]
      exact next v v' T1 H1 s.D ρ1 w1 a m u hT h (hm.mono g3.le) g2 g3 rfl (hD.mono g3.le)
     ·rw [g1]
      exact next v _ T1 H1 s.D ρ1 w1 a m u hT h (hm.mono g3.le) g2 g3 rfl (hD.mono g3.le)
    ·cases h
   ·rename_i f args H1 hop
    obtain ⟨l', g1, g2, g3, g4⟩ := op_sound hE ht hp.wr (comp_of hio hop) hop
    subst g3
    rw [g1]
    simp only [Oper.upon]
    split at h
    ·rename_i v H2 hcl
     split at h
     ·rename_i T1 hT
      refine (hcall f args _ _ hcl g4 K ρ w l' g2 hp.wr).mono fun e w' hq => ?_
      obtain ⟨ρ1, v', rfl, q1, q2⟩ := hq
      exact next v v' T1 H2 s.D ρ1 w' a m u hT h (hm.mono q2.le) q1 q2 rfl (hD.mono q2.le)
     ·cases h
    ·rename_i v H2 hcl
     simp only [Option.some.injEq, Prod.mk.injEq] at h
     obtain ⟨rfl, rfl, rfl⟩ := h
     refine (hcall f args _ _ hcl g4 K ρ w l' g2 hp.wr).mono fun e w' hq => ?_
     obtain ⟨ρ1, v', rfl, q1, q2⟩ := hq
     exact ⟨u, ρ1, rfl, hm.mono q2.le, hp.trans q2, ht.mono q2.le, hn, hD.mono q2.le, _, rfl, q1⟩
    ·cases h
   ·rename_i v H1 hop
    simp only [Option.some.injEq, Prod.mk.injEq] at h
    obtain ⟨rfl, rfl, rfl⟩ := h
    obtain ⟨v', g1, g2, g3⟩ := op_sound hE ht hp.wr (comp_of hio hop) hop
    subst g3
    rw [g1]
    exact ⟨u, ρ, rfl, hm, hp, ht, hn, hD, _, rfl, g2⟩
   ·rename_i H1 hop
    obtain ⟨g1, g2⟩ := op_sound hE ht hp.wr (comp_of hio hop) hop
    subst g2
    rw [g1]
    simp only
    split at h
    ·rename_i T1 hT
     have hrec := recoverD_of c0 cs0 hm
     cases m with
     | none =>
      simp only at hrec
      rw [hrec]
      exact next _ .nilIface T1 _ s.D ρ w a none u hT h hm .nilIface (Post.refl hp.wr) rfl hD
     | some y =>
      obtain ⟨v, u', h1, h2, h3⟩ := hrec
      rw [h1]
      exact next _ v T1 _ s.D ρ w a none u' hT h h3 h2 (Post.refl hp.wr) rfl hD
    ·cases h
   ·cases h
  ·rename_i hw1
   rw [wanted_sound ht hio.guard hw1]
   simp only [Bool.false_eq_true, if_false]
   split at h
   ·rename_i T1 hT
    exact next _ _ T1 _ _ ρ w a m u hT h hm (VR.undef ρ) (Post.refl hp.wr) rfl hD
   ·cases h
theorem aexecS_sound (hP : P.follows .mixedOrders = true) (hE : EnvOK P E) (hcall : CallOK P E call) {lf : Nat} (c0 : Frame) (cs0 : List Frame) : ∀ (ac : ACode) (c : Code) (s s' : St) (x : AX) (m m' : Option AVal) (ρ : Ren) (a : Act) (u : FrameMode) (w : World),
  codeOK P E c ac = true → aexecS call E n lf ac m s = some (x, s', m') → ModeR ρ m u → Post K ρ0 w0 ρ s.H w → TR ρ s.T a.tmps → a.tmps.size = n → DR E ρ s.D a.defers → c.wpS P (CodePostS E n K ρ0 w0 c0 cs0 x s' m') a ({ c0 with mode := u } :: cs0) w := by
 intro ac
 have plain : ∀ (ac : ACode) (c : Code) (s s' : St) (x : AX) (m m' : Option AVal) (ρ : Ren) (a : Act) (u : FrameMode) (w : World), codeOK P E c ac = true → (match aexec call E n lf ac s with
  | some (x, s') => some (x, s', m)
  | none => none) = some (x, s', m') → ModeR ρ m u → Post K ρ0 w0 ρ s.H w → TR ρ s.T a.tmps → a.tmps.size = n → DR E ρ s.D a.defers → c.wpS P (CodePostS E n K ρ0 w0 c0 cs0 x s' m') a ({ c0 with mode := u } :: cs0) w := by
  intro ac c s s' x m m' ρ a u w hc h hm hp ht hn hD
  split at h
  ·rename_i x1 s1 h1
   simp only [Option.some.injEq, Prod.mk.injEq] at h
   obtain ⟨rfl, rfl, rfl⟩ := h
   refine wpS_of_wp ?_
   refine Code.wp_mono ?_ (aexec_sound hP hE hcall ac c s _ _ ρ a w hc h1 (Post.refl hp.wr) ht hn hD)
   rintro e a1 w1 ⟨ρ1, q1, q2, q3, q4, q5⟩
   exact ⟨u, ρ1, rfl, hm.mono q1.le, hp.trans q1, q2, q3, q4, q5⟩
  ·cases h
 induction ac with
 | reg l =>
  intro c s s' x m m' ρ a u w hc h hm hp ht hn hD
  cases c <;> simp only [codeOK, Bool.false_eq_true] at hc
  rename_i id ops d
  simp only [Bool.and_eq_true, Bool.not_eq_true'] at hc
  obtain ⟨rfl, hc⟩ := hc
  refine wpS_region ?_
  have := aitemsS_sound hE hcall c0 cs0 l ops.toList 0 s m ρ a u w hc (fun i o hi => by simpa using hi) h hm hp ht hn hD
  rw [Array.length_toList] at this
  rw [List.range_eq_range']
  exact this
 | seq p q ih1 ih2 =>
  intro c s s' x m m' ρ a u w hc h hm hp ht hn hD
  cases c <;> simp only [codeOK, Bool.false_eq_true] at hc
  simp only [Bool.and_eq_true] at hc
  refine wpS_seq ?_
  simp only [aexecS] at h
  have mono : ∀ {c : Code} {Q Q' : Exit → Act → List Frame → World → Prop} {a : Act} {cs : List Frame} {w : World}, (∀ e a cs w, Q e a cs w → Q' e a cs w) → c.wpS P Q a cs w → c.wpS P Q' a cs w :=
   fun hq h b k hb hr => let ⟨e, a', cs', w', q, arr⟩ := h b k hb hr; ⟨e, a', cs', w', hq _ _ _ _ q, arr⟩
  split at h
  ·rename_i s1 m1 h1
   refine mono ?_ (ih1 _ s s1 .normal m m1 ρ a u w hc.1 h1 hm hp ht hn hD)
   rintro e a1 cs1 w1 ⟨u1, ρ1, rfl, q0, q1, q2, q3, q4, rfl⟩
   exact ih2 _ s1 s' x m1 m' ρ1 a1 u1 w1 hc.2 h q0 q1 q2 q3 q4
  ·rename_i r hne
   refine mono ?_ (ih1 _ s s' x m m' ρ a u w hc.1 h hm hp ht hn hD)
   rintro e a1 cs1 w1 ⟨u1, ρ1, rfl, q0, q1, q2, q3, q4, q5⟩
   cases x with
   | normal => exact absurd h (hne s' m')
   | exit id => cases q5; exact ⟨u1, ρ1, rfl, q0, q1, q2, q3, q4, rfl⟩
   | ret => cases q5; exact ⟨u1, ρ1, rfl, q0, q1, q2, q3, q4, rfl⟩
   | panic v => obtain ⟨y, rfl, q6⟩ := q5; exact ⟨u1, ρ1, rfl, q0, q1, q2, q3, q4, y, rfl, q6⟩
 | cond o p q ih1 ih2 =>
  intro c s s' x m m' ρ a u w hc h hm hp ht hn hD
  cases c <;> simp only [codeOK, Bool.false_eq_true] at hc
  simp only [Bool.and_eq_true] at hc
  have := eqO_sound hc.1.1
  subst this
  simp only [aexecS] at h
  split at h
  ·rename_i hv
   exact wpS_cond (t := true) (aev_sound ht hv).bool_inv (ih1 _ s s' x m m' ρ a u w hc.1.2 h hm hp ht hn hD)
  ·rename_i hv
   exact wpS_cond (t := false) (aev_sound ht hv).bool_inv (ih2 _ s s' x m m' ρ a u w hc.2 h hm hp ht hn hD)
  ·cases h
 | skip => intro c s s' x m m' ρ a u w hc h; exact plain _ c s s' x m m' ρ a u w hc h
 | drg l => intro c s s' x m m' ρ a u w hc h; exact plain _ c s s' x m m' ρ a u w hc h
 | blk id p _ => intro c s s' x m m' ρ a u w hc h; exact plain _ c s s' x m m' ρ a u w hc h
 | loop p _ => intro c s s' x m m' ρ a u w hc h; exact plain _ c s s' x m m' ρ a u w hc h
 | exit id => intro c s s' x m m' ρ a u w hc h; exact plain _ c s s' x m m' ρ a u w hc h
 | ret => intro c s s' x m m' ρ a u w hc h; exact plain _ c s s' x m m' ρ a u w hc h
 | bad => intro c s s' x m m' ρ a u w hc h; exact plain _ c s s' x m m' ρ a u w hc h
theorem settle_mode {ρ : Ren} {m : Option AVal} {u : FrameMode} (h : ModeR ρ m u) : (m = none ∧ settle u = .returning) ∨ ∃ x v, m = some x ∧ settle u = .panicking [{ v, recovered := false }] ∧ VR ρ x v := by
 unfold ModeR at h
 split at h
 ·rcases h with rfl | ⟨v, rfl⟩
  ·exact .inl ⟨rfl, rfl⟩
  ·exact .inl ⟨rfl, rfl⟩
 ·obtain ⟨v, rfl, h2⟩ := h
  exact .inr ⟨_, v, rfl, rfl, h2⟩
theorem acallD_sound (hP : P.follows .mixedOrders = true) (hE : EnvOK P E) (hcall : CallOK P E call) {C : FuncId → Option AFunc} (hC : CodesOK P E C) {lf : Nat} {f : FuncId} {args : List AVal} {args' : Array Value} {m m' : Option AVal} {ρ : Ren} {u : FrameMode} {H H' : AHeap} {w : World}
  (h : acallD call C E lf f args m H = some (m', H')) (hl : LR ρ args args') (hm : ModeR ρ m u) (hp : Post K ρ0 w0 ρ H w) :
  CallsD P f args' u w fun e u' w' => ∃ ρ' v, e = .returned v ∧ ModeR ρ' m' u' ∧ Post K ρ w ρ' H' w' := by
 unfold acallD at h
 split at h
 ·rename_i af haf
  obtain ⟨fn, c, hfc⟩ := hC f af haf
  split at h
  ·rename_i hle
   refine callsD_of_wpS hfc.func hfc.body fun c₀ cs hu => ?_
   have hc0 : ({ c₀ with mode := u } : Frame) = c₀ := by subst hu; rfl
   have hT0 : TR ρ (tinit args 0) (args' ++ Array.replicate (fn.ntmps - args'.size) Go.undef) := tinit_sound hl _
   have hsz : (args' ++ Array.replicate (fn.ntmps - args'.size) Go.undef).size = af.n := by
    rw [Array.size_append, Array.size_replicate, hl.1, hfc.n]; omega
   have key : ∀ (x : AX) (s : St) (m1 : Option AVal), (x = .normal ∨ x = .ret) → aexecS call E af.n lf af.body m ⟨tinit args 0, H, []⟩ = some (x, s, m1) → (match s.D, aresults s.T s.H af.res with
     | [], some _ => some (m1, s.H)
     | _, _ => none) = some (m', H') → c.wpS P (bodyPostS P fn c₀ cs fun e u' w' => ∃ ρ' v, e = .returned v ∧ ModeR ρ' m' u' ∧ Post K ρ w ρ' H' w') { tmps := args' ++ Array.replicate (fn.ntmps - args'.size) Go.undef, defers := [] } (c₀ :: cs) w := by
    intro x s m1 hx h1 h2
    split at h2
    ·rename_i v hsD hres
     simp only [Option.some.injEq, Prod.mk.injEq] at h2
     obtain ⟨rfl, rfl⟩ := h2
     have := aexecS_sound (K := K) (ρ0 := ρ) (w0 := w) hP hE hcall c₀ cs af.body c ⟨tinit args 0, H, []⟩ s x m m1 ρ { tmps := args' ++ Array.replicate (fn.ntmps - args'.size) Go.undef, defers := [] } u w hfc.code h1 hm (Post.refl hp.wr) hT0 hsz .nil
     rw [hc0] at this
     intro b k hb hr
     obtain ⟨e, a1, cs1, w1, hq, harr⟩ := this b k hb hr
     refine ⟨e, a1, cs1, w1, ?_, harr⟩
     obtain ⟨u1, ρ1, rfl, q0, q1, q2, q3, q4, q5⟩ := hq
     obtain ⟨y, r1, r2⟩ := results_sound (P := P) (fn := fn) q2 q1.wr hfc.res hres
     rw [hsD] at q4
     have hd : a1.defers = [] := by
      generalize a1.defers = ds at q4
      cases q4; rfl
     rcases hx with rfl | rfl <;> cases q5 <;> exact ⟨hd, u1, rfl, y, r1, ρ1, y, rfl, q0, q1⟩
    ·cases h2
   split at h
   ·rename_i s m1 h1
    exact key _ s m1 (.inl rfl) h1 h
   ·rename_i s m1 h1
    exact key _ s m1 (.inr rfl) h1 h
   ·cases h
  ·cases h
 ·cases h
theorem aleave_sound (hP : P.follows .mixedOrders = true) (hE : EnvOK P E) (hcall : CallOK P E call) {C : FuncId → Option AFunc} (hC : CodesOK P E C) {lf : Nat} {T : Tmps} {res : List ARes} {fn : Func} {tmps : Array Value} {r : CRes} (hres : resChk P fn.results.toList res = true) :
  ∀ (D : List (FuncId × List AVal)) (ds : List Deferred) (m : Option AVal) (u : FrameMode) (H : AHeap) (ρ : Ren) (w : World), aleave call C E lf T res D m H = some r → DR E ρ D ds → ((m = none ∧ u = .returning) ∨ ∃ x v, m = some x ∧ u = .panicking [{ v, recovered := false }] ∧ VR ρ x v) →
   TR ρ T tmps → Post K ρ0 w0 ρ H w → Leaves P fn tmps (CallPost K ρ0 w0 r) ds u w
 | [], ds, m, u, H, ρ, w, h, hD, hm, ht, hp => by
  cases hD
  rcases hm with ⟨rfl, rfl⟩ | ⟨x, v, rfl, rfl, hv⟩
  ·simp only [aleave] at h
   split at h
   ·rename_i v hv
    simp only [Option.some.injEq] at h
    subst h
    obtain ⟨y, r1, r2⟩ := results_sound (P := P) (fn := fn) ht hp.wr hres hv
    exact ⟨y, r1, ρ, y, rfl, r2, hp⟩
   ·cases h
  ·simp only [aleave, Option.some.injEq] at h
   subst h
   exact ⟨ρ, v, rfl, hv, hp⟩
 | (f, l) :: D, ds, m, u, H, ρ, w, h, hD, hm, ht, hp => by
  cases hD with
  | cons hf hl hD =>
   rename_i cap da ds
   simp only [aleave] at h
   split at h
   ·rename_i m1 H1 h1
    have hu : u ≠ .run := by
     rcases hm with ⟨_, rfl⟩ | ⟨_, _, _, rfl, _⟩ <;> simp
    have hmr : ModeR ρ m u := by
     rcases hm with ⟨rfl, rfl⟩ | ⟨x, v, rfl, rfl, hv⟩
     ·exact .inl rfl
     ·exact ⟨v, rfl, hv⟩
    refine leaves_cons hu (f := f) (args := da ++ cap) (by simp only [invoke]; exact run_callFunc hE hf _) ?_
    refine (acallD_sound hP hE hcall hC h1 hl hmr hp).mono ?_
    rintro e u' w' ⟨ρ', v, rfl, q1, q2⟩
    exact aleave_sound hP hE hcall hC hres D ds m1 (settle u') H1 ρ' w' h (hD.mono q2.le) (settle_mode q1) (ht.mono q2.le) (hp.trans q2)
   ·cases h
theorem acall_sound (hP : P.follows .mixedOrders = true) (hE : EnvOK P E) {C : FuncId → Option AFunc} (hC : CodesOK P E C) {ext : CallF} (hext : CallOK P E ext) {lf : Nat} : ∀ k, CallOK P E (acall C ext E lf k)
 | 0 => by intro f l H r h; simp [acall] at h
 | k + 1 => by
  intro f l H r h hf K ρ w l' hl hw
  simp only [acall] at h
  split at h
  ·rename_i r1 h1
   simp only [Option.some.injEq] at h
   subst h
   exact hext f l H _ h1 hf K ρ w l' hl hw
  ·have ih := acall_sound hP hE hC hext (lf := lf) k
   split at h
   ·rename_i af haf
    obtain ⟨fn, c, hfc⟩ := hC f af haf
    split at h
    ·rename_i hle
     have hT0 : TR ρ (tinit l 0) (l' ++ Array.replicate (fn.ntmps - l'.size) Go.undef) := tinit_sound hl _
     have hsz : (l' ++ Array.replicate (fn.ntmps - l'.size) Go.undef).size = af.n := by
      rw [Array.size_append, Array.size_replicate, hl.1, hfc.n]; omega
     refine calls_of_wp_defers hfc.func hfc.body ?_
     have body : ∀ (x : AX) (s : St), aexec (acall C ext E lf k) E af.n lf af.body ⟨tinit l 0, H, []⟩ = some (x, s) → c.wp P (CodePost E af.n K ρ w x s) { tmps := l' ++ Array.replicate (fn.ntmps - l'.size) Go.undef, defers := [] } w :=
      fun x s h1 => aexec_sound hP hE ih af.body c ⟨tinit l 0, H, []⟩ s x ρ _ w hfc.code h1 (Post.refl hw) hT0 hsz .nil
     split at h
     ·rename_i s h1
      refine Code.wp_mono ?_ (body _ s h1)
      rintro e a1 w1 ⟨ρ1, q1, q2, q3, q4, rfl⟩
      exact aleave_sound hP hE ih hC hfc.res s.D a1.defers none .returning s.H ρ1 w1 h q4 (.inl ⟨rfl, rfl⟩) q2 q1
     ·rename_i s h1
      refine Code.wp_mono ?_ (body _ s h1)
      rintro e a1 w1 ⟨ρ1, q1, q2, q3, q4, rfl⟩
      exact aleave_sound hP hE ih hC hfc.res s.D a1.defers none .returning s.H ρ1 w1 h q4 (.inl ⟨rfl, rfl⟩) q2 q1
     ·rename_i v s h1
      refine Code.wp_mono ?_ (body _ s h1)
      rintro e a1 w1 ⟨ρ1, q1, q2, q3, q4, y, rfl, q6⟩
      exact aleave_sound hP hE ih hC hfc.res s.D a1.defers (some v) (.panicking [{ v := y, recovered := false }]) s.H ρ1 w1 h q4 (.inr ⟨v, y, rfl, rfl, q6⟩) q2 q1
     ·cases h
    ·cases h
   ·cases h
end
end Go.Sim
end
section
namespace Go.Sim
variable [RO]
def cellIs (a : AVal) (v : Value) : Bool := a.one && (match cval v with | some a' => eqV a' a | none => false)
theorem cellIs_sound {a : AVal} {v : Value} (h : cellIs a v = true) : a.one = true ∧ ∀ ρ, VR ρ a v := by
 simp only [cellIs, Bool.and_eq_true] at h
 refine ⟨h.1, fun ρ => ?_⟩
 have h2 := h.2
 split at h2
 ·rename_i a' ha
  rw [← eqV_sound _ _ h2]
  exact cval_sound ha
 ·cases h2
def lstIs : List AVal → List Value → Option (List Value)
 | [], vs => some vs
 | a :: l, v :: vs => bif cellIs a v then lstIs l vs else none
 | _, _ => none
def repIs (a : AVal) : Nat → List Value → Option (List Value)
 | 0, vs => some vs
 | n + 1, v :: vs => bif cellIs a v then repIs a n vs else none
 | _, _ => none
def rowIs : Rope AVal → List Value → Option (List Value)
 | .lst l, vs => lstIs l vs
 | .rep n a, vs => repIs a n vs
 | .app n a b, vs => bif Nat.beq n a.size then (match rowIs a vs with
  | some rest => rowIs b rest
  | none => none) else none
def Taken (get : Nat → Option AVal) (n : Nat) (vs rest : List Value) : Prop :=
 ∃ pre, vs = pre ++ rest ∧ pre.length = n ∧ ∀ i, i < n → ∃ a v, get i = some a ∧ a.one = true ∧ pre[i]? = some v ∧ ∀ ρ, VR ρ a v
theorem lstIs_sound : ∀ {l : List AVal} {vs rest : List Value}, lstIs l vs = some rest → Taken (fun i => l[i]?) l.length vs rest
 | [], vs, rest, h => by
  simp only [lstIs, Option.some.injEq] at h
  subst h
  exact ⟨[], rfl, rfl, by intro i hi; simp at hi⟩
 | a :: l, v :: vs, rest, h => by
  simp only [lstIs] at h
  cases e : cellIs a v with
  | false => rw [e] at h; cases h
  | true =>
   rw [e] at h
   obtain ⟨pre, e1, e2, e3⟩ := lstIs_sound h
   refine ⟨v :: pre, by simp [e1], by simp [e2], fun i hi => ?_⟩
   cases i with
   | zero => exact ⟨a, v, rfl, (cellIs_sound e).1, rfl, (cellIs_sound e).2⟩
   | succ i =>
    obtain ⟨a', v', h1, h2, h3, h4⟩ := e3 i (by simpa using hi)
    exact ⟨a', v', by simpa using h1, h2, by simpa using h3, h4⟩
 | _ :: _, [], _, h => by simp [lstIs] at h
theorem repIs_sound {a : AVal} : ∀ {n : Nat} {vs rest : List Value}, repIs a n vs = some rest → Taken (fun i => if i < n then some a else none) n vs rest
 | 0, vs, rest, h => by
  simp only [repIs, Option.some.injEq] at h
  subst h
  exact ⟨[], rfl, rfl, by intro i hi; omega⟩
 | n + 1, v :: vs, rest, h => by
  simp only [repIs] at h
  cases e : cellIs a v with
  | false => rw [e] at h; cases h
  | true =>
   rw [e] at h
   obtain ⟨pre, e1, e2, e3⟩ := repIs_sound h
   refine ⟨v :: pre, by simp [e1], by simp [e2], fun i hi => ?_⟩
   cases i with
   | zero => exact ⟨a, v, by simp, (cellIs_sound e).1, rfl, (cellIs_sound e).2⟩
   | succ i =>
    obtain ⟨a', v', h1, h2, h3, h4⟩ := e3 i (by omega)
    have h1 : (if i < n then some a else none) = some a' := h1
    rw [if_pos (by omega)] at h1
    exact ⟨a', v', (if_pos hi).trans h1, h2, by simpa using h3, h4⟩
 | _ + 1, [], _, h => by simp [repIs] at h
theorem rowIs_sound : ∀ {r : Rope AVal} {vs rest : List Value}, rowIs r vs = some rest → Taken r.get r.size vs rest
 | .lst l, vs, rest, h => lstIs_sound h
 | .rep n a, vs, rest, h => repIs_sound h
 | .app n a b, vs, rest, h => by
  simp only [rowIs] at h
  cases e : Nat.beq n a.size with
  | false => rw [e] at h; cases h
  | true =>
   rw [e] at h
   have hn := Nat.eq_of_beq_eq_true e
   simp only [cond_true] at h
   split at h
   ·rename_i mid hm
    obtain ⟨p1, a1, a2, a3⟩ := rowIs_sound hm
    obtain ⟨p2, b1, b2, b3⟩ := rowIs_sound h
    refine ⟨p1 ++ p2, by rw [a1, b1, List.append_assoc], by simp [a2, b2, Rope.size, hn], fun i hi => ?_⟩
    simp only [Rope.get]
    by_cases h' : i < n
    ·obtain ⟨x, v, h1, h2, h3, h4⟩ := a3 i (by omega)
     exact ⟨x, v, by rw [if_pos h']; exact h1, h2, by rw [List.getElem?_append_left (by omega)]; exact h3, h4⟩
    ·simp only [Rope.size] at hi
     obtain ⟨x, v, h1, h2, h3, h4⟩ := b3 (i - n) (by omega)
     exact ⟨x, v, by rw [if_neg h']; exact h1, h2, by rw [List.getElem?_append_right (by omega), a2, ← hn]; exact h3, h4⟩
   ·cases h
def isAggV : Value → Bool
 | .agg _ => true
 | _ => false
def zroChk (P : Program) (t : Nat) (z : Rope AVal) : Bool :=
 match P.info? t with
 | some i => match i.zero with
  | some v => Nat.beq i.size z.size && (match rowIs z v.cells.toList with | some [] => true | _ => false) &&
   (match isAggT P t with
    | some true => isAggV v
    | some false => !isAggV v
    | none => false)
  | none => false
 | none => false
theorem zroChk_sound {P : Program} {t : TypeId} {z : Rope AVal} (h : zroChk P t z = true) : ∃ i v, P.info? t = some i ∧ i.zero = some v ∧ i.size = z.size ∧ v.cells.size = z.size ∧ (∀ ρ, RR ρ z v.cells 0) ∧
  (∀ x, isAggT P t = some false → z = .lst [x] → ∀ ρ, VR ρ x v) ∧ (isAggT P t = some true → ∃ cs, v = .agg cs) := by
 unfold zroChk at h
 split at h
 ·rename_i i hi
  split at h
  ·rename_i v hv
   simp only [Bool.and_eq_true] at h
   obtain ⟨⟨h1, h2⟩, h3⟩ := h
   have h1 := Nat.eq_of_beq_eq_true h1
   split at h2
   ·rename_i hrow
    obtain ⟨pre, e1, e2, e3⟩ := rowIs_sound hrow
    rw [List.append_nil] at e1
    have hs : v.cells.size = z.size := by rw [← Array.length_toList, e1, e2]
    have hrr : ∀ ρ, RR ρ z v.cells 0 := by
     intro ρ i hi
     obtain ⟨a, u, g1, g2, g3, g4⟩ := e3 i hi
     refine ⟨a, u, g1, g2, ?_, g4 ρ⟩
     rw [Nat.zero_add, ← Array.getElem?_toList, e1]; exact g3
    refine ⟨i, v, hi, hv, h1, hs, hrr, ?_, ?_⟩
    ·intro x ha hz ρ
     subst hz
     rw [ha] at h3
     have hna : ∀ cs, v ≠ .agg cs := by
      rintro cs rfl
      simp [isAggV] at h3
     have hc : v.cells = #[v] := by
      cases v <;> first | rfl | exact absurd rfl (hna _)
     obtain ⟨a, u, g1, g2, g3, g4⟩ := hrr ρ 0 (by simp [Rope.size])
     simp only [Rope.get, List.getElem?_cons_zero, Option.some.injEq] at g1
     subst g1
     rw [hc] at g3
     simp at g3; subst g3
     exact g4
    ·intro ha
     rw [ha] at h3
     simp only at h3
     unfold isAggV at h3
     split at h3
     ·exact ⟨_, rfl⟩
     ·cases h3
   ·cases h2
  ·cases h
 ·cases h
def methChk (P : Program) (isF : FuncId → Bool) (r : MRow) : Bool :=
 isF r.f && (match P.info? r.t with
  | some i => match i.methods.find? (·.name == r.n) with
   | some m => Nat.beq m.path.size 0 && (match m.func with
    | some (f, b) => Nat.beq f r.f && (match P.underlying r.t, b with
     | some (.pointer _), b => b
     | some _, b => !b
     | none, _ => false)
    | none => false)
   | none => false
  | none => false)
theorem method_run {P : Program} {t : TypeId} {n : String} {f : FuncId} {isF : FuncId → Bool} (h : methChk P isF ⟨t, n, f⟩ = true) (k : Nat) (v : Value) (w : World) : (method (k + 1) t v n).run P w = .ok (f, v) w := by
 simp only [methChk, Bool.and_eq_true] at h
 obtain ⟨_, h⟩ := h
 split at h
 ·rename_i i hi
  split at h
  ·rename_i m hm
   simp only [Bool.and_eq_true] at h
   obtain ⟨h1, h2⟩ := h
   have hp : m.path = #[] := Array.eq_empty_of_size_eq_zero (Nat.eq_of_beq_eq_true h1)
   split at h2
   ·rename_i f' b hf
    simp only [Bool.and_eq_true] at h2
    obtain ⟨h2, h3⟩ := h2
    have h2 := Nat.eq_of_beq_eq_true h2
    subst h2
    simp only [method, Sem.run_bind, run_info hi, Result.andThen_ok, hm, hp, follow, Sem.run_pure, hf]
    split at h3
    ·rename_i e hu
     subst h3
     simp [receiverAt, run_und hu, Place.get]
    ·rename_i d b hne hu
     simp only [Bool.not_eq_true'] at h3
     subst h3
     simp only [receiverAt, Sem.run_bind, run_und hu, Result.andThen_ok]
     cases d <;> first
      | (exact absurd rfl (hne _))
      | rfl
    ·cases h3
   ·cases h2
  ·cases h
 ·cases h
theorem methF_sound {P : Program} {isF : FuncId → Bool} : ∀ {l : List MRow}, (l.all (methChk P isF)) = true → ∀ t n f, methF t n l = some f → isF f = true ∧ ∀ v w, (method (P.types.size + Made.depth) t v n).run P w = .ok (f, v) w
 | [], _, t, n, f, h => by simp [methF] at h
 | r :: l, hl, t, n, f, h => by
  simp only [List.all_cons, Bool.and_eq_true] at hl
  simp only [methF] at h
  cases e : (Nat.beq t r.t && decide (n = r.n)) with
  | true =>
   rw [e] at h
   simp only [cond_true, Option.some.injEq] at h
   subst h
   simp only [Bool.and_eq_true, decide_eq_true_eq] at e
   have e1 := Nat.eq_of_beq_eq_true e.1
   have e2 := e.2
   obtain ⟨rt, rn, rf⟩ := r
   simp only at e1 e2
   subst e1 e2
   refine ⟨by have := hl.1; simp only [methChk, Bool.and_eq_true] at this; exact this.1, fun v w => ?_⟩
   have : P.types.size + Made.depth = (P.types.size + Made.depth - 1) + 1 := by
    have : 0 < Made.depth := by decide
    omega
   rw [this]
   exact method_run hl.1 _ v w
  | false =>
   rw [e] at h
   exact methF_sound hl.2 t n f h
def flatChk (P : Program) : Nat → List Field → Bool
 | _, [] => true
 | k, f :: fs => !(decide (f.name = "_")) && Nat.beq f.offset k && (match P.underlying f.type with
  | some (.int _) => true
  | _ => false) && flatChk P (k + 1) fs
def eqtChk (P : Program) (t : Nat) (n : Nat) : Bool :=
 (match P.underlying t with
  | some (.struct fs) => Nat.beq fs.size n && flatChk P 0 fs.toList
  | _ => false) && !(P.eqGuardType P.depth t) && !(P.stoodInHeld t)
theorem vrow_le {xs ys : Array Value} : ∀ {n m : Nat} {b : Bool}, m ≤ n → vrow xs ys n = some b → ∃ c, vrow xs ys m = some c ∧ (c = false → b = false)
 | 0, m, b, hm, h => by have : m = 0 := by omega
                        subst this; exact ⟨b, h, fun e => e⟩
 | n + 1, m, b, hm, h => by
  by_cases e : m = n + 1
  ·subst e; exact ⟨b, h, fun e => e⟩
  ·simp only [vrow] at h
   split at h
   ·rename_i r hr
    obtain ⟨c, c1, c2⟩ := vrow_le (m := m) (by omega) hr
    refine ⟨c, c1, fun e => ?_⟩
    have := c2 e
    subst this
    split at h
    ·split at h
     ·simp only [Bool.false_and, Option.some.injEq] at h; exact h.symm
     ·cases h
    ·cases h
   ·cases h
theorem eqFields_flat {P : Program} {d : Nat} {xs ys : Array Value} {w : World} : ∀ (fs : List Field) (k : Nat) (b : Bool), flatChk P k fs = true → vrow xs ys k = some true → vrow xs ys (k + fs.length) = some b → (Op.eqFields (d + 1) xs ys fs).run P w = .ok b w
 | [], k, b, _, h1, h2 => by
  simp only [List.length_nil, Nat.add_zero] at h2
  rw [h1] at h2; cases h2
  simp [Op.eqFields]
 | f :: fs, k, b, hc, h1, h2 => by
  simp only [flatChk, Bool.and_eq_true, Bool.not_eq_true', decide_eq_false_iff_not] at hc
  obtain ⟨⟨⟨c1, c2⟩, c3⟩, c4⟩ := hc
  have c2 := Nat.eq_of_beq_eq_true c2
  split at c3
  ·rename_i ik hu
   obtain ⟨c, e1, e2⟩ := vrow_le (m := k + 1) (by simp) h2
   have e1' := e1
   simp only [vrow, h1] at e1'
   split at e1'
   ·rename_i x y hx hy
    split at e1'
    ·rename_i s hs
     simp only [Bool.true_and, Option.some.injEq] at e1'
     subst e1'
     have hag : isAggT P f.type = some false := by simp [isAggT, hu]
     have p1 : (part f.type xs f.offset).run P w = .ok x w := by
      simp [part, run_agg hag, c2, hx]
     have p2 : (part f.type ys f.offset).run P w = .ok y w := by
      simp [part, run_agg hag, c2, hy]
     have p3 : (Op.equalIn (d + 1) f.type x y).run P w = .ok s w := by
      unfold vsame at hs
      split at hs
      ·rename_i k1 a1 k2 a2
       split at hs
       ·rename_i hk
        simp only [Option.some.injEq] at hs
        subst hs hk
        simp [Op.equalIn, run_und hu]
       ·cases hs
      ·cases hs
     simp only [Op.eqFields, ne_eq, c1, not_false_eq_true, if_true, Sem.run_bind, p1, p2, p3, Result.andThen_ok]
     cases s with
     | true =>
      simp only [Bool.not_true, Bool.false_eq_true, if_false]
      refine eqFields_flat fs (k + 1) b c4 e1 ?_
      rw [show k + 1 + fs.length = k + (f :: fs).length by simp; omega]; exact h2
     | false =>
      simp [e2 rfl]
    ·cases e1'
   ·cases e1'
  ·cases c3
theorem eqtChk_sound {P : Program} {t : TypeId} {n : Nat} (h : eqtChk P t n = true) : P.eqGuardType P.depth t = false ∧ ∀ xs ys b, xs.size = n → ys.size = n → vrow xs ys n = some b → ∀ w, (Op.equal t (.agg xs) (.agg ys)).run P w = .ok b w := by
 simp only [eqtChk, Bool.and_eq_true, Bool.not_eq_true'] at h
 obtain ⟨⟨h1, h2⟩, h3⟩ := h
 refine ⟨h2, fun xs ys b _ _ hv w => ?_⟩
 split at h1
 ·rename_i fs hu
  simp only [Bool.and_eq_true] at h1
  have hn := Nat.eq_of_beq_eq_true h1.1
  have hf : P.fieldsOf t = fs := by simp [Program.fieldsOf, hu]
  have : (Op.equalIn (9999 + 1) t (.agg xs) (.agg ys)).run P w = _ := run_equalIn_struct w 9999 t xs ys (by rw [hf]; exact hu) h3
  unfold Op.equal
  show (Op.equalIn (9999 + 1) t (.agg xs) (.agg ys)).run P w = _
  rw [this, hf]
  refine eqFields_flat (d := 9998) fs.toList 0 b h1.2 rfl ?_
  rw [Nat.zero_add, Array.length_toList, hn]; exact hv
 ·cases h1
theorem envOK_of {P : Program} {E0 : EnvD} {Z : TT (Rope AVal)} {M : List MRow} {Q : TT Nat} {C : TT AFunc} {X : List Nat} (hZ : TT.allB (zroChk P) Z = true) (hM : M.all (methChk P fun f => (C.find f).isSome || X.any (fun x => Nat.beq x f)) = true) (hQ : TT.allB (eqtChk P) Q = true)
  (hC : TT.All (fun f af => ∃ fn c, FuncOK P E0 f fn c af) C) (hX : ∀ f ∈ X, ∃ fn, P.funcs[f]? = some fn ∧ fn.name ≠ "runtime.NumGoroutine" ∧ fn.body.isSome = true) : EnvOK P (envOf Z M Q C X) := by
 refine ⟨fun t z h => zroChk_sound (TT.find_allB hZ h), fun t n f h => methF_sound hM t n f h, fun t n h => eqtChk_sound (TT.find_allB hQ h), fun f h => ?_⟩
 simp only [envOf, Bool.or_eq_true] at h
 rcases h with h | h
 ·obtain ⟨af, haf⟩ := Option.isSome_iff_exists.1 h
  obtain ⟨fn, c, hfc⟩ := TT.all_of hC f af haf
  exact ⟨fn, hfc.func, hfc.name, by rw [hfc.body]; rfl⟩
 ·obtain ⟨x, h1, h2⟩ := List.any_eq_true.1 h
  exact hX f (Nat.eq_of_beq_eq_true h2 ▸ h1)
theorem empty_wr (w : World) (hro : ∀ b, RO.r b → b < w.heap.size ∧ w.heap[b]? = RO.c b) : WR (fun b => b < w.heap.size) (fun _ => none) ⟨0, .leaf⟩ w := by
 refine ⟨?_, ?_, fun b hb => (hro b hb).1, ?_, fun b hb => hb, fun b hb => (hro b hb).2⟩
 ·intro i b hb
  simp only [AHeap.get, Trie.get_leaf] at hb
  cases hb
 ·intro i j bi bj li lj h
  simp only [AHeap.get, Trie.get_leaf] at h
  cases h
 ·intro i l h; cases h
theorem below_of {ρ ρ' : Ren} {H : AHeap} {w w' : World} (h : Post (fun b => b < w.heap.size) ρ w ρ' H w') : RowKit.Below w.heap.size w w' :=
 ⟨h.size.os, h.size.tape, h.size.out, h.size.size, h.keep⟩
def okRet : Option CRes → Bool
 | some (.ret (.bool true) _) => true
 | _ => false
theorem calls_of_run {P : Program} {E : EnvD} {call : CallF} (hcall : CallOK P E call) {f : FuncId} (hf : E.isF f = true) (h : okRet (call f [] ⟨0, .leaf⟩) = true) (w : World) (hro : ∀ b, RO.r b → b < w.heap.size ∧ w.heap[b]? = RO.c b) :
  Calls P f #[] w fun e w' => e = .returned (.bool true) ∧ RowKit.Below w.heap.size w w' := by
 unfold okRet at h
 split at h
 ·rename_i H' hr
  refine (hcall f [] _ _ hr hf _ _ w #[] (LR.nil _) (empty_wr w hro)).mono fun e w' hp => ?_
  obtain ⟨ρ', v, rfl, hv, hp⟩ := hp
  exact ⟨by rw [hv.bool_inv], below_of hp⟩
 ·cases h
end Go.Sim
end
section
namespace Go.Sim
variable [RO]
theorem WR.frame {K : Nat → Prop} {ρ : Ren} {H : AHeap} {w w' : World} (h : WR K ρ H w) (hk : ∀ b, b < w.heap.size → w'.heap[b]? = w.heap[b]?) (hs : w.heap.size ≤ w'.heap.size) : WR K ρ H w' := by
 refine ⟨fun i b hb => ?_, h.inj, h.ro, h.dom, fun b hb => Nat.lt_of_lt_of_le (h.kb b hb) hs, fun b hb => (hk b (h.kb b (h.ro b hb))).trans (h.same b hb)⟩
 obtain ⟨l, o, h1, h2, h3, h4⟩ := h.live i b hb
 exact ⟨l, o, h1, by rw [hk _ (h.lt hb h1)]; exact h2, h3, h4⟩
theorem LR.one {ρ : Ren} {x : AVal} {v : Value} (h : VR ρ x v) : LR ρ [x] #[v] := by
 have := (LR.nil ρ).cons h
 simpa using this
theorem LR.two {ρ : Ren} {x y : AVal} {v u : Value} (h : VR ρ x v) (h' : VR ρ y u) : LR ρ [x, y] #[v, u] := by
 have := (LR.one h').cons h
 simpa using this
end Go.Sim
namespace Go.Sim
variable [RO]
def orExt (a b : CallF) : CallF := fun f l H => match a f l H with
 | some r => some r
 | none => b f l H
theorem orExt_ok {P : Program} {E : EnvD} {a b : CallF} (ha : CallOK P E a) (hb : CallOK P E b) : CallOK P E (orExt a b) := by
 intro f l H r hr
 unfold orExt at hr
 split at hr
 ·rename_i r' h
  simp only [Option.some.injEq] at hr; subst hr
  exact ha f l H _ h
 ·exact hb f l H r hr
end Go.Sim
end
section
namespace Go.Sim
variable [RO]
mutual
def AVal.ren (π : Nat → Nat) : AVal → AVal
 | .ptr (some (i, o)) => .ptr (some (π i, o))
 | .slice (some (i, o)) n c => .slice (some (π i, o)) n c
 | .mapv (some i) => .mapv (some (π i))
 | .func f a b => .func f (renL π a) (renL π b)
 | .iface t v => .iface t (v.ren π)
 | .agg r => .agg (renR π r)
 | .tup l => .tup (renL π l)
 | .bool b => .bool b
 | .int k n => .int k n
 | .str s => .str s
 | .ptr none => .ptr none
 | .slice none n c => .slice none n c
 | .mapv none => .mapv none
 | .nilFunc => .nilFunc
 | .nilIface => .nilIface
 | .es => .es
 | .vs a n c => .vs a n c
 | .part k m v lo hi => .part k m v lo hi
 | .junk => .junk
def renL (π : Nat → Nat) : List AVal → List AVal
 | [] => []
 | v :: l => v.ren π :: renL π l
def renR (π : Nat → Nat) : Rope AVal → Rope AVal
 | .lst l => .lst (renL π l)
 | .rep n a => .rep n (a.ren π)
 | .app m a b => .app m (renR π a) (renR π b)
end
theorem renL_map (π : Nat → Nat) : ∀ l, renL π l = l.map (AVal.ren π)
 | [] => rfl
 | v :: l => by simp only [renL, List.map_cons, renL_map π l]
theorem renR_size (π : Nat → Nat) : ∀ r, (renR π r).size = r.size := by
 intro r
 induction r with
 | lst l => simp [renR, Rope.size, renL_map]
 | rep n a => rfl
 | app m l r _ ih => simp [renR, Rope.size, ih]
theorem renR_get (π : Nat → Nat) : ∀ (r : Rope AVal) (i : Nat), (renR π r).get i = (r.get i).map (AVal.ren π) := by
 intro r
 induction r with
 | lst l => intro i; simp [renR, Rope.get, renL_map]
 | rep n a => intro i; simp only [renR, Rope.get]; split <;> rfl
 | app m l r ihl ihr =>
  intro i
  simp only [renR, Rope.get]
  split
  ·exact ihl i
  ·exact ihr _
theorem ren_one (π : Nat → Nat) (a : AVal) : (a.ren π).one = a.one := by
 cases a with
 | ptr p => cases p with
  | none => rfl
  | some p => obtain ⟨i, o⟩ := p; rfl
 | slice p n c => cases p with
  | none => rfl
  | some p => obtain ⟨i, o⟩ := p; rfl
 | mapv p => cases p <;> rfl
 | _ => rfl
theorem VR.ren {ρ ρ' : Ren} {π : Nat → Nat} (h : ∀ i l, ρ i = some l → ρ' (π i) = some l) {a : AVal} {v : Value} (hv : VR ρ a v) : VR ρ' (a.ren π) v := by
 induction hv with
 | bool b => exact .bool b
 | int k n => exact .int k n
 | str s => exact .str s
 | ptrNil => exact .ptrNil
 | ptr hi => exact .ptr (h _ _ hi)
 | sliceNil => exact .sliceNil
 | slice hi => exact .slice (h _ _ hi)
 | mapNil => exact .mapNil
 | map hi => exact .map (h _ _ hi)
 | func ha hb _ _ ih1 ih2 =>
  simp only [AVal.ren, renL_map]
  refine .func (by simpa using ha) (by simpa using hb) (fun i x v hx hv => ?_) (fun i x v hx hv => ?_)
  ·rw [List.getElem?_map] at hx
   obtain ⟨y, hy, rfl⟩ := Option.map_eq_some_iff.1 hx
   exact ih1 i y v hy hv
  ·rw [List.getElem?_map] at hx
   obtain ⟨y, hy, rfl⟩ := Option.map_eq_some_iff.1 hx
   exact ih2 i y v hy hv
 | nilFunc => exact .nilFunc
 | iface t _ ih => exact .iface t ih
 | nilIface => exact .nilIface
 | es a => exact .es a
 | vs a n c => exact .vs a n c
 | agg hs hg _ ih =>
  simp only [AVal.ren]
  refine .agg (by rw [renR_size]; exact hs) (fun i hi => ?_) (fun i a v ha hv => ?_)
  ·rw [renR_size] at hi
   obtain ⟨a, h1, h2⟩ := hg i hi
   exact ⟨a.ren π, by rw [renR_get, h1]; rfl, by rw [ren_one]; exact h2⟩
  ·rw [renR_get] at ha
   obtain ⟨y, hy, rfl⟩ := Option.map_eq_some_iff.1 ha
   exact ih i y v hy hv
 | tup ha _ ih =>
  simp only [AVal.ren, renL_map]
  refine .tup (by simpa using ha) (fun i x v hx hv => ?_)
  rw [List.getElem?_map] at hx
  obtain ⟨y, hy, rfl⟩ := Option.map_eq_some_iff.1 hx
  exact ih i y v hy hv
 | part h1 h2 h3 => exact .part h1 h2 h3
 | junk v => exact .junk v
mutual
/-- A value speaks of blocks below n alone. -/
def Sc (n : Nat) : AVal → Prop
 | .ptr (some (i, _)) => i < n
 | .slice (some (i, _)) _ _ => i < n
 | .mapv (some i) => i < n
 | .func _ a b => ScL n a ∧ ScL n b
 | .iface _ v => Sc n v
 | .agg r => ScR n r
 | .tup l => ScL n l
 | _ => True
def ScL (n : Nat) : List AVal → Prop
 | [] => True
 | v :: l => Sc n v ∧ ScL n l
def ScR (n : Nat) : Rope AVal → Prop
 | .lst l => ScL n l
 | .rep _ a => Sc n a
 | .app _ a b => ScR n a ∧ ScR n b
end
theorem ScL_get {n : Nat} : ∀ {l : List AVal}, ScL n l → ∀ (i : Nat) x, l[i]? = some x → Sc n x
 | [], _, i, x, h => by simp at h
 | v :: l, hs, 0, x, h => by simp at h; subst h; exact hs.1
 | v :: l, hs, i + 1, x, h => ScL_get hs.2 i x (by simpa using h)
def pullρ (ρ : Ren) (π : Nat → Nat) (n : Nat) : Ren := fun j => if j < n then ρ (π j) else none
mutual
theorem VR.pull {ρ : Ren} {π : Nat → Nat} {n : Nat} : ∀ (a : AVal) (v : Value), Sc n a → VR ρ (a.ren π) v → VR (pullρ ρ π n) a v
 | .bool b, v, _, h => by cases h; exact .bool b
 | .int k m, v, _, h => by cases h; exact .int k m
 | .str s, v, _, h => by cases h; exact .str s
 | .ptr none, v, _, h => by cases h; exact .ptrNil
 | .ptr (some (i, o)), v, hs, h => by
  cases h with
  | ptr h => exact .ptr (by simp only [pullρ]; rw [if_pos (show i < n from hs)]; exact h)
 | .slice none _ _, v, _, h => by cases h; exact .sliceNil
 | .slice (some (i, o)) m c, v, hs, h => by
  cases h with
  | slice h => exact .slice (by simp only [pullρ]; rw [if_pos (show i < n from hs)]; exact h)
 | .mapv none, v, _, h => by cases h; exact .mapNil
 | .mapv (some i), v, hs, h => by
  cases h with
  | map h => exact .map (by simp only [pullρ]; rw [if_pos (show i < n from hs)]; exact h)
 | .func f a b, v, hs, h => by
  simp only [AVal.ren] at h
  cases h with
  | func ha hb h1 h2 =>
   refine .func (by simpa [renL_map] using ha) (by simpa [renL_map] using hb) (fun i x u hx hu => ?_) (fun i x u hx hu => ?_)
   ·exact VR.pullL a hs.1 i x u hx (h1 i _ u (by rw [renL_map, List.getElem?_map, hx]; rfl) hu)
   ·exact VR.pullL b hs.2 i x u hx (h2 i _ u (by rw [renL_map, List.getElem?_map, hx]; rfl) hu)
 | .nilFunc, v, _, h => by cases h; exact .nilFunc
 | .iface t a, v, hs, h => by
  simp only [AVal.ren] at h
  cases h with
  | iface _ h => exact .iface t (VR.pull a _ hs h)
 | .nilIface, v, _, h => by cases h; exact .nilIface
 | .es, v, _, h => by cases h; exact .es _
 | .vs _ _ _, v, _, h => by cases h; exact .vs _ _ _
 | .agg r, v, hs, h => by
  simp only [AVal.ren] at h
  cases h with
  | agg hz hg h =>
   rw [renR_size] at hz
   refine .agg hz (fun i hi => ?_) (fun i a u ha hu => ?_)
   ·obtain ⟨a, h1, h2⟩ := hg i (by rw [renR_size]; exact hi)
    rw [renR_get] at h1
    obtain ⟨y, hy, rfl⟩ := Option.map_eq_some_iff.1 h1
    exact ⟨y, hy, by rw [ren_one] at h2; exact h2⟩
   ·exact VR.pullR r hs i a u ha (h i _ u (by rw [renR_get, ha]; rfl) hu)
 | .tup l, v, hs, h => by
  simp only [AVal.ren] at h
  cases h with
  | tup ha h1 =>
   refine .tup (by simpa [renL_map] using ha) (fun i x u hx hu => ?_)
   exact VR.pullL l hs i x u hx (h1 i _ u (by rw [renL_map, List.getElem?_map, hx]; rfl) hu)
 | .part k m u lo hi, v, _, h => by
  cases h with
  | part h1 h2 h3 => exact .part h1 h2 h3
 | .junk, v, _, h => .junk v
theorem VR.pullL {ρ : Ren} {π : Nat → Nat} {n : Nat} : ∀ (l : List AVal), ScL n l → ∀ (i : Nat) x u, l[i]? = some x → VR ρ (x.ren π) u → VR (pullρ ρ π n) x u
 | [], _, i, x, u, hx, _ => by simp at hx
 | v :: l, hs, 0, x, u, hx, h => by simp at hx; subst hx; exact VR.pull v u hs.1 h
 | v :: l, hs, i + 1, x, u, hx, h => VR.pullL l hs.2 i x u (by simpa using hx) h
theorem VR.pullR {ρ : Ren} {π : Nat → Nat} {n : Nat} : ∀ (r : Rope AVal), ScR n r → ∀ (i : Nat) x u, r.get i = some x → VR ρ (x.ren π) u → VR (pullρ ρ π n) x u
 | .lst l, hs, i, x, u, hx, h => VR.pullL l hs i x u hx h
 | .rep m a, hs, i, x, u, hx, h => by
  simp only [Rope.get] at hx
  split at hx
  ·simp only [Option.some.injEq] at hx; subst hx; exact VR.pull a u hs h
  ·cases hx
 | .app m l r, hs, i, x, u, hx, h => by
  simp only [Rope.get] at hx
  split at hx
  ·exact VR.pullR l hs.1 i x u hx h
  ·exact VR.pullR r hs.2 _ x u hx h
end
def renE (π : Nat → Nat) (l : List (AVal × AVal)) : List (AVal × AVal) := l.map fun x => (x.1.ren π, x.2.ren π)
def ABlk.ren (π : Nat → Nat) : ABlk → ABlk
 | .cells r g w => .cells (renR π r) g w
 | .map es => .map (renE π es)
 | .pmap es => .pmap (renE π es)
def ScE (n : Nat) (l : List (AVal × AVal)) : Prop := ∀ x ∈ l, Sc n x.1 ∧ Sc n x.2
def ScB (n : Nat) : ABlk → Prop
 | .cells r _ _ => ScR n r
 | .map es => ScE n es
 | .pmap es => ScE n es
theorem ABlk.ren_wr (π : Nat → Nat) (b : ABlk) : (b.ren π).wr = b.wr := by cases b <;> rfl
theorem BR.ren {ρ ρ' : Ren} {π : Nat → Nat} (h : ∀ i l, ρ i = some l → ρ' (π i) = some l) {l : Loc} {b : ABlk} {o : Obj} (hb : BR ρ l b o) : BR ρ' l (b.ren π) o := by
 cases hb with
 | cells hf hsz hg hr =>
  refine .cells hf (by rw [renR_size]; exact hsz) hg (fun i hi => ?_)
  rw [renR_size] at hi
  obtain ⟨a, v, h1, h2, h3, h4⟩ := hr i hi
  exact ⟨a.ren π, v, by rw [renR_get, h1]; rfl, by rw [ren_one]; exact h2, h3, h4.ren h⟩
 | map hs hm =>
  refine .map (by simpa [renE] using hs) (fun i e e' h1 h2 => ?_)
  simp only [renE, List.getElem?_map] at h1
  obtain ⟨y, hy, rfl⟩ := Option.map_eq_some_iff.1 h1
  exact ⟨(hm i y e' hy h2).1.ren h, (hm i y e' hy h2).2.ren h⟩
 | pmap hp hs hm =>
  refine .pmap hp (by simpa [renE] using hs) (fun i e e' h1 h2 => ?_)
  simp only [renE, List.getElem?_map] at h1
  obtain ⟨y, hy, rfl⟩ := Option.map_eq_some_iff.1 h1
  exact ⟨(hm i y e' hy h2).1.ren h, (hm i y e' hy h2).2.ren h⟩
theorem BR.pull {ρ : Ren} {π : Nat → Nat} {n : Nat} {l : Loc} {b : ABlk} {o : Obj} (hs : ScB n b) (hb : BR ρ l (b.ren π) o) : BR (pullρ ρ π n) l b o := by
 cases b with
 | cells r g w =>
  simp only [ABlk.ren] at hb
  cases hb with
  | cells hf hsz hg hr =>
   rw [renR_size] at hsz
   refine .cells hf hsz hg (fun i hi => ?_)
   obtain ⟨a, v, h1, h2, h3, h4⟩ := hr i (by rw [renR_size]; exact hi)
   rw [renR_get] at h1
   obtain ⟨y, hy, rfl⟩ := Option.map_eq_some_iff.1 h1
   exact ⟨y, v, hy, by rw [ren_one] at h2; exact h2, h3, VR.pullR r hs i y v hy h4⟩
 | map es =>
  simp only [ABlk.ren] at hb
  cases hb with
  | map hz hm =>
   refine .map (by simpa [renE] using hz) (fun i e e' h1 h2 => ?_)
   have := hm i (e.1.ren π, e.2.ren π) e' (by simp [renE, h1]) h2
   have hsc := hs e (List.mem_of_getElem? h1)
   exact ⟨VR.pull _ _ hsc.1 this.1, VR.pull _ _ hsc.2 this.2⟩
 | pmap es =>
  simp only [ABlk.ren] at hb
  cases hb with
  | pmap hp hz hm =>
   refine .pmap hp (by simpa [renE] using hz) (fun i e e' h1 h2 => ?_)
   have := hm i (e.1.ren π, e.2.ren π) e' (by simp [renE, h1]) h2
   have hsc := hs e (List.mem_of_getElem? h1)
   exact ⟨VR.pull _ _ hsc.1 this.1, VR.pull _ _ hsc.2 this.2⟩
def grow (π : Nat → Nat) (n m : Nat) : Nat → Nat := fun j => if j < n then π j else m + (j - n)
structure Lies (π : Nat → Nat) (H0 H : AHeap) : Prop where
 inj : ∀ i j, i < H0.next → j < H0.next → π i = π j → i = j
 lt : ∀ i, i < H0.next → π i < H.next
 blk : ∀ i b, H0.get i = some b → i < H0.next ∧ ScB H0.next b ∧ H.get (π i) = some (b.ren π)
structure Left (π : Nat → Nat) (H0 H0' H H' : AHeap) : Prop where
 next : H.next + (H0'.next - H0.next) ≤ H'.next
 cov : ∀ i b, H'.get i = some b → (∃ j b0, H0'.get j = some b0 ∧ i = grow π H0.next H.next j ∧ b = b0.ren (grow π H0.next H.next)) ∨ (H.get i = some b ∧ ∀ j, j < H0.next → i ≠ π j)
theorem frame_call {P : Program} {E : EnvD} {call : CallF} (hcall : CallOK P E call) {f : FuncId} {l0 : List AVal} {H0 H0' : AHeap} {v0 : AVal} (hrun : call f l0 H0 = some (.ret v0 H0')) (hf : E.isF f = true)
  {K : Nat → Prop} {ρ : Ren} {w : World} {l' : Array Value} {H H' : AHeap} {π : Nat → Nat} (hπ : Lies π H0 H) (hl : LR ρ (renL π l0) l') (hsl : ScL H0.next l0) (hw : WR K ρ H w) (hleft : Left π H0 H0' H H') :
  Calls P f l' w (CallPost K ρ w (.ret (v0.ren (grow π H0.next H.next)) H')) := by
 generalize hπ' : grow π H0.next H.next = π'
 have hold : ∀ j, j < H0.next → π' j = π j := by intro j hj; rw [← hπ']; simp [grow, hj]
 have hnew : ∀ j, ¬ j < H0.next → π' j = H.next + (j - H0.next) := by intro j hj; rw [← hπ']; simp [grow, hj]
 have hinj : ∀ i j, π' i = π' j → i = j := by
  intro i j e
  by_cases hi : i < H0.next <;> by_cases hj : j < H0.next
  ·rw [hold i hi, hold j hj] at e; exact hπ.inj i j hi hj e
  ·rw [hold i hi, hnew j hj] at e; have := hπ.lt i hi; omega
  ·rw [hnew i hi, hold j hj] at e; have := hπ.lt j hj; omega
  ·rw [hnew i hi, hnew j hj] at e; omega
 -- the frame's blocks
 let Fr : Nat → Prop := fun b => ∃ i bi l, H.get i = some bi ∧ (∀ j, j < H0.next → i ≠ π j) ∧ ρ i = some l ∧ l.blk = b
 let K' : Nat → Prop := fun b => K b ∨ Fr b
 let ρ0 : Ren := pullρ ρ π H0.next
 have hw0 : WR K' ρ0 H0 w := by
  refine ⟨fun j b hb => ?_, fun i j bi bj li lj hi hj hwi hwj hli hlj e => ?_, fun b hb => .inl (hw.ro b hb), fun j l h => ?_, fun b hb => ?_, hw.same⟩
  ·obtain ⟨hj, hs, hH⟩ := hπ.blk j b hb
   obtain ⟨l, o, h1, h2, h3, h4⟩ := hw.live _ _ hH
   rw [ABlk.ren_wr] at h4
   refine ⟨l, o, by simp only [ρ0, pullρ]; rw [if_pos hj]; exact h1, h2, h3.pull hs, ?_, h4.2⟩
   intro hbw
   rintro (hk | ⟨i, bi, li, g1, g2, g3, g4⟩)
   ·exact h4.1 hbw hk
   ·exact hw.ne hH g1 (by rw [ABlk.ren_wr]; exact hbw) h1 g3 (fun e => g2 j hj e.symm) g4
  ·obtain ⟨hi', _, hHi⟩ := hπ.blk i bi hi
   obtain ⟨hj', _, hHj⟩ := hπ.blk j bj hj
   simp only [ρ0, pullρ] at hli hlj
   rw [if_pos hi'] at hli
   rw [if_pos hj'] at hlj
   exact hπ.inj i j hi' hj' (hw.inj _ _ _ _ _ _ hHi hHj (by rw [ABlk.ren_wr]; exact hwi) (by rw [ABlk.ren_wr]; exact hwj) hli hlj e)
  ·simp only [ρ0, pullρ] at h
   by_cases hj : j < H0.next
   ·exact hj
   ·rw [if_neg hj] at h; cases h
  ·rcases hb with hb | ⟨i, bi, l, g1, g2, g3, g4⟩
   ·exact hw.kb b hb
   ·rw [← g4]; exact hw.lt g1 g3
 have hl0 : LR ρ0 l0 l' := by
  refine ⟨by have := hl.1; simpa [renL_map] using this, fun i x v hx hv => ?_⟩
  exact VR.pullL l0 hsl i x v hx (hl.2 i _ v (by rw [renL_map, List.getElem?_map, hx]; rfl) hv)
 refine (hcall f l0 H0 _ hrun hf K' ρ0 w l' hl0 hw0).mono fun e w' hp => ?_
 obtain ⟨ρ0', v, rfl, hv, hp⟩ := hp
 classical
 let ρ' : Ren := fun i => if h : ∃ j, π' j = i ∧ (ρ0' j).isSome then ρ0' h.choose else ρ i
 have hat : ∀ j l, ρ0' j = some l → ρ' (π' j) = some l := by
  intro j l h
  have hex : ∃ j', π' j' = π' j ∧ (ρ0' j').isSome := ⟨j, rfl, by rw [h]; rfl⟩
  have : ρ' (π' j) = ρ0' hex.choose := by simp only [ρ']; rw [dif_pos hex]
  rw [this, hinj _ _ hex.choose_spec.1]; exact h
 have hle : ρ.le ρ' := by
  intro i l h
  have hi := hw.dom i l h
  by_cases hex : ∃ j, π' j = i ∧ (ρ0' j).isSome
  ·obtain ⟨j, rfl, hj⟩ := hex
   by_cases hjn : j < H0.next
   ·refine hat j l (hp.le j l ?_)
    show pullρ ρ π H0.next j = some l
    simp only [pullρ]; rw [if_pos hjn, ← hold j hjn]; exact h
   ·rw [hnew j hjn] at hi; omega
  ·simp only [ρ']; rw [dif_neg hex]; exact h
 have hfr : ∀ i b, H.get i = some b → (∀ j, j < H0.next → i ≠ π j) → ∀ l, ρ' i = some l → ρ i = some l := by
  intro i b hb hn l h
  obtain ⟨l', o, h1, _⟩ := hw.live i b hb
  have := hle i l' h1
  rw [h] at this; cases this; exact h1
 refine ⟨ρ', v, rfl, hv.ren hat, ⟨hle, ⟨?_, ?_, hw.ro, ?_, ?_, hp.wr.same⟩, fun b hb => hp.keep b (.inl hb), hp.size⟩⟩
 ·intro i b hb
  rcases hleft.cov i b hb with ⟨j, b0, h1, h2, h3⟩ | ⟨h1, h2⟩
  ·rw [hπ'] at h2 h3
   subst h2 h3
   obtain ⟨l, o, g1, g2, g3, g4⟩ := hp.wr.live j b0 h1
   rw [ABlk.ren_wr]
   exact ⟨l, o, hat j l g1, g2, g3.ren hat, fun hbw hk => g4.1 hbw (.inl hk), g4.2⟩
  ·obtain ⟨l, o, g1, g2, g3, g4⟩ := hw.live i b h1
   refine ⟨l, o, hle i l g1, ?_, g3.mono hle, g4⟩
   rw [hp.keep l.blk (.inr ⟨i, b, l, h1, h2, g1, rfl⟩)]; exact g2
 ·intro i j bi bj li lj hi hj hwi hwj hli hlj e
  rcases hleft.cov i bi hi with ⟨i0, b0, h1, h2, h3⟩ | ⟨h1, h2⟩ <;> rcases hleft.cov j bj hj with ⟨j0, c0, k1, k2, k3⟩ | ⟨k1, k2⟩
  ·rw [hπ'] at h2 k2
   subst h2 k2
   obtain ⟨l, o, g1, g2, g3, g4⟩ := hp.wr.live i0 b0 h1
   obtain ⟨m, q, m1, m2, m3, m4⟩ := hp.wr.live j0 c0 k1
   rw [hat i0 l g1] at hli; cases hli
   rw [hat j0 m m1] at hlj; cases hlj
   subst h3 k3
   rw [ABlk.ren_wr] at hwi hwj
   rw [hp.wr.inj i0 j0 b0 c0 _ _ h1 k1 hwi hwj g1 m1 e]
  ·exfalso
   rw [hπ'] at h2
   subst h2
   obtain ⟨l, o, g1, g2, g3, g4⟩ := hp.wr.live i0 b0 h1
   rw [hat i0 l g1] at hli; cases hli
   subst h3
   rw [ABlk.ren_wr] at hwi
   exact g4.1 hwi (.inr ⟨j, bj, lj, k1, k2, hfr j bj k1 k2 lj hlj, e.symm⟩)
  ·exfalso
   rw [hπ'] at k2
   subst k2
   obtain ⟨m, q, m1, m2, m3, m4⟩ := hp.wr.live j0 c0 k1
   rw [hat j0 m m1] at hlj; cases hlj
   subst k3
   rw [ABlk.ren_wr] at hwj
   exact m4.1 hwj (.inr ⟨i, bi, li, h1, h2, hfr i bi h1 h2 li hli, e⟩)
  ·exact hw.inj i j bi bj li lj h1 k1 hwi hwj (hfr i bi h1 h2 li hli) (hfr j bj k1 k2 lj hlj) e
 ·intro i l h
  have hn := hleft.next
  by_cases hex : ∃ j, π' j = i ∧ (ρ0' j).isSome
  ·obtain ⟨j, rfl, hj⟩ := hex
   obtain ⟨l', hl'⟩ := Option.isSome_iff_exists.1 hj
   have hd := hp.wr.dom j l' hl'
   by_cases hjn : j < H0.next
   ·rw [hold j hjn]; have := hπ.lt j hjn; omega
   ·rw [hnew j hjn]; omega
  ·simp only [ρ'] at h; rw [dif_neg hex] at h
   have := hw.dom i l h; omega
 ·intro b hb; exact Nat.lt_of_lt_of_le (hw.kb b hb) hp.size.size
end Go.Sim
end
section
namespace Go.Sim
mutual
theorem ren_id : ∀ a : AVal, a.ren (fun i => i) = a
 | .ptr (some (i, o)) => rfl
 | .slice (some (i, o)) n c => rfl
 | .mapv (some i) => rfl
 | .func f a b => by simp only [AVal.ren, renL_id a, renL_id b]
 | .iface t v => by simp only [AVal.ren, ren_id v]
 | .agg r => by simp only [AVal.ren, renR_id r]
 | .tup l => by simp only [AVal.ren, renL_id l]
 | .bool b => rfl
 | .int k n => rfl
 | .str s => rfl
 | .ptr none => rfl
 | .slice none n c => rfl
 | .mapv none => rfl
 | .nilFunc => rfl
 | .nilIface => rfl
 | .es => rfl
 | .vs _ _ _ => rfl
 | .part k m v lo hi => rfl
 | .junk => rfl
theorem renL_id : ∀ l : List AVal, renL (fun i => i) l = l
 | [] => rfl
 | v :: l => by simp only [renL, ren_id v, renL_id l]
theorem renR_id : ∀ r : Rope AVal, renR (fun i => i) r = r
 | .lst l => by simp only [renR, renL_id l]
 | .rep n a => by simp only [renR, ren_id a]
 | .app m a b => by simp only [renR, renR_id a, renR_id b]
end
theorem renE_id : ∀ l : List (AVal × AVal), renE (fun i => i) l = l
 | [] => rfl
 | (a, b) :: l => by
  show (a.ren _, b.ren _) :: renE _ l = _
  rw [renE_id l, ren_id, ren_id]
theorem renB_id (b : ABlk) : b.ren (fun i => i) = b := by
 cases b with
 | cells r g w => simp only [ABlk.ren, renR_id]
 | map es => simp only [ABlk.ren, renE_id]
 | pmap es => simp only [ABlk.ren, renE_id]
section
variable [RO]
def cutρ (ρ : Ren) (n : Nat) : Ren := fun j => if j < n then ρ j else none
theorem cutρ_le (ρ : Ren) (n : Nat) : (cutρ ρ n).le ρ := by
 intro i l h
 unfold cutρ at h
 split at h
 ·exact h
 ·cases h
theorem cutρ_ge {ρ ρ' : Ren} {n : Nat} (hl : ρ.le ρ') (hd : ∀ i l, ρ i = some l → i < n) : ρ.le (cutρ ρ' n) := by
 intro i l h
 unfold cutρ
 rw [if_pos (hd i l h)]
 exact hl i l h
theorem WR.sub {K : Nat → Prop} {ρ : Ren} {H H2 : AHeap} {w : World} (h : WR K ρ H w) (hs : ∀ i b, H2.get i = some b → H.get i = some b ∧ i < H2.next ∧ ScB H2.next b) : WR K (cutρ ρ H2.next) H2 w := by
 refine ⟨fun i b hb => ?_, fun i j bi bj li lj hi hj hwi hwj hli hlj e => ?_, h.ro, fun i l hi => ?_, h.kb, h.same⟩
 ·obtain ⟨h1, h2, h3⟩ := hs i b hb
  obtain ⟨l, o, g1, g2, g3, g4⟩ := h.live i b h1
  refine ⟨l, o, by simp only [cutρ]; rw [if_pos h2]; exact g1, g2, ?_, g4⟩
  have := BR.pull (ρ := ρ) (π := fun i => i) (n := H2.next) (l := l) (o := o) h3 (by rw [renB_id]; exact g3)
  exact this
 ·exact h.inj i j bi bj li lj (hs i bi hi).1 (hs j bj hj).1 hwi hwj (cutρ_le _ _ _ _ hli) (cutρ_le _ _ _ _ hlj) e
 ·unfold cutρ at hi
  split at hi
  ·assumption
  ·cases hi
def foot (ρ : Ren) (H : AHeap) (b : Nat) : Prop := ∃ i bi l, H.get i = some bi ∧ ρ i = some l ∧ l.blk = b
structure Only (S : Nat → Prop) (w w' : World) : Prop where
 keep : ∀ b, b < w.heap.size → ¬ S b → w'.heap[b]? = w.heap[b]?
 grew : Grew w w'
theorem Only.refl (S : Nat → Prop) (w : World) : Only S w w := ⟨fun _ _ _ => rfl, Grew.refl w⟩
theorem Only.trans {S T : Nat → Prop} {w w1 w2 : World} (h : Only S w w1) (h' : Only T w1 w2) (hT : ∀ b, b < w.heap.size → T b → S b) : Only S w w2 :=
 ⟨fun b hb hn => (h'.keep b (Nat.lt_of_lt_of_le hb h.grew.size) fun ht => hn (hT b hb ht)).trans (h.keep b hb hn), h.grew.trans h'.grew⟩
end
@[reducible] def noRO : RO := ⟨fun _ => False, fun _ => none⟩
attribute [local instance] noRO
def Rep (ρ : Ren) (H : AHeap) (w : World) : Prop := WR (fun _ => False) ρ H w
theorem Rep.other {ρ : Ren} {H : AHeap} {w w' : World} (h : Rep ρ H w) (hk : ∀ b, foot ρ H b → w'.heap[b]? = w.heap[b]?) : Rep ρ H w' := by
 refine ⟨fun i b hb => ?_, h.inj, h.ro, h.dom, fun b hb => hb.elim, fun b hb => (hb : False).elim⟩
 obtain ⟨l, o, h1, h2, h3, h4⟩ := h.live i b hb
 exact ⟨l, o, h1, by rw [hk _ ⟨i, b, l, hb, h1, rfl⟩]; exact h2, h3, h4⟩
theorem Rep.lt {ρ : Ren} {H : AHeap} {w : World} (h : Rep ρ H w) {b : Nat} (hb : foot ρ H b) : b < w.heap.size := by
 obtain ⟨i, bi, l, h1, h2, rfl⟩ := hb
 exact WR.lt h h1 h2
theorem rep_call {P : Program} {E : EnvD} {call : CallF} (hcall : CallOK P E call) {f : FuncId} (hf : E.isF f = true) {l : List AVal} {H H' : AHeap} {v : AVal} (hrun : call f l H = some (.ret v H')) {ρ : Ren} {w : World} {l' : Array Value} (hl : LR ρ l l') (hw : Rep ρ H w) :
  Calls P f l' w fun e w' => ∃ ρ' v', e = .returned v' ∧ VR ρ' v v' ∧ Rep ρ' H' w' ∧ ρ.le ρ' ∧ Only (foot ρ H) w w' ∧ ∀ b, foot ρ' H' b → foot ρ H b ∨ w.heap.size ≤ b := by
 let K : Nat → Prop := fun b => b < w.heap.size ∧ ¬ foot ρ H b
 have hw' : WR K ρ H w := by
  refine ⟨fun i b hb => ?_, hw.inj, fun b hb => hb.elim, hw.dom, fun b hb => hb.1, fun b hb => (hb : False).elim⟩
  obtain ⟨l, o, h1, h2, h3, h4⟩ := hw.live i b hb
  exact ⟨l, o, h1, h2, h3, fun _ hk => hk.2 ⟨i, b, l, hb, h1, rfl⟩, h4.2⟩
 refine (hcall f l H _ hrun hf K ρ w l' hl hw').mono fun e w' hp => ?_
 obtain ⟨ρ', v', he, hv, hp⟩ := hp
 refine ⟨ρ', v', he, hv, ⟨fun i b hb => ?_, hp.wr.inj, fun b hb => hb.elim, hp.wr.dom, fun b hb => hb.elim, fun b hb => (hb : False).elim⟩, hp.le, ⟨fun b hb hn => hp.keep b ⟨hb, hn⟩, hp.size⟩, fun b hb => ?_⟩
 ·obtain ⟨l, o, h1, h2, h3, h4⟩ := hp.wr.live i b hb
  exact ⟨l, o, h1, h2, h3, fun _ hk => hk, fun hf => h4.2 hf⟩
 ·obtain ⟨i, bi, l, h1, h2, rfl⟩ := hb
  obtain ⟨l2, o, g1, g2, g3, g4⟩ := hp.wr.live i bi h1
  rw [h2] at g1; cases g1
  by_cases hlt : l.blk < w.heap.size
  ·by_cases hfo : foot ρ H l.blk
   ·exact .inl hfo
   ·cases hwr : bi.wr with
    | true => exact absurd ⟨hlt, hfo⟩ (g4.1 hwr)
    | false => exact (g4.2 hwr).elim
  ·exact .inr (by omega)
end Go.Sim
end
section
namespace Go.Sim
variable [RO]
def AVal.val1 : AVal → Option Value
 | .int k n => some (.int k n)
 | .bool b => some (.bool b)
 | .slice none 0 0 => some (.slice none 0 0)
 | .nilIface => some .nilIface
 | _ => none
theorem val1_sound {ρ : Ren} {a : AVal} {v u : Value} (h : a.val1 = some u) (hv : VR ρ a v) : v = u := by
 unfold AVal.val1 at h
 split at h <;> simp only [Option.some.injEq, reduceCtorEq] at h <;> subst h <;> cases hv <;> rfl
def valsL (f : AVal → Option Value) : List AVal → Option (List Value)
 | [] => some []
 | a :: l => match f a, valsL f l with
  | some v, some r => some (v :: r)
  | _, _ => none
theorem valsL_sound {ρ : Ren} {f : AVal → Option Value} (hf : ∀ a v u, f a = some u → VR ρ a v → v = u) : ∀ {l : List AVal} {r : List Value} {vs : List Value}, valsL f l = some r → vs.length = l.length → (∀ (i : Nat) x v, l[i]? = some x → vs[i]? = some v → VR ρ x v) → vs = r
 | [], r, vs, h, hl, _ => by
  simp only [valsL, Option.some.injEq] at h; subst h
  exact List.eq_nil_of_length_eq_zero hl
 | a :: l, r, vs, h, hl, hv => by
  simp only [valsL] at h
  split at h
  ·rename_i v r' h1 h2
   simp only [Option.some.injEq] at h; subst h
   cases vs with
   | nil => simp at hl
   | cons v' vs =>
    have e1 := hf a v' v h1 (hv 0 a v' rfl rfl)
    have e2 : vs = r' := valsL_sound hf h2 (by simpa using hl) fun i x u hx hu => hv (i + 1) x u (by simpa using hx) (by simpa using hu)
    rw [e1, e2]
  ·cases h
def AVal.val2 : AVal → Option Value
 | .agg (.lst l) => (valsL AVal.val1 l).map fun r => .agg r.toArray
 | a => a.val1
theorem val2_sound {ρ : Ren} {a : AVal} {v u : Value} (h : a.val2 = some u) (hv : VR ρ a v) : v = u := by
 unfold AVal.val2 at h
 split at h
 ·rename_i l
  obtain ⟨r, hr, rfl⟩ := Option.map_eq_some_iff.1 h
  cases hv with
  | agg hs hg hx =>
   rename_i cs
   have : cs.toList = r := valsL_sound (fun a v u h h' => val1_sound h h') hr (by simpa [Rope.size] using hs) fun i x v hx' hv' => hx i x v (by simpa [Rope.get] using hx') (by simpa using hv')
   rw [← this]
 ·exact val1_sound h hv
def AVal.val3 : AVal → Option Value
 | .tup l => (valsL AVal.val2 l).map fun r => .tuple r.toArray
 | a => a.val2
theorem val3_sound {ρ : Ren} {a : AVal} {v u : Value} (h : a.val3 = some u) (hv : VR ρ a v) : v = u := by
 unfold AVal.val3 at h
 split at h
 ·rename_i l
  obtain ⟨r, hr, rfl⟩ := Option.map_eq_some_iff.1 h
  cases hv with
  | tup hs hx =>
   rename_i cs
   have : cs.toList = r := valsL_sound (fun a v u h h' => val2_sound h h') hr (by simpa using hs) fun i x v hx' hv' => hx i x v hx' (by simpa using hv')
   rw [← this]
 ·exact val2_sound h hv
end Go.Sim
end
section
namespace Go.Sim
section
variable [RO]
mutual
theorem ren_congr {π π' : Nat → Nat} {n : Nat} (h : ∀ i, i < n → π i = π' i) : ∀ a : AVal, Sc n a → a.ren π = a.ren π'
 | .ptr (some (i, o)), hs => by simp only [AVal.ren, h i hs]
 | .slice (some (i, o)) m c, hs => by simp only [AVal.ren, h i hs]
 | .mapv (some i), hs => by simp only [AVal.ren, h i hs]
 | .func f a b, hs => by simp only [AVal.ren, renL_congr h a hs.1, renL_congr h b hs.2]
 | .iface t v, hs => by simp only [AVal.ren, ren_congr h v hs]
 | .agg r, hs => by simp only [AVal.ren, renR_congr h r hs]
 | .tup l, hs => by simp only [AVal.ren, renL_congr h l hs]
 | .bool b, _ => rfl
 | .int k n, _ => rfl
 | .str s, _ => rfl
 | .ptr none, _ => rfl
 | .slice none n c, _ => rfl
 | .mapv none, _ => rfl
 | .nilFunc, _ => rfl
 | .nilIface, _ => rfl
 | .es, _ => rfl
 | .vs _ _ _, _ => rfl
 | .part k m v lo hi, _ => rfl
 | .junk, _ => rfl
theorem renL_congr {π π' : Nat → Nat} {n : Nat} (h : ∀ i, i < n → π i = π' i) : ∀ l : List AVal, ScL n l → renL π l = renL π' l
 | [], _ => rfl
 | v :: l, hs => by simp only [renL, ren_congr h v hs.1, renL_congr h l hs.2]
theorem renR_congr {π π' : Nat → Nat} {n : Nat} (h : ∀ i, i < n → π i = π' i) : ∀ r : Rope AVal, ScR n r → renR π r = renR π' r
 | .lst l, hs => by simp only [renR, renL_congr h l hs]
 | .rep n a, hs => by simp only [renR, ren_congr h a hs]
 | .app m a b, hs => by simp only [renR, renR_congr h a hs.1, renR_congr h b hs.2]
end
structure Canon (H : AHeap) : Prop where
 lt : ∀ i b, H.get i = some b → i < H.next
 rows : ∀ i b, H.get i = some b → ∃ r g, b = .cells r g true ∧ ScR H.next r
structure InAt (k : Nat) (H0 H : AHeap) : Prop where
 next : H0.next + k ≤ H.next
 get : ∀ j, j < H0.next → H.get (j + k) = (H0.get j).map (ABlk.ren (· + k))
theorem InAt.lies {k : Nat} {H0 H : AHeap} (hc : Canon H0) (h : InAt k H0 H) : Lies (· + k) H0 H := by
 refine ⟨fun i j _ _ e => by simpa using e, fun i hi => by have := h.next; show i + k < H.next; omega, fun i b hb => ?_⟩
 have hi := hc.lt i b hb
 obtain ⟨r, g, rfl, hr⟩ := hc.rows i b hb
 exact ⟨hi, hr, by rw [h.get i hi, hb]; rfl⟩
theorem left_at {k : Nat} {H0 H0' H1 H H' : AHeap} (h : InAt k H0 H) (hn : H1.next = H0.next) (hc : Canon H1) (h1 : ∀ j b, H1.get j = some b → H0'.get j = some b) (hnx : H0'.next ≤ 1000) (hnext : H'.next = H.next + 1000)
  (hg : ∀ i b, H'.get i = some b → (∃ j b0, j < H0.next ∧ H1.get j = some b0 ∧ i = j + k ∧ b = b0.ren (· + k)) ∨ (∃ J l, H0.next ≤ J ∧ H0'.get J = some (.cells (.lst l) 6 true) ∧ i = H.next + (J - H0.next) ∧ b = .cells (.lst l) 6 true ∧ ∀ π, renL π l = l) ∨ (H.get i = some b ∧ ∀ j, j < H0.next → i ≠ j + k)) :
  Left (· + k) H0 H0' H H' := by
 refine ⟨by rw [hnext]; omega, fun i b hb => ?_⟩
 rcases hg i b hb with ⟨j, b0, hj, hb0, rfl, rfl⟩ | ⟨J, l, hJ, hJb, rfl, rfl, hl⟩ | ⟨h2, h3⟩
 ·obtain ⟨r, g, rfl, hr⟩ := hc.rows j b0 hb0
  refine .inl ⟨j, _, h1 j _ hb0, by simp [grow, hj], ?_⟩
  simp only [ABlk.ren]
  rw [renR_congr (n := H0.next) (π := (· + k)) (π' := grow (· + k) H0.next H.next) (fun i hi => by simp [grow, hi]) r (by rw [← hn]; exact hr)]
 ·refine .inl ⟨J, _, hJb, by simp [grow, Nat.not_lt.2 hJ], ?_⟩
  simp only [ABlk.ren, renR, hl]
 ·exact .inr ⟨h2, h3⟩
noncomputable def piece (f0 : FuncId) (l0 : List AVal) (pre : AHeap → Prop) (res : AHeap → AVal × AHeap) : CallF := open Classical in fun f l H =>
 if f = f0 ∧ l = l0 ∧ pre H then some (.ret (res H).1 (res H).2) else none
theorem piece_ok {P : Program} {E : EnvD} {f0 : FuncId} {l0 : List AVal} {pre : AHeap → Prop} {res : AHeap → AVal × AHeap}
  (h : ∀ H, pre H → ∀ (K : Nat → Prop) (ρ : Ren) (w : World) (l' : Array Value), LR ρ l0 l' → WR K ρ H w → Calls P f0 l' w (CallPost K ρ w (.ret (res H).1 (res H).2))) : CallOK P E (piece f0 l0 pre res) := by
 intro f l H r hr _ K ρ w l' hl hw
 unfold piece at hr
 split at hr
 ·rename_i hc
  obtain ⟨rfl, rfl, hp⟩ := hc
  simp only [Option.some.injEq] at hr
  subst hr
  exact h H hp K ρ w l' hl hw
 ·cases hr
theorem pure_ok {P : Program} {E : EnvD} {call : CallF} (hcall : CallOK P E call) {f0 : FuncId} (hf : E.isF f0 = true) {l0 : List AVal} {v : AVal} {u : Value} {H' : AHeap} (hl0 : ScL 0 l0) (hrun : call f0 l0 ⟨0, .leaf⟩ = some (.ret v H')) (hv : v.val3 = some u) (hu : ∀ ρ, VR ρ v u) :
  CallOK P E (piece f0 l0 (fun _ => True) fun H => (v, H)) := by
 refine piece_ok fun H _ K ρ w l' hl hw => ?_
 have hl' : LR (fun _ => none) l0 l' := by
  refine ⟨hl.1, fun i x y hx hy => ?_⟩
  have h1 := hl.2 i x y hx hy
  have h2 := VR.pull (ρ := ρ) (π := fun i => i) (n := 0) x y (ScL_get hl0 i x hx) (by rw [ren_id]; exact h1)
  exact h2.mono fun i l h => by simp [pullρ] at h
 refine (hcall f0 l0 _ _ hrun hf _ _ w l' hl' (empty_wr w fun b hb => ⟨hw.kb b (hw.ro b hb), hw.same b hb⟩)).mono fun e w' hp => ?_
 obtain ⟨ρ', v', rfl, hv', hp⟩ := hp
 have := val3_sound hv hv'
 subst this
 exact ⟨ρ, v', rfl, hu ρ, ⟨ρ.le_refl, hw.frame hp.keep hp.size.size, fun b hb => hp.keep b (hw.kb b hb), hp.size⟩⟩
end
end Go.Sim
namespace Go.Sim
section
variable [RO]
def Cov (k : Nat) (H0 H0' H1 H H' : AHeap) : Prop := ∀ i b, H'.get i = some b → (∃ j b0, j < H0.next ∧ H1.get j = some b0 ∧ i = j + k ∧ b = b0.ren (· + k)) ∨ (∃ J l, H0.next ≤ J ∧ H0'.get J = some (.cells (.lst l) 6 true) ∧ i = H.next + (J - H0.next) ∧ b = .cells (.lst l) 6 true ∧ ∀ π, renL π l = l) ∨ (H.get i = some b ∧ ∀ j, j < H0.next → i ≠ j + k)
theorem InAt.split {k : Nat} {H0 H : AHeap} (h : InAt k H0 H) {i : Nat} {b : ABlk} (hb : H.get i = some b) : (∃ j b0, j < H0.next ∧ H0.get j = some b0 ∧ i = j + k ∧ b = b0.ren (· + k)) ∨ (H.get i = some b ∧ ∀ j, j < H0.next → i ≠ j + k) := by
 by_cases hi : ∃ j, j < H0.next ∧ i = j + k
 ·obtain ⟨j, hj, rfl⟩ := hi
  rw [h.get j hj] at hb
  obtain ⟨b0, h0, rfl⟩ := Option.map_eq_some_iff.1 hb
  exact .inl ⟨j, b0, hj, h0, rfl, rfl⟩
 ·exact .inr ⟨hb, fun j hj e => hi ⟨j, hj, e⟩⟩
theorem cov_same {k : Nat} {H0 H0' H H' : AHeap} (h : InAt k H0 H) (hg : ∀ i, H'.get i = H.get i) : Cov k H0 H0' H0 H H' := by
 intro i b hb
 rw [hg] at hb
 rcases h.split hb with h | ⟨_, h2⟩
 ·exact .inl h
 ·exact .inr (.inr ⟨hb, h2⟩)
theorem cov_set {k : Nat} {H0 H0' H1 H H' : AHeap} (h : InAt k H0 H) (hn : 0 < H0.next) {b1 : ABlk} (h0 : H1.get 0 = some b1) (hs : ∀ j, j ≠ 0 → H1.get j = H0.get j) (hg : ∀ i, H'.get i = if k = i then some (b1.ren (· + k)) else H.get i) : Cov k H0 H0' H1 H H' := by
 intro i b hb
 rw [hg] at hb
 split at hb
 ·rename_i e
  simp only [Option.some.injEq] at hb
  exact .inl ⟨0, b1, hn, h0, by omega, hb.symm⟩
 ·rename_i e
  rcases h.split hb with ⟨j, b0, hj, hb0, rfl, rfl⟩ | ⟨_, h2⟩
  ·exact .inl ⟨j, b0, hj, by rw [hs j (by omega)]; exact hb0, rfl, rfl⟩
  ·exact .inr (.inr ⟨hb, h2⟩)
theorem piece_frame {P : Program} {E : EnvD} {call : CallF} (hcall : CallOK P E call) {f0 : FuncId} (hf : E.isF f0 = true) {k : Nat} {l0 : List AVal} {H0 H0' H1 : AHeap} {v0 : AVal} (hrun : call f0 l0 H0 = some (.ret v0 H0')) (hl0 : ScL H0.next l0) (hc0 : Canon H0) (hc : Canon H1) (hn : H1.next = H0.next)
  (h1 : ∀ j b, H1.get j = some b → H0'.get j = some b) (hnx : H0'.next ≤ 1000) {res : AHeap → AVal × AHeap} (hv : ∀ H, (res H).1 = v0.ren (grow (· + k) H0.next H.next)) (hnext : ∀ H, (res H).2.next = H.next + 1000) (hcov : ∀ H, InAt k H0 H → Cov k H0 H0' H1 H (res H).2) :
  CallOK P E (piece f0 (renL (· + k) l0) (InAt k H0) res) := by
 refine piece_ok fun H hp K ρ w l' hl hw => ?_
 rw [hv H]
 exact frame_call hcall hrun hf (hp.lies hc0) hl hl0 hw (left_at hp hn hc h1 hnx (hnext H) (hcov H hp))
end
end Go.Sim
end
section
namespace Go.Proofs.YtdppeaciahdekaaGreatW.PrintLast
section
variable {P : Program} {ops : Array Oper} {Q : Exit → Act → World → Prop} {md : Region.Mode} {S : World → Prop} {ds : List Nat}
def ListedClosed (md : Region.Mode) (ops : Array Oper) (listed : Array Bool) : Prop :=
 ∀ j oj, ops[j]? = some oj → listed.getD j false = true → ∀ e ∈ oj.after, Region.binds md e = true → listed.getD e.on false = true
theorem ListedClosed.set {listed : Array Bool} {i : Nat} (h : ListedClosed md ops listed) (hi : i ∈ Region.ready md ops listed) : ListedClosed md ops (listed.setIfInBounds i true) := by
 obtain ⟨_, oi, hoi, hall⟩ := mem_ready.1 hi
 intro j oj hj hl e he hb
 by_cases hij : i = j
 ·subst hij
  have : oj = oi := Option.some.inj (hj.symm.trans hoi)
  subst this
  exact getD_set_true (hall e he hb)
 ·rw [getD_set_ne false hij] at hl
  exact getD_set_true (h j oj hj hl e he hb)
def wpAnyLast (P : Program) (md : Region.Mode) (ops : Array Oper) (Q : Exit → Act → World → Prop) (S : World → Prop) (ds : List Nat) : Nat → Array Bool → Act → World → Prop
 | 0, listed, a, w => Region.ready md ops listed = [] ∧ Q .normal a w
 | fuel + 1, listed, a, w =>
  (Region.ready md ops listed = [] → Q .normal a w) ∧
  ∀ i ∈ Region.ready md ops listed, wpOp P ops Q i (fun a' w' => (i ∉ ds → S w → S w') ∧ wpAnyLast P md ops Q S ds fuel (listed.setIfInBounds i true) a' w') a w
end
section
variable {P : Program} {ops : Array Oper} {Q : Exit → Act → World → Prop} {md : Region.Mode} {S : World → Prop} {ds : List Nat}
def AllReadyL (P : Program) (md : Region.Mode) (ops : Array Oper) (Q : Exit → Act → World → Prop) (S : World → Prop) (ds : List Nat) (fuel : Nat) (listed : Array Bool) (a : Act) (w : World) (rs : List Nat) : Prop :=
 ∀ i ∈ rs, wpOp P ops Q i (fun a' w' => (i ∉ ds → S w → S w') ∧ wpAnyLast P md ops Q S ds fuel (listed.setIfInBounds i true) a' w') a w
theorem AllReadyL.nil {fuel : Nat} {listed : Array Bool} {a : Act} {w : World} : AllReadyL P md ops Q S ds fuel listed a w [] := fun _ h => by cases h
theorem AllReadyL.cons {fuel : Nat} {listed : Array Bool} {a : Act} {w : World} {i : Nat} {o : Oper} {rs : List Nat} (ho : ops[i]? = some o) (hd : i ∉ ds)
  (h : ∀ K' : Act → World → Prop, Shut (∀ a w, S w → (S w → wpAnyLast P md ops Q S ds fuel (listed.setIfInBounds i true) a w) → K' a w) → if Region.wanted o (yielded ops a.tmps) = true then Oper.wp P o a w K' Q else K' (a.put o.dst undef) w)
  (hs : AllReadyL P md ops Q S ds fuel listed a w rs) : AllReadyL P md ops Q S ds fuel listed a w (i :: rs) := fun j hj => by
 rcases List.mem_cons.1 hj with rfl | hj
 ·exact wpOp_step ho (fun K' hK => h K' (fun a w hS hW => hK a w ⟨fun _ _ => hS, hW hS⟩))
 ·exact hs j hj
def anyB (md : Region.Mode) (ops : Array Oper) (l l' : Array Bool) (i : Nat) : Bool :=
 Region.noSelect ops && Region.free md ops l i && (Region.ready md ops l).contains i && (l.setIfInBounds i true == l')
def putAll : Act → List (Tmp × Value) → Act
 | a, [] => a
 | a, (n, v) :: r => putAll (a.put (some n) v) r
theorem i64_w (n : Int) : IntKind.i64.wrap n = Go.RowKit.wrap64 n := by unfold Go.RowKit.wrap64; exact IntKind.wrap_i64 n
end
end Go.Proofs.YtdppeaciahdekaaGreatW.PrintLast
end
section
namespace Go.Proofs.Tryz.banksL
open Go
variable [Go.Sim.RO]
theorem alloc_set (w : World) (es : Array MapEntry) (c : Nat) (o' : Obj) : (setObj w.heap.size o').run Tryz.prog (w.alloc (.map es c)) = .ok () (w.alloc o') := by
 have h : (w.alloc (.map es c)).heap[w.heap.size]? = some (.map es c) := heap_alloc_new w _
 have h2 : (w.heap.push (.map es c)).setIfInBounds w.heap.size o' = w.heap.push o' := by
  apply Array.ext
  ·simp
  ·intro i h1 h2
   rw [Array.getElem_setIfInBounds (by simpa using h1), Array.getElem_push, Array.getElem_push]
   by_cases e : w.heap.size = i
   ·subst e; simp
   ·simp only [e, if_false]
    have : i < w.heap.size := by simp at h1; omega
    simp [this]
 have h3 : ∀ W : World, W.heap[w.heap.size]? = some (.map es c) → (setObj w.heap.size o').run Tryz.prog W = .ok () { W with heap := W.heap.setIfInBounds w.heap.size o' } := by
  intro W hW
  simp only [setObj, Sem.run, hW]
 rw [h3 _ h]
 show Result.ok () { (w.alloc (.map es c)) with heap := (w.heap.push (.map es c)).setIfInBounds w.heap.size o' } = _
 rw [h2]; rfl
theorem ins (w : World) (es : Array MapEntry) (c : Nat) (k : Int) (v : Value) (h : Instr.findNow (.int .i64) (.int .i64 k) es.toList 0 = some none) :
  (Instr.mapUpdate 189 (.map (some w.heap.size)) (.int .i64 k) v).run Tryz.prog (w.alloc (.map es c)) = .ok () (w.alloc (.map (es.push { key := .int .i64 k, val := v, born := c }) (c + 1))) := by
 have hobj : (getObj w.heap.size).run Tryz.prog (w.alloc (.map es c)) = .ok (.map es c) (w.alloc (.map es c)) := by
  have h : (w.alloc (.map es c)).heap[w.heap.size]? = some (.map es c) := heap_alloc_new w _
  simp only [getObj, Sem.run, h]
 simp only [Instr.mapUpdate, Sem.run_bind, Go.Sim.run_und Tryz.underlying189, Result.andThen_ok, hobj, Go.Sim.run_checkKey_int Tryz.underlying3, Go.Sim.run_findKey_int Tryz.underlying3 h, alloc_set]
def m5 (b o c : Nat) : MapEntry := { key := .int .i64 5, val := .pointer (some ⟨b, o + 8, none⟩), born := c }
def m7 (b o c : Nat) : MapEntry := { key := .int .i64 7, val := .pointer (some ⟨b, o + 16392, none⟩), born := c }
def Q (w : World) (b o : Nat) (e : Ending) (w' : World) : Prop := e = .returned (.map (some w.heap.size)) ∧ ∃ es, (es = #[m5 b o 0, m7 b o 1] ∨ es = #[m7 b o 0, m5 b o 1]) ∧ w' = (w.alloc (.map es 2)).drew
set_option maxRecDepth 100000
set_option maxHeartbeats 1000000 in
theorem banks_any (b o : Nat) (w : World) : Calls Tryz.prog 106 #[.pointer (some ⟨b, o, none⟩)] w (Q w b o) := by
 have hm : ∀ t W, (Instr.makeMap t none).run Tryz.prog W = .ok (.map (some W.heap.size)) (W.alloc (.map #[] 0)) := fun _ _ => rfl
 have i5 : ∀ (w : World) (v : Value), (Instr.mapUpdate 189 (.map (some w.heap.size)) (.int .i64 5) v).run Tryz.prog (w.alloc (.map #[] 0)).drew = .ok () (w.alloc (.map #[{ key := .int .i64 5, val := v, born := 0 }] 1)).drew := fun w v => ins w.drew _ _ 5 v (by rfl)
 have i7 : ∀ (w : World) (v : Value), (Instr.mapUpdate 189 (.map (some w.heap.size)) (.int .i64 7) v).run Tryz.prog (w.alloc (.map #[] 0)).drew = .ok () (w.alloc (.map #[{ key := .int .i64 7, val := v, born := 0 }] 1)).drew := fun w v => ins w.drew _ _ 7 v (by rfl)
 have i57 : ∀ (w : World) (v u : Value), (Instr.mapUpdate 189 (.map (some w.heap.size)) (.int .i64 7) v).run Tryz.prog (w.alloc (.map #[{ key := .int .i64 5, val := u, born := 0 }] 1)).drew = .ok () (w.alloc (.map #[{ key := .int .i64 5, val := u, born := 0 }, { key := .int .i64 7, val := v, born := 1 }] 2)).drew := fun w v u => ins w.drew _ _ 7 v (by rfl)
 have i75 : ∀ (w : World) (v u : Value), (Instr.mapUpdate 189 (.map (some w.heap.size)) (.int .i64 5) v).run Tryz.prog (w.alloc (.map #[{ key := .int .i64 7, val := u, born := 0 }] 1)).drew = .ok () (w.alloc (.map #[{ key := .int .i64 7, val := u, born := 0 }, { key := .int .i64 5, val := v, born := 1 }] 2)).drew := fun w v u => ins w.drew _ _ 5 v (by rfl)
 go_enter Tryz.func106, Tryz.ntmps106
 go_wp2
 go_region
 ·go_wp2
  go_ret
  exact ⟨rfl, _, .inl rfl, rfl⟩
 ·go_wp2
  go_ret
  exact ⟨rfl, _, .inr rfl, rfl⟩
end Go.Proofs.Tryz.banksL
namespace Go.Sim
open Go.Proofs.Tryz.banksL
variable [RO]
def banksExt : CallF := fun f l H => match l with
 | [.ptr (some (i, o))] => bif Nat.beq f 106 then some (.ret (.mapv (some H.next)) (H.new (.pmap [(.int .i64 5, .ptr (some (i, o + 8))), (.int .i64 7, .ptr (some (i, o + 16392)))]))) else none
 | _ => none
theorem banksExt_ok (E : EnvD) : CallOK Go.Proofs.Tryz.prog E banksExt := by
 intro f l H r hr _ K ρ w l' hl hw
 unfold banksExt at hr
 split at hr
 ·rename_i i o
  cases e : Nat.beq f 106 with
  | false => rw [e] at hr; cases hr
  | true =>
   rw [e] at hr
   simp only [cond_true, Option.some.injEq] at hr
   subst hr
   have := Nat.eq_of_beq_eq_true e
   subst this
   obtain ⟨hs, hv⟩ := hl
   obtain ⟨v, rfl⟩ : ∃ v, l' = #[v] := by
    have : l'.size = 1 := by simpa using hs
    refine ⟨l'[0], ?_⟩
    apply Array.ext
    ·simp [this]
    ·intro j h1 h2
     have : j = 0 := by omega
     subst this; rfl
   have h0 := hv 0 _ v rfl rfl
   cases h0 with
   | ptr hρ =>
    rename_i l
    refine (banks_any l.blk (l.off + o) w).mono fun e w' hq => ?_
    obtain ⟨rfl, es, hes, rfl⟩ := hq
    have hw' : WR K ρ H w.drew := hw.of_heap rfl
    have hb : BR ρ ⟨w.heap.size, 0, 0⟩ (.pmap [(.int .i64 5, .ptr (some (i, o + 8))), (.int .i64 7, .ptr (some (i, o + 16392)))]) (.map es 2) := by
     rcases hes with rfl | rfl
     ·refine .pmap (m := [m5 l.blk (l.off + o) 0, m7 l.blk (l.off + o) 1]) (List.Perm.refl _) rfl ?_
      intro k e e' h1 h2
      match k with
      | 0 => simp at h1 h2; subst h1 h2; exact ⟨.int _ _, by rw [m5, Nat.add_assoc]; exact .ptr hρ⟩
      | 1 => simp at h1 h2; subst h1 h2; exact ⟨.int _ _, by rw [m7, Nat.add_assoc]; exact .ptr hρ⟩
      | k + 2 => simp at h1
     ·refine .pmap (m := [m5 l.blk (l.off + o) 1, m7 l.blk (l.off + o) 0]) (List.Perm.swap _ _ _) rfl ?_
      intro k e e' h1 h2
      match k with
      | 0 => simp at h1 h2; subst h1 h2; exact ⟨.int _ _, by rw [m5, Nat.add_assoc]; exact .ptr hρ⟩
      | 1 => simp at h1 h2; subst h1 h2; exact ⟨.int _ _, by rw [m7, Nat.add_assoc]; exact .ptr hρ⟩
      | k + 2 => simp at h1
    have hp := hw'.new _ _ _ rfl rfl hb
    refine ⟨fun i => if i = H.next then some ⟨w.heap.size, 0, 0⟩ else ρ i, _, rfl, .map (l := ⟨w.heap.size, 0, 0⟩) (by simp), ?_⟩
    exact ⟨hp.le, hp.wr, hp.keep, ⟨hp.size.size, hp.size.os, hp.size.out, hp.size.tape⟩⟩
 ·cases hr
end Go.Sim
end
