/- Calls: what the evaluator finds is what the model does; deferred calls and recover. -/
import Derived.Test.YtdppeaciahdekaaGreatSimCode
set_option linter.unusedSimpArgs false
namespace Go.Sim

/-- The function is the evaluator's. -/
def funcChk (P : Program) (E : EnvD) (fn : Func) (af : AFunc) : Bool :=
  Nat.beq fn.ntmps af.n && !(decide (fn.name = "runtime.NumGoroutine")) && resChk P fn.results.toList af.res && (match fn.body with
    | some c => codeOK P E c af.body
    | none => false)

structure FuncOK (P : Program) (E : EnvD) (f : FuncId) (fn : Func) (c : Code) (af : AFunc) : Prop where
  func : P.funcs[f]? = some fn
  body : fn.body = some c
  n : fn.ntmps = af.n
  name : fn.name ≠ "runtime.NumGoroutine"
  res : resChk P fn.results.toList af.res = true
  code : codeOK P E c af.body = true

theorem funcChk_sound {P : Program} {E : EnvD} {f : FuncId} {fn : Func} {af : AFunc} (hf : P.funcs[f]? = some fn) (h : funcChk P E fn af = true) : ∃ c, FuncOK P E f fn c af := by
  simp only [funcChk, Bool.and_eq_true] at h
  obtain ⟨⟨⟨h1, h0⟩, h2⟩, h3⟩ := h
  split at h3
  · rename_i c hc
    exact ⟨c, hf, hc, Nat.eq_of_beq_eq_true h1, by simpa using h0, h2, h3⟩
  · cases h3

def CodesOK (P : Program) (E : EnvD) (C : FuncId → Option AFunc) : Prop := ∀ f af, C f = some af → ∃ fn c, FuncOK P E f fn c af

/-- The panic that can be recovered, and the mode of the frame that leaves. -/
def ModeR (ρ : Ren) (m : Option AVal) (u : FrameMode) : Prop :=
  match m with
  | none => u = .returning ∨ ∃ v, u = .panicking [{ v, recovered := true }]
  | some x => ∃ v, u = .panicking [{ v, recovered := false }] ∧ VR ρ x v

theorem ModeR.mono {ρ ρ' : Ren} (hl : ρ.le ρ') {m : Option AVal} {u : FrameMode} (h : ModeR ρ m u) : ModeR ρ' m u := by
  unfold ModeR at h ⊢
  split
  · exact h
  · obtain ⟨v, h1, h2⟩ := h; exact ⟨v, h1, h2.mono hl⟩

section
variable {P : Program} {E : EnvD} {call : CallF} {n : Nat} {K : Nat → Prop} {ρ0 : Ren} {w0 : World}

theorem tinit_get : ∀ (l : List AVal) (k t : Nat), tget (tinit l k) t = if k ≤ t ∧ t < k + l.length then (l[t - k]?).getD AVal.undef else AVal.undef
  | [], k, t => by simp [tinit, tget, Trie.get_leaf]
  | v :: l, k, t => by
    have ih := tinit_get l (k + 1) t
    unfold tget at ih ⊢
    simp only [tinit]
    rw [Trie.get_set]
    by_cases e : k = t
    · subst e; simp
    · simp only [e, if_false]
      rw [ih]
      by_cases e2 : k + 1 ≤ t ∧ t < k + 1 + l.length
      · rw [if_pos e2, if_pos (by simp; omega), show t - k = (t - (k + 1)) + 1 by omega]
        simp
      · rw [if_neg e2, if_neg (by simp; omega)]

theorem tinit_sound {ρ : Ren} {l : List AVal} {l' : Array Value} (h : LR ρ l l') (m : Nat) : TR ρ (tinit l 0) (l' ++ Array.replicate m Go.undef) := by
  intro t
  rw [tinit_get, Array.getD_eq_getD_getElem?, Array.getElem?_append]
  by_cases e : t < l.length
  · rw [if_pos (by omega), if_pos (by rw [h.1]; exact e)]
    have e' : t < l'.size := by rw [h.1]; exact e
    have := h.2 t l[t] l'[t] (by simp [e]) (by simp [e'])
    simpa [e, e'] using this
  · rw [if_neg (by omega), if_neg (by rw [h.1]; exact e)]
    have : ((Array.replicate m Go.undef)[t - l'.size]?).getD Go.undef = Go.undef := by
      rw [Array.getElem?_replicate]; split <;> rfl
    rw [this]
    exact VR.undef ρ

/-- What a deferred call's body leaves. -/
def CodePostS (E : EnvD) (n : Nat) (K : Nat → Prop) (ρ0 : Ren) (w0 : World) (c0 : Frame) (cs0 : List Frame) (x : AX) (s : St) (m : Option AVal) (e : Exit) (a : Act) (cs : List Frame) (w' : World) : Prop :=
  ∃ u ρ', cs = { c0 with mode := u } :: cs0 ∧ ModeR ρ' m u ∧ Post K ρ0 w0 ρ' s.H w' ∧ TR ρ' s.T a.tmps ∧ a.tmps.size = n ∧ DR E ρ' s.D a.defers ∧ AXR ρ' x e

theorem recoverD_of {ρ : Ren} {m : Option AVal} {u : FrameMode} (c0 : Frame) (cs0 : List Frame) (h : ModeR ρ m u) :
    match m with
    | none => recoverD ({ c0 with mode := u } :: cs0) = none
    | some x => ∃ v u', recoverD ({ c0 with mode := u } :: cs0) = some (v, { c0 with mode := u' } :: cs0) ∧ VR ρ x v ∧ ModeR ρ none u' := by
  unfold ModeR at h
  split at h
  · rcases h with rfl | ⟨v, rfl⟩ <;> rfl
  · obtain ⟨v, rfl, h2⟩ := h
    exact ⟨v, .panicking [{ v, recovered := true }], rfl, h2, .inr ⟨v, rfl⟩⟩

theorem aitemsS_sound (hE : EnvOK P E) (hcall : CallOK P E call) {ops : Array Oper} {x : AX} {s' : St} {m' : Option AVal} (c0 : Frame) (cs0 : List Frame) : ∀ (its : List AItem) (os : List Oper) (k : Nat) (s : St) (m : Option AVal) (ρ : Ren) (a : Act) (u : FrameMode) (w : World),
    regChk P E ops.toList os its = true → (∀ (i : Nat) o, os[i]? = some o → ops[k + i]? = some o) → aitemsS call E n its m s = some (x, s', m') → ModeR ρ m u → Post K ρ0 w0 ρ s.H w → TR ρ s.T a.tmps → a.tmps.size = n → DR E ρ s.D a.defers →
    wpOpsS P ops (CodePostS E n K ρ0 w0 c0 cs0 x s' m') (List.range' k os.length) a ({ c0 with mode := u } :: cs0) w
  | [], [], k, s, m, ρ, a, u, w, _, _, h, hm, hp, ht, hn, hD => by
    simp only [aitemsS, Option.some.injEq, Prod.mk.injEq] at h
    obtain ⟨rfl, rfl, rfl⟩ := h
    exact ⟨u, ρ, rfl, hm, hp, ht, hn, hD, rfl⟩
  | [], _ :: _, _, _, _, _, _, _, _, h, _, _, _, _, _, _, _ => by simp [regChk] at h
  | _ :: _, [], _, _, _, _, _, _, _, h, _, _, _, _, _, _, _ => by simp [regChk] at h
  | it :: its, o :: os, k, s, m, ρ, a, u, w, hc, hops, h, hm, hp, ht, hn, hD => by
    simp only [regChk, Bool.and_eq_true] at hc
    have hio := itemChk_sound hc.1
    have ho : ops[k]? = some o := hops 0 o rfl
    have hops' : ∀ (i : Nat) o', os[i]? = some o' → ops[k + 1 + i]? = some o' := by
      intro i o' hi
      have := hops (i + 1) o' (by simpa using hi)
      rwa [show k + 1 + i = k + (i + 1) by omega]
    have next : ∀ (v : AVal) (u1 : Value) (T : Tmps) (H : AHeap) (D : List (FuncId × List AVal)) (ρ1 : Ren) (w1 : World) (a1 : Act) (m1 : Option AVal) (md : FrameMode), tput n it.dst v s.T = some T → aitemsS call E n its m1 ⟨T, H, D⟩ = some (x, s', m') → ModeR ρ1 m1 md → VR ρ1 v u1 → Post K ρ w ρ1 H w1 →
        a1.tmps = a.tmps → DR E ρ1 D a1.defers → wpOpsS P ops (CodePostS E n K ρ0 w0 c0 cs0 x s' m') (List.range' (k + 1) os.length) (a1.put o.dst u1) ({ c0 with mode := md } :: cs0) w1 := by
      intro v u1 T H D ρ1 w1 a1 m1 md h1 h2 h2' h3 h4 h5 h6
      rw [hio.dst]
      obtain ⟨p1, p2, p3⟩ := tput_sound (a := a1) (by rw [h5]; exact ht.mono h4.le) (by rw [h5]; exact hn) h1 h3
      exact aitemsS_sound hE hcall c0 cs0 its os (k + 1) ⟨T, H, D⟩ m1 ρ1 _ md w1 hc.2 hops' h2 h2' (hp.trans h4) p1 p2 (by rw [p3]; exact h6)
    rw [List.length_cons, List.range'_succ]
    simp only [wpOpsS, ho]
    simp only [aitemsS] at h
    split at h
    · cases h
    · rename_i hw1
      rw [wanted_sound ht hio.guard hw1]
      simp only [if_true]
      split at h
      · rename_i v H1 hop
        split at h
        · rename_i T1 hT
          obtain ⟨ρ1, v', w1, g1, g2, g3⟩ := op_sound hE ht hp.wr (comp_of hio hop) hop
          rcases g1 with g1 | ⟨g1, rfl⟩
          · rw [g1]
            exact next v v' T1 H1 s.D ρ1 w1 a m u hT h (hm.mono g3.le) g2 g3 rfl (hD.mono g3.le)
          · rw [g1]
            exact next v _ T1 H1 s.D ρ1 w1 a m u hT h (hm.mono g3.le) g2 g3 rfl (hD.mono g3.le)
        · cases h
      · rename_i f args H1 hop
        obtain ⟨l', g1, g2, g3, g4⟩ := op_sound hE ht hp.wr (comp_of hio hop) hop
        subst g3
        rw [g1]
        simp only [Oper.upon]
        split at h
        · rename_i v H2 hcl
          split at h
          · rename_i T1 hT
            refine (hcall f args _ _ hcl g4 K ρ w l' g2 hp.wr).mono fun e w' hq => ?_
            obtain ⟨ρ1, v', rfl, q1, q2⟩ := hq
            exact next v v' T1 H2 s.D ρ1 w' a m u hT h (hm.mono q2.le) q1 q2 rfl (hD.mono q2.le)
          · cases h
        · rename_i v H2 hcl
          simp only [Option.some.injEq, Prod.mk.injEq] at h
          obtain ⟨rfl, rfl, rfl⟩ := h
          refine (hcall f args _ _ hcl g4 K ρ w l' g2 hp.wr).mono fun e w' hq => ?_
          obtain ⟨ρ1, v', rfl, q1, q2⟩ := hq
          exact ⟨u, ρ1, rfl, hm.mono q2.le, hp.trans q2, ht.mono q2.le, hn, hD.mono q2.le, _, rfl, q1⟩
        · cases h
      · rename_i v H1 hop
        simp only [Option.some.injEq, Prod.mk.injEq] at h
        obtain ⟨rfl, rfl, rfl⟩ := h
        obtain ⟨v', g1, g2, g3⟩ := op_sound hE ht hp.wr (comp_of hio hop) hop
        subst g3
        rw [g1]
        exact ⟨u, ρ, rfl, hm, hp, ht, hn, hD, _, rfl, g2⟩
      · rename_i H1 hop
        obtain ⟨g1, g2⟩ := op_sound hE ht hp.wr (comp_of hio hop) hop
        subst g2
        rw [g1]
        simp only
        split at h
        · rename_i T1 hT
          have hrec := recoverD_of c0 cs0 hm
          cases m with
          | none =>
            simp only at hrec
            rw [hrec]
            exact next _ .nilIface T1 _ s.D ρ w a none u hT h hm .nilIface (Post.refl hp.wr) rfl hD
          | some y =>
            obtain ⟨v, u', h1, h2, h3⟩ := hrec
            rw [h1]
            exact next _ v T1 _ s.D ρ w a none u' hT h h3 h2 (Post.refl hp.wr) rfl hD
        · cases h
      · cases h
    · rename_i hw1
      rw [wanted_sound ht hio.guard hw1]
      simp only [Bool.false_eq_true, if_false]
      split at h
      · rename_i T1 hT
        exact next _ _ T1 _ _ ρ w a m u hT h hm (VR.undef ρ) (Post.refl hp.wr) rfl hD
      · cases h

theorem aexecS_sound (hP : P.follows .mixedOrders = true) (hE : EnvOK P E) (hcall : CallOK P E call) {lf : Nat} (c0 : Frame) (cs0 : List Frame) : ∀ (ac : ACode) (c : Code) (s s' : St) (x : AX) (m m' : Option AVal) (ρ : Ren) (a : Act) (u : FrameMode) (w : World),
    codeOK P E c ac = true → aexecS call E n lf ac m s = some (x, s', m') → ModeR ρ m u → Post K ρ0 w0 ρ s.H w → TR ρ s.T a.tmps → a.tmps.size = n → DR E ρ s.D a.defers → c.wpS P (CodePostS E n K ρ0 w0 c0 cs0 x s' m') a ({ c0 with mode := u } :: cs0) w := by
  intro ac
  have plain : ∀ (ac : ACode) (c : Code) (s s' : St) (x : AX) (m m' : Option AVal) (ρ : Ren) (a : Act) (u : FrameMode) (w : World), codeOK P E c ac = true → (match aexec call E n lf ac s with
    | some (x, s') => some (x, s', m)
    | none => none) = some (x, s', m') → ModeR ρ m u → Post K ρ0 w0 ρ s.H w → TR ρ s.T a.tmps → a.tmps.size = n → DR E ρ s.D a.defers → c.wpS P (CodePostS E n K ρ0 w0 c0 cs0 x s' m') a ({ c0 with mode := u } :: cs0) w := by
    intro ac c s s' x m m' ρ a u w hc h hm hp ht hn hD
    split at h
    · rename_i x1 s1 h1
      simp only [Option.some.injEq, Prod.mk.injEq] at h
      obtain ⟨rfl, rfl, rfl⟩ := h
      refine wpS_of_wp ?_
      refine Code.wp_mono ?_ (aexec_sound hP hE hcall ac c s _ _ ρ a w hc h1 (Post.refl hp.wr) ht hn hD)
      rintro e a1 w1 ⟨ρ1, q1, q2, q3, q4, q5⟩
      exact ⟨u, ρ1, rfl, hm.mono q1.le, hp.trans q1, q2, q3, q4, q5⟩
    · cases h
  induction ac with
  | reg l =>
    intro c s s' x m m' ρ a u w hc h hm hp ht hn hD
    cases c <;> simp only [codeOK, Bool.false_eq_true] at hc
    rename_i id ops d
    simp only [Bool.and_eq_true, Bool.not_eq_true'] at hc
    obtain ⟨rfl, hc⟩ := hc
    refine wpS_region ?_
    have := aitemsS_sound hE hcall c0 cs0 l ops.toList 0 s m ρ a u w hc (fun i o hi => by simpa using hi) h hm hp ht hn hD
    rw [Array.length_toList] at this
    rw [List.range_eq_range']
    exact this
  | seq p q ih1 ih2 =>
    intro c s s' x m m' ρ a u w hc h hm hp ht hn hD
    cases c <;> simp only [codeOK, Bool.false_eq_true] at hc
    simp only [Bool.and_eq_true] at hc
    refine wpS_seq ?_
    simp only [aexecS] at h
    have mono : ∀ {c : Code} {Q Q' : Exit → Act → List Frame → World → Prop} {a : Act} {cs : List Frame} {w : World}, (∀ e a cs w, Q e a cs w → Q' e a cs w) → c.wpS P Q a cs w → c.wpS P Q' a cs w :=
      fun hq h b k hb hr => let ⟨e, a', cs', w', q, arr⟩ := h b k hb hr; ⟨e, a', cs', w', hq _ _ _ _ q, arr⟩
    split at h
    · rename_i s1 m1 h1
      refine mono ?_ (ih1 _ s s1 .normal m m1 ρ a u w hc.1 h1 hm hp ht hn hD)
      rintro e a1 cs1 w1 ⟨u1, ρ1, rfl, q0, q1, q2, q3, q4, rfl⟩
      exact ih2 _ s1 s' x m1 m' ρ1 a1 u1 w1 hc.2 h q0 q1 q2 q3 q4
    · rename_i r hne
      refine mono ?_ (ih1 _ s s' x m m' ρ a u w hc.1 h hm hp ht hn hD)
      rintro e a1 cs1 w1 ⟨u1, ρ1, rfl, q0, q1, q2, q3, q4, q5⟩
      cases x with
      | normal => exact absurd h (hne s' m')
      | exit id => cases q5; exact ⟨u1, ρ1, rfl, q0, q1, q2, q3, q4, rfl⟩
      | ret => cases q5; exact ⟨u1, ρ1, rfl, q0, q1, q2, q3, q4, rfl⟩
      | panic v => obtain ⟨y, rfl, q6⟩ := q5; exact ⟨u1, ρ1, rfl, q0, q1, q2, q3, q4, y, rfl, q6⟩
  | cond o p q ih1 ih2 =>
    intro c s s' x m m' ρ a u w hc h hm hp ht hn hD
    cases c <;> simp only [codeOK, Bool.false_eq_true] at hc
    simp only [Bool.and_eq_true] at hc
    have := eqO_sound hc.1.1
    subst this
    simp only [aexecS] at h
    split at h
    · rename_i hv
      exact wpS_cond (t := true) (aev_sound ht hv).bool_inv (ih1 _ s s' x m m' ρ a u w hc.1.2 h hm hp ht hn hD)
    · rename_i hv
      exact wpS_cond (t := false) (aev_sound ht hv).bool_inv (ih2 _ s s' x m m' ρ a u w hc.2 h hm hp ht hn hD)
    · cases h
  | skip => intro c s s' x m m' ρ a u w hc h; exact plain _ c s s' x m m' ρ a u w hc h
  | drg l => intro c s s' x m m' ρ a u w hc h; exact plain _ c s s' x m m' ρ a u w hc h
  | blk id p _ => intro c s s' x m m' ρ a u w hc h; exact plain _ c s s' x m m' ρ a u w hc h
  | loop p _ => intro c s s' x m m' ρ a u w hc h; exact plain _ c s s' x m m' ρ a u w hc h
  | exit id => intro c s s' x m m' ρ a u w hc h; exact plain _ c s s' x m m' ρ a u w hc h
  | ret => intro c s s' x m m' ρ a u w hc h; exact plain _ c s s' x m m' ρ a u w hc h
  | bad => intro c s s' x m m' ρ a u w hc h; exact plain _ c s s' x m m' ρ a u w hc h

theorem settle_mode {ρ : Ren} {m : Option AVal} {u : FrameMode} (h : ModeR ρ m u) : (m = none ∧ settle u = .returning) ∨ ∃ x v, m = some x ∧ settle u = .panicking [{ v, recovered := false }] ∧ VR ρ x v := by
  unfold ModeR at h
  split at h
  · rcases h with rfl | ⟨v, rfl⟩
    · exact .inl ⟨rfl, rfl⟩
    · exact .inl ⟨rfl, rfl⟩
  · obtain ⟨v, rfl, h2⟩ := h
    exact .inr ⟨_, v, rfl, rfl, h2⟩

/-- A deferred call. -/
theorem acallD_sound (hP : P.follows .mixedOrders = true) (hE : EnvOK P E) (hcall : CallOK P E call) {C : FuncId → Option AFunc} (hC : CodesOK P E C) {lf : Nat} {f : FuncId} {args : List AVal} {args' : Array Value} {m m' : Option AVal} {ρ : Ren} {u : FrameMode} {H H' : AHeap} {w : World}
    (h : acallD call C E lf f args m H = some (m', H')) (hl : LR ρ args args') (hm : ModeR ρ m u) (hp : Post K ρ0 w0 ρ H w) :
    CallsD P f args' u w fun e u' w' => ∃ ρ' v, e = .returned v ∧ ModeR ρ' m' u' ∧ Post K ρ w ρ' H' w' := by
  unfold acallD at h
  split at h
  · rename_i af haf
    obtain ⟨fn, c, hfc⟩ := hC f af haf
    split at h
    · rename_i hle
      refine callsD_of_wpS hfc.func hfc.body fun c₀ cs hu => ?_
      have hc0 : ({ c₀ with mode := u } : Frame) = c₀ := by subst hu; rfl
      have hT0 : TR ρ (tinit args 0) (args' ++ Array.replicate (fn.ntmps - args'.size) Go.undef) := tinit_sound hl _
      have hsz : (args' ++ Array.replicate (fn.ntmps - args'.size) Go.undef).size = af.n := by
        rw [Array.size_append, Array.size_replicate, hl.1, hfc.n]; omega
      have key : ∀ (x : AX) (s : St) (m1 : Option AVal), (x = .normal ∨ x = .ret) → aexecS call E af.n lf af.body m ⟨tinit args 0, H, []⟩ = some (x, s, m1) → (match s.D, aresults s.T s.H af.res with
          | [], some _ => some (m1, s.H)
          | _, _ => none) = some (m', H') → c.wpS P (bodyPostS P fn c₀ cs fun e u' w' => ∃ ρ' v, e = .returned v ∧ ModeR ρ' m' u' ∧ Post K ρ w ρ' H' w') { tmps := args' ++ Array.replicate (fn.ntmps - args'.size) Go.undef, defers := [] } (c₀ :: cs) w := by
        intro x s m1 hx h1 h2
        split at h2
        · rename_i v hsD hres
          simp only [Option.some.injEq, Prod.mk.injEq] at h2
          obtain ⟨rfl, rfl⟩ := h2
          have := aexecS_sound (K := K) (ρ0 := ρ) (w0 := w) hP hE hcall c₀ cs af.body c ⟨tinit args 0, H, []⟩ s x m m1 ρ { tmps := args' ++ Array.replicate (fn.ntmps - args'.size) Go.undef, defers := [] } u w hfc.code h1 hm (Post.refl hp.wr) hT0 hsz .nil
          rw [hc0] at this
          intro b k hb hr
          obtain ⟨e, a1, cs1, w1, hq, harr⟩ := this b k hb hr
          refine ⟨e, a1, cs1, w1, ?_, harr⟩
          obtain ⟨u1, ρ1, rfl, q0, q1, q2, q3, q4, q5⟩ := hq
          obtain ⟨y, r1, r2⟩ := results_sound (P := P) (fn := fn) q2 q1.wr hfc.res hres
          rw [hsD] at q4
          have hd : a1.defers = [] := by
            generalize a1.defers = ds at q4
            cases q4; rfl
          rcases hx with rfl | rfl <;> cases q5 <;> exact ⟨hd, u1, rfl, y, r1, ρ1, y, rfl, q0, q1⟩
        · cases h2
      split at h
      · rename_i s m1 h1
        exact key _ s m1 (.inl rfl) h1 h
      · rename_i s m1 h1
        exact key _ s m1 (.inr rfl) h1 h
      · cases h
    · cases h
  · cases h

theorem aleave_sound (hP : P.follows .mixedOrders = true) (hE : EnvOK P E) (hcall : CallOK P E call) {C : FuncId → Option AFunc} (hC : CodesOK P E C) {lf : Nat} {T : Tmps} {res : List ARes} {fn : Func} {tmps : Array Value} {r : CRes} (hres : resChk P fn.results.toList res = true) :
    ∀ (D : List (FuncId × List AVal)) (ds : List Deferred) (m : Option AVal) (u : FrameMode) (H : AHeap) (ρ : Ren) (w : World), aleave call C E lf T res D m H = some r → DR E ρ D ds → ((m = none ∧ u = .returning) ∨ ∃ x v, m = some x ∧ u = .panicking [{ v, recovered := false }] ∧ VR ρ x v) →
      TR ρ T tmps → Post K ρ0 w0 ρ H w → Leaves P fn tmps (CallPost K ρ0 w0 r) ds u w
  | [], ds, m, u, H, ρ, w, h, hD, hm, ht, hp => by
    cases hD
    rcases hm with ⟨rfl, rfl⟩ | ⟨x, v, rfl, rfl, hv⟩
    · simp only [aleave] at h
      split at h
      · rename_i v hv
        simp only [Option.some.injEq] at h
        subst h
        obtain ⟨y, r1, r2⟩ := results_sound (P := P) (fn := fn) ht hp.wr hres hv
        exact ⟨y, r1, ρ, y, rfl, r2, hp⟩
      · cases h
    · simp only [aleave, Option.some.injEq] at h
      subst h
      exact ⟨ρ, v, rfl, hv, hp⟩
  | (f, l) :: D, ds, m, u, H, ρ, w, h, hD, hm, ht, hp => by
    cases hD with
    | cons hf hl hD =>
      rename_i cap da ds
      simp only [aleave] at h
      split at h
      · rename_i m1 H1 h1
        have hu : u ≠ .run := by
          rcases hm with ⟨_, rfl⟩ | ⟨_, _, _, rfl, _⟩ <;> simp
        have hmr : ModeR ρ m u := by
          rcases hm with ⟨rfl, rfl⟩ | ⟨x, v, rfl, rfl, hv⟩
          · exact .inl rfl
          · exact ⟨v, rfl, hv⟩
        refine leaves_cons hu (f := f) (args := da ++ cap) (by simp only [invoke]; exact run_callFunc hE hf _) ?_
        refine (acallD_sound hP hE hcall hC h1 hl hmr hp).mono ?_
        rintro e u' w' ⟨ρ', v, rfl, q1, q2⟩
        exact aleave_sound hP hE hcall hC hres D ds m1 (settle u') H1 ρ' w' h (hD.mono q2.le) (settle_mode q1) (ht.mono q2.le) (hp.trans q2)
      · cases h

theorem acall_sound (hP : P.follows .mixedOrders = true) (hE : EnvOK P E) {C : FuncId → Option AFunc} (hC : CodesOK P E C) {ext : CallF} (hext : CallOK P E ext) {lf : Nat} : ∀ k, CallOK P E (acall C ext E lf k)
  | 0 => by intro f l H r h; simp [acall] at h
  | k + 1 => by
    intro f l H r h hf K ρ w l' hl hw
    simp only [acall] at h
    split at h
    · rename_i r1 h1
      simp only [Option.some.injEq] at h
      subst h
      exact hext f l H _ h1 hf K ρ w l' hl hw
    · have ih := acall_sound hP hE hC hext (lf := lf) k
      split at h
      · rename_i af haf
        obtain ⟨fn, c, hfc⟩ := hC f af haf
        split at h
        · rename_i hle
          have hT0 : TR ρ (tinit l 0) (l' ++ Array.replicate (fn.ntmps - l'.size) Go.undef) := tinit_sound hl _
          have hsz : (l' ++ Array.replicate (fn.ntmps - l'.size) Go.undef).size = af.n := by
            rw [Array.size_append, Array.size_replicate, hl.1, hfc.n]; omega
          refine calls_of_wp_defers hfc.func hfc.body ?_
          have body : ∀ (x : AX) (s : St), aexec (acall C ext E lf k) E af.n lf af.body ⟨tinit l 0, H, []⟩ = some (x, s) → c.wp P (CodePost E af.n K ρ w x s) { tmps := l' ++ Array.replicate (fn.ntmps - l'.size) Go.undef, defers := [] } w :=
            fun x s h1 => aexec_sound hP hE ih af.body c ⟨tinit l 0, H, []⟩ s x ρ _ w hfc.code h1 (Post.refl hw) hT0 hsz .nil
          split at h
          · rename_i s h1
            refine Code.wp_mono ?_ (body _ s h1)
            rintro e a1 w1 ⟨ρ1, q1, q2, q3, q4, rfl⟩
            exact aleave_sound hP hE ih hC hfc.res s.D a1.defers none .returning s.H ρ1 w1 h q4 (.inl ⟨rfl, rfl⟩) q2 q1
          · rename_i s h1
            refine Code.wp_mono ?_ (body _ s h1)
            rintro e a1 w1 ⟨ρ1, q1, q2, q3, q4, rfl⟩
            exact aleave_sound hP hE ih hC hfc.res s.D a1.defers none .returning s.H ρ1 w1 h q4 (.inl ⟨rfl, rfl⟩) q2 q1
          · rename_i v s h1
            refine Code.wp_mono ?_ (body _ s h1)
            rintro e a1 w1 ⟨ρ1, q1, q2, q3, q4, y, rfl, q6⟩
            exact aleave_sound hP hE ih hC hfc.res s.D a1.defers (some v) (.panicking [{ v := y, recovered := false }]) s.H ρ1 w1 h q4 (.inr ⟨v, y, rfl, rfl, q6⟩) q2 q1
          · cases h
        · cases h
      · cases h
end
end Go.Sim
