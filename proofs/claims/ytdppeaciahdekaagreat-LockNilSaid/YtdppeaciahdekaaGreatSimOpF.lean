/- Maps, assertions, calls; and all operations together. -/
import Derived.Test.YtdppeaciahdekaaGreatSimOpE
namespace Go.Sim

section
variable {P : Program} {E : EnvD} {K : Nat → Prop} {ρ : Ren} {H H' : AHeap} {w : World} {T : Tmps} {a : Act} {out : AOut} {o : Oper}

theorem aint_inv {k : IntKind} {x : AVal} {n : Int} {v : Value} (hv : VR ρ x v) (h : aint k x = some n) : v = .int k n := by
  unfold aint at h
  split at h
  · split at h
    · rename_i hk
      simp only [Option.some.injEq] at h; subst h hk
      exact hv.int_inv
    · cases h
  · cases h

/-- The entries of a map in memory. -/
def MR (ρ : Ren) (es : List (AVal × AVal)) (es' : List MapEntry) : Prop :=
  es'.length = es.length ∧ ∀ (i : Nat) e e', es[i]? = some e → es'[i]? = some e' → VR ρ e.1 e'.key ∧ VR ρ e.2 e'.val

theorem MR.tail {e : AVal × AVal} {e' : MapEntry} {es : List (AVal × AVal)} {es' : List MapEntry} (h : MR ρ (e :: es) (e' :: es')) : VR ρ e.1 e'.key ∧ VR ρ e.2 e'.val ∧ MR ρ es es' := by
  have h0 := h.2 0 e e' rfl rfl
  exact ⟨h0.1, h0.2, by have := h.1; simp at this; exact this, fun i x x' h1 h2 => h.2 (i + 1) x x' (by simpa using h1) (by simpa using h2)⟩

theorem find_sound {k j : IntKind} {n : Int} : ∀ (es : List (AVal × AVal)) (es' : List MapEntry) (i : Nat) (r : Option AVal), MR ρ es es' → afind k n es = some r →
    ∃ r', Instr.findNow (.int j) (.int k n) es' i = some r' ∧ (match r with | none => r' = none | some x => ∃ q v, r' = some (q, v) ∧ VR ρ x v)
  | [], [], i, r, _, h => by simp only [afind, Option.some.injEq] at h; subst h; exact ⟨none, rfl, rfl⟩
  | [], _ :: _, _, _, h, _ => by have := h.1; simp at this
  | _ :: _, [], _, _, h, _ => by have := h.1; simp at this
  | (e, v) :: es, e' :: es', i, r, hm, h => by
    obtain ⟨h1, h2, h3⟩ := hm.tail
    simp only [afind] at h
    split at h
    · rename_i m hm'
      have hk := aint_inv h1 hm'
      split at h
      · rename_i hnm
        simp only [Option.some.injEq] at h; subst h hnm
        exact ⟨some (i, e'.val), by simp [Instr.findNow, hk, Instr.sameNow], i, e'.val, rfl, h2⟩
      · rename_i hnm
        obtain ⟨r', g1, g2⟩ := find_sound (j := j) es es' (i + 1) r h3 h
        refine ⟨r', ?_, g2⟩
        have : (n == m) = false := by simpa using hnm
        simp [Instr.findNow, hk, Instr.sameNow, this, g1]
    · cases h

theorem findNow_cons_ne {j k : IntKind} {n m : Int} {e : MapEntry} {l : List MapEntry} {i : Nat} (hk : e.key = .int k m) (h : m ≠ n) : Instr.findNow (.int j) (.int k n) (e :: l) i = Instr.findNow (.int j) (.int k n) l (i + 1) := by
  have : (n == m) = false := by simpa using fun e => h e.symm
  simp [Instr.findNow, hk, Instr.sameNow, this]
theorem findNow_cons_eq {j k : IntKind} {n : Int} {e : MapEntry} {l : List MapEntry} {i : Nat} (hk : e.key = .int k n) : Instr.findNow (.int j) (.int k n) (e :: l) i = some (some (i, e.val)) := by
  simp [Instr.findNow, hk, Instr.sameNow]

/-- Where it stands is no matter: what stands there. -/
def FR (r : Option Value) (x : Option (Option (Nat × Value))) : Prop := match r with | none => x = some none | some v => ∃ q, x = some (some (q, v))
theorem perm_find {j k : IntKind} {n : Int} {r : Option Value} : ∀ {l l' : List MapEntry}, l.Perm l' → (∀ e ∈ l, ∃ m, e.key = .int k m) → (l.map (·.key)).Nodup → ∀ i, FR r (Instr.findNow (.int j) (.int k n) l i) → ∀ i', FR r (Instr.findNow (.int j) (.int k n) l' i') := by
  have any : ∀ (l : List MapEntry), (∀ e ∈ l, ∃ m, e.key = .int k m) → ∀ i i', FR r (Instr.findNow (.int j) (.int k n) l i) → FR r (Instr.findNow (.int j) (.int k n) l i') := by
    intro l
    induction l with
    | nil => intro _ i i' h; exact h
    | cons e l ih =>
      intro hk i i' h
      obtain ⟨m, hm⟩ := hk e (by simp)
      by_cases he : m = n
      · subst he
        rw [findNow_cons_eq hm] at h ⊢
        cases r with
        | none => exact absurd h (by simp [FR])
        | some v => obtain ⟨q, hq⟩ := h; simp only [Option.some.injEq, Prod.mk.injEq] at hq; exact ⟨i', by simp [hq.2]⟩
      · rw [findNow_cons_ne hm he] at h ⊢
        exact ih (fun e' h' => hk e' (by simp [h'])) _ _ h
  intro l l' hp
  induction hp with
  | nil => intro _ _ i h i'; exact h
  | cons e hp ih =>
    intro hk hn i h i'
    obtain ⟨m, hm⟩ := hk e (by simp)
    by_cases he : m = n
    · subst he
      rw [findNow_cons_eq hm] at h ⊢
      cases r with
      | none => exact absurd h (by simp [FR])
      | some v => obtain ⟨q, hq⟩ := h; simp only [Option.some.injEq, Prod.mk.injEq] at hq; exact ⟨i', by simp [hq.2]⟩
    · rw [findNow_cons_ne hm he] at h ⊢
      exact ih (fun e' h' => hk e' (by simp [h'])) (by simp at hn; simp [hn.2]) _ h _
  | swap x y l =>
    intro hk hn i h i'
    obtain ⟨mx, hx⟩ := hk x (by simp)
    obtain ⟨my, hy⟩ := hk y (by simp)
    have hne : mx ≠ my := by
      rintro rfl
      simp [hx, hy] at hn
    by_cases e1 : my = n
    · subst e1
      rw [findNow_cons_eq hy] at h
      rw [findNow_cons_ne hx hne, findNow_cons_eq hy]
      cases r with
      | none => exact absurd h (by simp [FR])
      | some v => obtain ⟨q, hq⟩ := h; simp only [Option.some.injEq, Prod.mk.injEq] at hq; exact ⟨i' + 1, by simp [hq.2]⟩
    · rw [findNow_cons_ne hy e1] at h
      by_cases e2 : mx = n
      · subst e2
        rw [findNow_cons_eq hx] at h ⊢
        cases r with
        | none => exact absurd h (by simp [FR])
        | some v => obtain ⟨q, hq⟩ := h; simp only [Option.some.injEq, Prod.mk.injEq] at hq; exact ⟨i', by simp [hq.2]⟩
      · rw [findNow_cons_ne hx e2] at h ⊢
        rw [findNow_cons_ne hy e1]
        exact any l (fun e' h' => hk e' (by simp [h'])) _ _ h
  | trans hp hq ih1 ih2 =>
    intro hk hn i h i'
    exact ih2 (fun e' h' => hk e' (hp.mem_iff.2 h')) ((hp.map _).nodup_iff.1 hn) 0 (ih1 hk hn i h 0) i'

theorem noKey_sound {k : IntKind} {m : Int} : ∀ {es : List (AVal × AVal)} {l : List MapEntry}, MR ρ es l → noKey k m es = true → ∀ e ∈ l, ∃ m', e.key = .int k m' ∧ m' ≠ m
  | [], [], _, _, e, he => by cases he
  | [], _ :: _, h, _, _, _ => by have := h.1; simp at this
  | _ :: _, [], h, _, _, _ => by have := h.1; simp at this
  | x :: es, y :: l, h, hn, e, he => by
    obtain ⟨h1, h2, h3⟩ := h.tail
    simp only [noKey, Bool.and_eq_true] at hn
    obtain ⟨hn1, hn2⟩ := hn
    rcases List.mem_cons.1 he with rfl | he
    · split at hn1
      · rename_i m' hm'
        exact ⟨m', aint_inv h1 hm', by simpa using hn1⟩
      · cases hn1
    · exact noKey_sound h3 hn2 e he
theorem nodupK_sound {k : IntKind} : ∀ {es : List (AVal × AVal)} {l : List MapEntry}, MR ρ es l → nodupK k es = true → (∀ e ∈ l, ∃ m, e.key = .int k m) ∧ (l.map (·.key)).Nodup
  | [], [], _, _ => by simp
  | [], _ :: _, h, _ => by have := h.1; simp at this
  | _ :: _, [], h, _ => by have := h.1; simp at this
  | x :: es, y :: l, h, hn => by
    obtain ⟨h1, h2, h3⟩ := h.tail
    simp only [nodupK, Bool.and_eq_true] at hn
    obtain ⟨hn1, hn2⟩ := hn
    obtain ⟨i1, i2⟩ := nodupK_sound h3 hn2
    split at hn1
    · rename_i m hm
      have hk := aint_inv h1 hm
      refine ⟨fun e he => ?_, ?_⟩
      · rcases List.mem_cons.1 he with rfl | he
        · exact ⟨m, hk⟩
        · exact i1 e he
      · simp only [List.map_cons, List.nodup_cons]
        refine ⟨fun hc => ?_, i2⟩
        obtain ⟨e, he, hke⟩ := List.mem_map.1 hc
        obtain ⟨m', g1, g2⟩ := noKey_sound h3 hn1 e he
        rw [g1, hk] at hke
        simp only [Value.int.injEq] at hke
        exact g2 hke.2
    · cases hn1

theorem pfind_sound {k j : IntKind} {n : Int} {es : List (AVal × AVal)} {m es' : List MapEntry} {r : Option AVal} (hp : m.Perm es') (hm : MR ρ es m) (hn : nodupK k es = true) (h : afind k n es = some r) :
    ∃ r', Instr.findNow (.int j) (.int k n) es' 0 = some r' ∧ (match r with | none => r' = none | some x => ∃ q v, r' = some (q, v) ∧ VR ρ x v) := by
  obtain ⟨r', g1, g2⟩ := find_sound (j := j) es m 0 r hm h
  obtain ⟨c1, c2⟩ := nodupK_sound hm hn
  cases r with
  | none =>
    simp only at g2; subst g2
    exact ⟨none, perm_find (r := none) hp c1 c2 0 g1 0, rfl⟩
  | some x =>
    obtain ⟨q, v, rfl, hv⟩ := g2
    obtain ⟨q', hq'⟩ := perm_find (r := some v) hp c1 c2 0 ⟨q, g1⟩ 0
    exact ⟨_, hq', q', v, rfl, hv⟩

theorem run_checkKey_int {b : Bool} {t : TypeId} {j k : IntKind} {n : Int} (hu : P.underlying t = some (.int j)) : (Instr.checkKey b 10000 t (.int k n)).run P w = .ok () w := by
  show (Instr.checkKey b (9999 + 1) t (.int k n)).run P w = .ok () w
  have : ∀ d, (Instr.checkKey b (d + 1) t (.int k n)).run P w = .ok () w := fun d => by simp [Instr.checkKey, run_und hu]
  exact this 9999

theorem run_findKey_int {t : TypeId} {j k : IntKind} {n : Int} {es' : List MapEntry} {r : Option (Nat × Value)} (hu : P.underlying t = some (.int j)) (h : Instr.findNow (.int j) (.int k n) es' 0 = some r) :
    (Instr.findKey t (.int k n) es').run P w = .ok r w := by
  simp [Instr.findKey, run_und hu, h]

theorem WR.mapOf {i : Nat} {es : List (AVal × AVal)} (hw : WR K ρ H w) (hb : H.get i = some (.map es)) {l : Loc} (hl : ρ i = some l) : ∃ es' clock, w.heap[l.blk]? = some (.map es' clock) ∧ MR ρ es es'.toList := by
  obtain ⟨l', ob, h1, h2, h3, h4⟩ := hw.live i _ hb
  rw [hl] at h1; cases h1
  cases h3 with
  | map hs h => exact ⟨_, _, h2, by simpa using hs, fun i e e' h1 h2 => h i e e' h1 (by simpa using h2)⟩

def FoundR (ρ : Ren) (r : Option AVal) (r' : Option (Nat × Value)) : Prop := match r with | none => r' = none | some x => ∃ q v, r' = some (q, v) ∧ VR ρ x v

theorem WR.mapOfP {i : Nat} {es : List (AVal × AVal)} (hw : WR K ρ H w) (hb : H.get i = some (.pmap es)) {l : Loc} (hl : ρ i = some l) : ∃ m es' clock, w.heap[l.blk]? = some (.map es' clock) ∧ m.Perm es'.toList ∧ MR ρ es m := by
  obtain ⟨l', ob, h1, h2, h3, h4⟩ := hw.live i _ hb
  rw [hl] at h1; cases h1
  cases h3 with
  | pmap hp hs h => exact ⟨_, _, _, h2, hp, hs, h⟩

/-- What a zero value is. -/
theorem zero_sound (hE : EnvOK P E) {t : TypeId} {z : AVal} (h : cellZ P E t = some z) : ∃ v, (zeroValue t).run P w = .ok v w ∧ VR ρ z v := by
  unfold cellZ at h
  split at h
  · rename_i y hg hzr
    simp only [Option.some.injEq] at h; subst h
    obtain ⟨ti, v, g1, g2, g3, g4, g5, g6, _⟩ := hE.zro t _ hzr
    exact ⟨v, run_zero g1 g2 w, g6 _ hg rfl ρ⟩
  · rename_i y hg hzr
    simp only [Option.some.injEq] at h; subst h
    obtain ⟨ti, v, g1, g2, g3, g4, g5, g6, g7⟩ := hE.zro t _ hzr
    obtain ⟨cs, rfl⟩ := g7 hg
    exact ⟨_, run_zero g1 g2 w, RR.agg g4 (g5 ρ)⟩
  · cases h

theorem op_lkp (hE : EnvOK P E) {x i : Operand} {t kt e : TypeId} {k : IntKind} {z : AVal} {ok : Bool} (ht : TR ρ T a.tmps) (hw : WR K ρ H w) (ho : o.op = .lookup t x i ok)
    (hu : P.underlying t = some (.map kt e)) (hk : P.underlying kt = some (.int k)) (hz : cellZ P E e = some z) (he : aop E T H (.lkp k z ok x i) = some (out, H')) : OutS P ρ H w (execOp a.eval o) out H' := by
  obtain ⟨zv, z1, z2⟩ := zero_sound (w := w) (ρ := ρ) hE hz
  simp only [aop] at he
  split at he
  · rename_i m v hx hi
    split at he
    · rename_i n hn
      have hkey := aint_inv (aev_sound ht hi) hn
      have fin : ∀ (r : Option AVal) (es' : List MapEntry) (r' : Option (Nat × Value)), Instr.findNow (.int k) (.int k n) es' 0 = some r' → (match r with | none => r' = none | some x => ∃ q v, r' = some (q, v) ∧ VR ρ x v) →
          (∀ q, (match r' with | some (_, v) => q = (if ok then .tuple #[v, .bool true] else v) | none => q = (if ok then .tuple #[zv, .bool false] else zv)) → (execOp a.eval o).run P w = .ok (.value q) w) →
          (match r with | some u => ret (if ok then .tup [u, .bool true] else u) H | none => ret (if ok then .tup [z, .bool false] else z) H) = some (out, H') → OutS P ρ H w (execOp a.eval o) out H' := by
        intro r es' r' hf hr hrun hret
        cases r with
        | none =>
          simp only at hr hret; subst hr
          refine OutR.same hw (hrun _ rfl) ?_ hret
          cases ok
          · exact z2
          · exact VR.tup2 z2 (.bool _)
        | some u =>
          simp only at hr hret
          obtain ⟨q, v, rfl, hv⟩ := hr
          refine OutR.same hw (hrun _ rfl) ?_ hret
          cases ok
          · exact hv
          · exact VR.tup2 hv (.bool _)
      cases m with
      | none =>
        simp only [hfind] at he
        have hm := (aev_sound ht hx).mapN_inv
        refine fin none [] none rfl rfl (fun q hq => ?_) he
        simp only at hq; subst hq
        simp only [execOp, ho, hm, hkey, Instr.lookup, Sem.run_bind, run_und hu, Result.andThen_ok, Sem.run_pure, run_checkKey_int hk, run_findKey_int hk (show Instr.findNow (.int k) (.int k n) [] 0 = some none from rfl), z1]
      | some b =>
        obtain ⟨l, e1, e2⟩ := (aev_sound ht hx).mapS_inv
        simp only [hfind] at he
        have both : ∀ r, (match H.get b with | some (.map es) => afind k n es | some (.pmap es) => if nodupK k es then afind k n es else none | _ => none) = some r →
            ∃ (es' : Array MapEntry) (clock : Nat) (r' : Option (Nat × Value)), w.heap[l.blk]? = some (.map es' clock) ∧ Instr.findNow (.int k) (.int k n) es'.toList 0 = some r' ∧ FoundR ρ r r' := by
          intro r hr
          split at hr
          · rename_i es hes
            obtain ⟨es', clock, m1, m2⟩ := hw.mapOf hes e1
            obtain ⟨r', g1, g2⟩ := find_sound (j := k) es es'.toList 0 r m2 hr
            exact ⟨es', clock, r', m1, g1, by cases r <;> exact g2⟩
          · rename_i es hes
            split at hr
            · rename_i hnd
              obtain ⟨m, es', clock, m1, m2, m3⟩ := hw.mapOfP hes e1
              obtain ⟨r', g1, g2⟩ := pfind_sound (j := k) m2 m3 hnd hr
              exact ⟨es', clock, r', m1, g1, by cases r <;> exact g2⟩
            · cases hr
          · cases hr
        split at he
        · rename_i u hfu
          obtain ⟨es', clock, r', m1, g1, g2⟩ := both _ hfu
          simp only [FoundR] at g2
          refine fin (some u) es'.toList r' g1 g2 (fun q hq => ?_) he
          have hobj : (getObj l.blk).run P w = .ok (.map es' clock) w := by simp [getObj, Sem.run, m1]
          simp only [execOp, ho, e2, hkey, Instr.lookup, Sem.run_bind, run_und hu, Result.andThen_ok, Sem.run_pure, hobj, run_checkKey_int hk, run_findKey_int hk g1]
          obtain ⟨q', v, rfl, _⟩ := g2
          simp only at hq; subst hq
          cases ok <;> rfl
        · rename_i hfu
          obtain ⟨es', clock, r', m1, g1, g2⟩ := both _ hfu
          simp only [FoundR] at g2
          refine fin none es'.toList r' g1 g2 (fun q hq => ?_) he
          have hobj : (getObj l.blk).run P w = .ok (.map es' clock) w := by simp [getObj, Sem.run, m1]
          subst g2
          simp only at hq; subst hq
          simp only [execOp, ho, e2, hkey, Instr.lookup, Sem.run_bind, run_und hu, Result.andThen_ok, Sem.run_pure, hobj, run_checkKey_int hk, run_findKey_int hk g1, z1]
        · cases he
    · cases he
  · cases he

/-- A store into a map: where the key stands, or behind all. -/
theorem put_sound {k j : IntKind} {n : Int} {x : AVal} {v : Value} (hv : VR ρ x v) : ∀ (es : List (AVal × AVal)) (es' : List MapEntry) (i : Nat) (r : List (AVal × AVal)), MR ρ es es' → aput k n x es = some r →
    (∃ q old, Instr.findNow (.int j) (.int k n) es' i = some (some (i + q, old)) ∧ (∃ e', es'[q]? = some e' ∧ e'.key = .int k n) ∧ MR ρ r (es'.modify q fun e => { e with key := .int k n, val := v })) ∨
    (Instr.findNow (.int j) (.int k n) es' i = some none ∧ ∀ b, MR ρ r (es' ++ [{ key := .int k n, val := v, born := b }]))
  | [], [], i, r, _, h => by
    simp only [aput, Option.some.injEq] at h; subst h
    refine .inr ⟨rfl, fun b => ⟨rfl, fun i e e' h1 h2 => ?_⟩⟩
    cases i with
    | zero => simp at h1 h2; subst h1 h2; exact ⟨.int _ _, hv⟩
    | succ i => simp at h1
  | [], _ :: _, _, _, h, _ => by have := h.1; simp at this
  | _ :: _, [], _, _, h, _ => by have := h.1; simp at this
  | (e, u) :: es, e' :: es', i, r, hm, h => by
    obtain ⟨h1, h2, h3⟩ := hm.tail
    have hcons : ∀ (e : AVal × AVal) (e' : MapEntry) es es', VR ρ e.1 e'.key → VR ρ e.2 e'.val → MR ρ es es' → MR ρ (e :: es) (e' :: es') := by
      intro e e' es es' a1 a2 a3
      refine ⟨by simp [a3.1], fun i x x' b1 b2 => ?_⟩
      cases i with
      | zero => simp at b1 b2; subst b1 b2; exact ⟨a1, a2⟩
      | succ i => exact a3.2 i x x' (by simpa using b1) (by simpa using b2)
    simp only [aput] at h
    split at h
    · rename_i m hm'
      have hk := aint_inv h1 hm'
      split at h
      · rename_i hnm
        simp only [Option.some.injEq] at h; subst h hnm
        exact .inl ⟨0, e'.val, by simp [Instr.findNow, hk, Instr.sameNow], ⟨e', rfl, hk⟩, hcons _ _ _ _ (.int _ _) hv h3⟩
      · rename_i hnm
        have hne : (n == m) = false := by simpa using hnm
        simp only [Option.map_eq_some_iff] at h
        obtain ⟨r', hr', rfl⟩ := h
        rcases put_sound (j := j) hv es es' (i + 1) r' h3 hr' with ⟨q, old, g1, g2, g3⟩ | ⟨g1, g2⟩
        · refine .inl ⟨q + 1, old, ?_, ?_, hcons _ _ _ _ h1 h2 g3⟩
          · simp only [Instr.findNow, hk, Instr.sameNow, if_true, hne, g1]
            rw [show i + 1 + q = i + (q + 1) from by omega]
          · obtain ⟨e'', k1, k2⟩ := g2
            exact ⟨e'', by simpa using k1, k2⟩
        · refine .inr ⟨?_, fun b => hcons _ _ _ _ h1 h2 (g2 b)⟩
          simp only [Instr.findNow, hk, Instr.sameNow, if_true, hne, g1]
    · cases h

theorem MR.br {es : List (AVal × AVal)} {es' : Array MapEntry} {clock : Nat} {l : Loc} (h : MR ρ es es'.toList) : BR ρ l (.map es) (.map es' clock) :=
  .map (by simpa using h.1) fun i e e' h1 h2 => h.2 i e e' h1 (by simpa using h2)

theorem op_mup {m i x : Operand} {t kt e : TypeId} {k : IntKind} (ht : TR ρ T a.tmps) (hw : WR K ρ H w) (ho : o.op = .mapUpdate t m i x ∨ o.op = .insert t m i x)
    (hu : P.underlying t = some (.map kt e)) (hk : P.underlying kt = some (.int k)) (he : aop E T H (.mup k m i x) = some (out, H')) : OutR P E K ρ H w (execOp a.eval o) out H' := by
  have hexec : (execOp a.eval o).run P w = ((Instr.mapUpdate t (a.eval m) (a.eval i) (a.eval x)).run P w).andThen fun _ w' => .ok .skip w' := by
    rcases ho with ho | ho <;> (unfold execOp; rw [ho]; exact Sem.run_bind P w _ _)
  simp only [aop] at he
  split at he
  · rename_i b key y hm hi hx
    split at he
    · rename_i n hn
      split at he
      · rename_i es hes
        split at he
        · rename_i r hr
          have hkey := aint_inv (aev_sound ht hi) hn
          obtain ⟨l, e1, e2⟩ := (aev_sound ht hm).mapS_inv
          obtain ⟨es', clock, m1, m2⟩ := hw.mapOf hes e1
          have hobj : (getObj l.blk).run P w = .ok (.map es' clock) w := by simp [getObj, Sem.run, m1]
          have hlt : l.blk < w.heap.size := hw.lt hes e1
          have hset : ∀ (ob : Obj), (setObj l.blk ob).run P w = .ok () { w with heap := w.heap.setIfInBounds l.blk ob } := by intro ob; simp [setObj, Sem.run, m1]
          have hpost : ∀ (fs : Array MapEntry) (cl : Nat), MR ρ r fs.toList → Post K ρ w ρ (H.put b (.map r)) { w with heap := w.heap.setIfInBounds l.blk (.map fs cl) } := by
            intro fs cl hfs
            refine hw.set hes e1 rfl (o' := .map fs cl) (by simp [hlt]) (fun k hk => ?_) (by simp) hfs.br rfl rfl
            show (w.heap.setIfInBounds l.blk _)[k]? = _
            rw [Array.getElem?_setIfInBounds_ne (Ne.symm hk)]
          rcases put_sound (j := k) (aev_sound ht hx) es es'.toList 0 r m2 hr with ⟨q, old, g1, ⟨e', k1, k2⟩, g3⟩ | ⟨g1, g2⟩
          · rw [Nat.zero_add] at g1
            refine OutR.skip ?_ (hpost (es'.modify q fun e => { e with key := .int k n, val := a.eval x }) clock (by simpa using g3)) he
            rw [hexec, e2, hkey]
            have hk1 : es'[q]? = some e' := by simpa using k1
            simp only [Instr.mapUpdate, Sem.run_bind, run_und hu, Result.andThen_ok, hobj, run_checkKey_int hk, run_findKey_int hk g1, hk1, Option.map_some, Option.getD_some, k2, Instr.keyThatStays]
            rw [if_pos (by simp [Instr.sameBits])]
            simp only [Sem.run_pure, Result.andThen_ok, hset]
          · refine OutR.skip ?_ (hpost (es'.push { key := .int k n, val := a.eval x, born := clock }) (clock + 1) (by simpa using g2 clock)) he
            rw [hexec, e2, hkey]
            simp only [Instr.mapUpdate, Sem.run_bind, run_und hu, Result.andThen_ok, hobj, run_checkKey_int hk, run_findKey_int hk g1, hset]
        · cases he
      · cases he
    · cases he
  · cases he

theorem op_tas {x : Operand} {xt t : TypeId} {d : TypeDesc} {ok : Bool} {z : AVal} (ht : TR ρ T a.tmps) (hw : WR K ρ H w) (ho : o.op = .typeAssert x xt t ok)
    (hu : P.underlying t = some d) (hd : ∀ m, d ≠ .interface m) (hz : ∃ v, (zeroValue t).run P w = .ok v w ∧ VR ρ z v) (he : aop E T H (.tas t ok z x) = some (out, H')) :
    OutS P ρ H w (execOp a.eval o) out H' := by
  obtain ⟨zv, z1, z2⟩ := hz
  have fin : ∀ (q : Value), (∀ x', x' = a.eval x → (Instr.typeAssert x' xt t ok).run P w = .ok q w) → (execOp a.eval o).run P w = .ok (.value q) w := by
    intro q hq
    unfold execOp
    rw [ho]
    have := hq _ rfl
    show (do let v ← Instr.typeAssert (a.eval x) xt t ok; pure (.value v) : Sem Next).run P w = _
    rw [Sem.run_bind, this]
    rfl
  simp only [aop] at he
  split at he
  · rename_i u v hx
    obtain ⟨v', e1, e2⟩ := (aev_sound ht hx).iface_inv
    split at he
    · rename_i hut
      subst hut
      refine OutR.same hw (fin (if ok then .tuple #[v', .bool true] else v') fun x' hx' => ?_) ?_ he
      · subst hx'
        simp only [Instr.typeAssert, e1, Sem.run_bind, run_und hu, Result.andThen_ok]
        cases d <;> first | (cases ok <;> simp; done) | exact absurd rfl (hd _)
      · cases ok
        · exact e2
        · exact VR.tup2 e2 (.bool _)
    · rename_i hut
      split at he
      · rename_i hok
        subst hok
        refine OutR.same hw (fin (.tuple #[zv, .bool false]) fun x' hx' => ?_) (VR.tup2 z2 (.bool _)) he
        subst hx'
        simp only [Instr.typeAssert, e1, Sem.run_bind, run_und hu, Result.andThen_ok]
        cases d <;> first | (simp [hut, z1]; done) | exact absurd rfl (hd _)
      · cases he
  · rename_i hx
    have e1 : a.eval x = .nilIface := by
      have := aev_sound ht hx
      generalize a.eval x = q at *
      cases this; rfl
    split at he
    · rename_i hok
      subst hok
      refine OutR.same hw (fin (.tuple #[zv, .bool false]) fun x' hx' => ?_) (VR.tup2 z2 (.bool _)) he
      subst hx'
      simp only [Instr.typeAssert, e1, Sem.run_bind, run_und hu, Result.andThen_ok]
      cases d <;> first | (simp [z1]; done) | exact absurd rfl (hd _)
    · cases he
  · cases he

theorem run_callFunc (hE : EnvOK P E) {f : FuncId} (hf : E.isF f = true) (l : Array Value) : (callFunc f l).run P w = .ok (.enter f l) w := by
  obtain ⟨fn, h1, h2, h3⟩ := hE.isF f hf
  cases hb : fn.body with
  | none => simp [hb] at h3
  | some c => simp [callFunc, h1, h2, hb]

theorem callee_sound {g : AVal} {l l' : List AVal} {f : FuncId} {v : Value} {lv : Array Value} (hg : VR ρ g v) (hl : LR ρ l lv) (h : acallee E g l = some (f, l')) :
    ∃ p q, v = .func (.func f) p q ∧ LR ρ l' (p ++ lv ++ q) ∧ E.isF f = true := by
  unfold acallee at h
  split at h
  · rename_i g' x y
    split at h
    · rename_i hf
      simp only [Option.some.injEq, Prod.mk.injEq] at h
      obtain ⟨rfl, rfl⟩ := h
      obtain ⟨p, q, rfl, h1, h2⟩ := hg.func_inv
      exact ⟨p, q, rfl, (h1.append hl).append h2, hf⟩
    · cases h
  · cases h

theorem op_call (hE : EnvOK P E) {c : Call} {f : FuncId} (ht : TR ρ T a.tmps) (ho : o.op = .call c) (hc : c.callee = .value (.func f)) (he : aop E T H (.call f c.args.toList) = some (out, H')) :
    OutR P E K ρ H w (execOp a.eval o) out H' := by
  simp only [aop] at he
  split at he
  · rename_i l hl
    split at he
    · rename_i hf
      simp only [Option.some.injEq, Prod.mk.injEq] at he
      obtain ⟨rfl, rfl⟩ := he
      refine ⟨c.args.map a.eval, ?_, aevs_sound' ht hl, rfl, hf⟩
      simp only [execOp, ho, resolve, hc, Sem.run_bind, Act.eval, Deferred.ofValue, Sem.run_pure, Result.andThen_ok, invoke, Array.empty_append, Array.append_empty]
      exact run_callFunc hE hf _
    · cases he
  · cases he

theorem op_clv (hE : EnvOK P E) {c : Call} {g : Operand} (ht : TR ρ T a.tmps) (ho : o.op = .call c) (hc : c.callee = .value g) (he : aop E T H (.clv g c.args.toList) = some (out, H')) :
    OutR P E K ρ H w (execOp a.eval o) out H' := by
  simp only [aop] at he
  split at he
  · rename_i v l hv hl
    split at he
    · rename_i f l' hcl
      simp only [Option.some.injEq, Prod.mk.injEq] at he
      obtain ⟨rfl, rfl⟩ := he
      obtain ⟨p, q, e1, e2, e3⟩ := callee_sound (aev_sound ht hv) (aevs_sound' ht hl) hcl
      refine ⟨_, ?_, e2, rfl, e3⟩
      simp only [execOp, ho, resolve, hc, Sem.run_bind, e1, Deferred.ofValue, Sem.run_pure, Result.andThen_ok, invoke]
      exact run_callFunc hE e3 _
    · cases he
  · cases he

theorem op_dfr {c : Call} {g : Operand} (ht : TR ρ T a.tmps) (ho : o.op = .defer c) (hc : c.callee = .value g) (he : aop E T H (.dfr g c.args.toList) = some (out, H')) :
    OutR P E K ρ H w (execOp a.eval o) out H' := by
  simp only [aop] at he
  split at he
  · rename_i v l hv hl
    split at he
    · rename_i f l' hcl
      simp only [Option.some.injEq, Prod.mk.injEq] at he
      obtain ⟨rfl, rfl⟩ := he
      obtain ⟨p, q, e1, e2, e3⟩ := callee_sound (aev_sound ht hv) (aevs_sound' ht hl) hcl
      refine ⟨q, p ++ c.args.map a.eval, ?_, e2, rfl, e3⟩
      simp only [execOp, ho, resolve, hc, Sem.run_bind, e1, Deferred.ofValue, Sem.run_pure, Result.andThen_ok]
    · cases he
  · cases he

theorem op_inv (hE : EnvOK P E) {c : Call} {r : Operand} {name : String} (ht : TR ρ T a.tmps) (ho : o.op = .call c) (hc : c.callee = .invoke r name) (he : aop E T H (.inv name r c.args.toList) = some (out, H')) :
    OutR P E K ρ H w (execOp a.eval o) out H' := by
  simp only [aop] at he
  split at he
  · rename_i t v l hv hl
    split at he
    · rename_i f hf
      simp only [Option.some.injEq, Prod.mk.injEq] at he
      obtain ⟨rfl, rfl⟩ := he
      obtain ⟨u, e1, e2⟩ := (aev_sound ht hv).iface_inv
      obtain ⟨m1, m2⟩ := hE.meth t name f hf
      refine ⟨#[u] ++ c.args.map a.eval, ?_, (aevs_sound' ht hl).cons e2, rfl, m1⟩
      simp only [execOp, ho, resolve, hc, Sem.run_bind, Sem.run_pure, Result.andThen_ok, invoke, e1]
      have h0 : (#[Value.iface t u] ++ c.args.map a.eval)[0]? = some (Value.iface t u) := by rw [Array.getElem?_append, if_pos (show 0 < #[Value.iface t u].size from Nat.zero_lt_one)]; rfl
      have h1 : (#[Value.iface t u] ++ c.args.map a.eval).extract 1 (#[Value.iface t u] ++ c.args.map a.eval).size = c.args.map a.eval := by
        apply Array.ext'
        simp
        exact List.take_of_length_le (by simp)
      simp only [h0, h1, callMethod, Sem.run_bind, run_program, Result.andThen_ok, m2 u w]
      exact run_callFunc hE m1 _
    · cases he
  · cases he

theorem op_len {x : Operand} {c : Call} {t : TypeId} {k : LK} (ht : TR ρ T a.tmps) (hw : WR K ρ H w) (ho : o.op = .call c) (hc : c.callee = .builtin .len) (ha : c.args.toList = [x]) (hta : c.argTypes.toList = [t])
    (hu : match k with
      | .arr n => (∃ e, P.underlying t = some (.array n e)) ∨ ∃ p e, P.underlying t = some (.pointer p) ∧ P.underlying p = some (.array n e)
      | .sl => ∃ e, P.underlying t = some (.slice e)
      | .st => P.underlying t = some .string)
    (he : aop E T H (.len k x) = some (out, H')) : OutS P ρ H w (execOp a.eval o) out H' := by
  have ha' : c.args = #[x] := by rw [← Array.toArray_toList (xs := c.args), ha]
  have hta' : c.argTypes = #[t] := by rw [← Array.toArray_toList (xs := c.argTypes), hta]
  have hexec : (execOp a.eval o).run P w = ((Builtin.len_ #[t] o.type #[a.eval x]).run P w).andThen fun v w' => .ok (.value v) w' := by
    simp only [execOp, ho, resolve, hc, ha', hta', Sem.run_bind, Sem.run_pure, Result.andThen_ok, invoke, builtin, List.map_toArray, List.map_cons, List.map_nil]
  simp only [aop] at he
  split at he
  · refine OutR.same hw ?_ (.int _ _) he
    rw [hexec]
    simp only at hu
    rcases hu with ⟨e, hu⟩ | ⟨p, e, hu, hp⟩
    · simp [Builtin.len_, run_und hu, goInt]
    · simp [Builtin.len_, run_und hu, run_und hp, goInt]
  · rename_i p n cp hx
    have hv := aev_sound ht hx
    have e1 : ∃ b cp', a.eval x = .slice b n cp' := by
      cases p with
      | none => obtain ⟨rfl, _, e1⟩ := hv.sliceN_inv; exact ⟨_, _, e1⟩
      | some p => obtain ⟨l, _, e1⟩ := VR.slice_inv (i := p.1) (o := p.2) hv; exact ⟨_, _, e1⟩
    obtain ⟨b, cp', e1⟩ := e1
    refine OutR.same hw ?_ (.int _ _) he
    rw [hexec, e1]
    obtain ⟨e, hu⟩ := hu
    simp [Builtin.len_, run_und hu, goInt]
  · rename_i s hx
    have e1 := (aev_sound ht hx).str_inv
    refine OutR.same hw ?_ (.int _ _) he
    rw [hexec, e1]
    simp only at hu
    simp [Builtin.len_, run_und hu, goInt]
  · cases he

theorem op_mnx {x y : Operand} {c : Call} {g : Bool} (ht : TR ρ T a.tmps) (hw : WR K ρ H w) (ho : o.op = .call c) (hc : c.callee = .builtin (if g then .max else .min)) (ha : c.args.toList = [x, y])
    (he : aop E T H (.mnx g x y) = some (out, H')) : OutS P ρ H w (execOp a.eval o) out H' := by
  have ha' : c.args = #[x, y] := by rw [← Array.toArray_toList (xs := c.args), ha]
  simp only [aop] at he
  split at he
  · rename_i k p k' q hx hy
    split at he
    · rename_i hk
      subst hk
      refine OutR.same hw ?_ (.int _ _) he
      cases g
      · simp [execOp, ho, resolve, hc, ha', invoke, builtin, Builtin.min_, Builtin.min2, (aev_sound ht hx).int_inv, (aev_sound ht hy).int_inv]
      · simp [execOp, ho, resolve, hc, ha', invoke, builtin, Builtin.max_, Builtin.max2, (aev_sound ht hx).int_inv, (aev_sound ht hy).int_inv]
    · cases he
  · cases he

theorem op_pnc {x : Operand} (ht : TR ρ T a.tmps) (ho : o.op = .panic x) (he : aop E T H (.pnc x) = some (out, H')) : OutR P E K ρ H w (execOp a.eval o) out H' := by
  simp only [aop] at he
  split at he
  · rename_i t v hx
    simp only [Option.some.injEq, Prod.mk.injEq] at he
    obtain ⟨rfl, rfl⟩ := he
    obtain ⟨u, e1, e2⟩ := (aev_sound ht hx).iface_inv
    exact ⟨_, by simp [execOp, ho, e1, Instr.panic], .iface t e2, rfl⟩
  · cases he

theorem op_rcv {c : Call} (ho : o.op = .call c) (hc : c.callee = .builtin .recover) (he : aop E T H .rcv = some (out, H')) : OutR P E K ρ H w (execOp a.eval o) out H' := by
  simp only [aop, Option.some.injEq, Prod.mk.injEq] at he
  obtain ⟨rfl, rfl⟩ := he
  exact ⟨by simp [execOp, ho, resolve, hc, invoke, builtin], rfl⟩

/-- Whatever the operation: what the evaluator says of it is so. -/
theorem op_all (hE : EnvOK P E) {ao : AOp} (ht : TR ρ T a.tmps) (hw : WR K ρ H w) (hc : comp P E o.op = some ao) (he : aop E T H ao = some (out, H')) :
    (quietOp ao = true ∨ readOp ao = true → OutS P ρ H w (execOp a.eval o) out H') ∧ OutR P E K ρ H w (execOp a.eval o) out H' := by
  have qq : OutS P ρ H w (execOp a.eval o) out H' → (quietOp ao = true ∨ readOp ao = true → OutS P ρ H w (execOp a.eval o) out H') ∧ OutR P E K ρ H w (execOp a.eval o) out H' := fun h => ⟨fun _ => h, h.loud hw⟩
  have nq : (quietOp ao || readOp ao) = false → OutR P E K ρ H w (execOp a.eval o) out H' → (quietOp ao = true ∨ readOp ao = true → OutS P ρ H w (execOp a.eval o) out H') ∧ OutR P E K ρ H w (execOp a.eval o) out H' := fun h h' => ⟨fun hq => by rcases hq with hq | hq <;> simp [hq] at h, h'⟩
  cases ho : o.op <;> rw [ho] at hc
  case move x => simp only [comp, Option.some.injEq] at hc; subst hc; exact qq (op_mov ht hw (.inl ho) he)
  case assign x => simp only [comp, Option.some.injEq] at hc; subst hc; exact qq (op_mov ht hw (.inr ho) he)
  case pick c x y => simp only [comp, Option.some.injEq] at hc; subst hc; exact qq (op_pick ht hw ho he)
  case alloc t =>
    have hc' := hc
    simp only [comp, Option.map_eq_some_iff] at hc
    obtain ⟨z, hz, rfl⟩ := hc
    exact nq rfl (op_new hE hw ho (by rw [ho]; exact hc') he)
  case box t x => simp only [comp, Option.some.injEq] at hc; subst hc; exact nq rfl (op_box ht hw ho he)
  case build t ps =>
    have hc' := hc
    simp only [comp] at hc
    split at hc
    · split at hc
      · split at hc
        · simp only [Option.some.injEq] at hc; subst hc; exact qq (op_build hE ht hw ho hc' he)
        · cases hc
      · cases hc
    · split at hc
      · simp only [Option.some.injEq] at hc; subst hc; exact qq (op_build hE ht hw ho hc' he)
      · cases hc
    · cases hc
  case buildSlice t n ps =>
    simp only [comp] at hc
    split at hc
    · rename_i e hu
      split at hc
      · rename_i z s hz hs
        split at hc
        · rename_i hb
          simp only [Option.some.injEq] at hc; subst hc
          simp only [Bool.and_eq_true, decide_eq_true_eq] at hb
          exact nq rfl (op_bsl hE ht hw ho hu hz hs hb.1.1 hb.1.2 he)
        · cases hc
      · cases hc
    · cases hc
  case load t x =>
    simp only [comp] at hc
    split at hc
    · rename_i hg
      split at hc
      · rename_i n hn
        simp only [Option.some.injEq] at hc; subst hc
        exact qq (op_ldr ht hw ho hg hn he)
      · cases hc
    · rename_i hg
      simp only [Option.some.injEq] at hc; subst hc
      exact qq (op_ldc ht hw ho hg he)
    · cases hc
  case store t x y =>
    simp only [comp] at hc
    split at hc
    · rename_i n hn
      simp only [Option.some.injEq] at hc; subst hc
      exact nq rfl (op_sto ht hw ho hn he)
    · cases hc
  case nilCheck x => simp only [comp, Option.some.injEq] at hc; subst hc; exact qq (op_nilc ht hw ho he)
  case binOp op t x y yt => simp only [comp, Option.some.injEq] at hc; subst hc; exact qq (op_bin hE ht hw ho he)
  case unOp op t x => simp only [comp, Option.some.injEq] at hc; subst hc; exact qq (op_una ht hw ho he)
  case convert s t x =>
    simp only [comp] at hc
    split at hc
    · rename_i j k h1 h2
      simp only [Option.some.injEq] at hc; subst hc
      exact qq (op_cvt ht hw ho h1 h2 he)
    · cases hc
  case makeInterface t x =>
    simp only [comp] at hc
    split at hc
    · cases hc
    · rename_i d hd hu
      simp only [Option.some.injEq] at hc; subst hc
      exact qq (op_mki ht hw ho hu (fun m e => hd m e) he)
    · cases hc
  case makeFunc fn x y => simp only [comp, Option.some.injEq] at hc; subst hc; exact qq (op_mkf ht hw ho he)
  case makeMap t r =>
    simp only [comp] at hc
    split at hc
    · rename_i hb
      simp only [Option.some.injEq] at hc; subst hc
      simp only [Bool.and_eq_true, Option.isNone_iff_eq_none] at hb
      obtain ⟨rfl, _⟩ := hb
      exact nq rfl (op_mkm hw ho he)
    · cases hc
  case makeSlice t l c =>
    simp only [comp] at hc
    split at hc
    · rename_i e hu
      split at hc
      · rename_i z i hz hi
        split at hc
        · rename_i hb
          simp only [Option.some.injEq] at hc; subst hc
          simp only [Bool.and_eq_true, decide_eq_true_eq] at hb
          exact nq rfl (op_mks hE ht hw ho hu hz hi hb.1 he)
        · cases hc
      · cases hc
    · cases hc
  case slice t x lo hi mx =>
    simp only [comp] at hc
    split at hc
    · cases hc
    · rename_i hmx
      have hmx' : mx = none := by cases mx with | none => rfl | some v => simp at hmx
      subst hmx'
      split at hc
      · rename_i e hu
        split at hc
        · rename_i s hs
          simp only [Option.some.injEq] at hc; subst hc
          exact qq (op_sls ht hw ho hu hs he)
        · cases hc
      · rename_i n e hu
        split at hc
        · rename_i s hs
          simp only [Option.some.injEq] at hc; subst hc
          exact qq (op_sla ht hw ho hu hs he)
        · cases hc
      · cases hc
  case fieldAddr s x f =>
    simp only [comp] at hc
    split at hc
    · rename_i fs hu
      split at hc
      · rename_i fd hf
        split at hc
        · rename_i n hn
          simp only [Option.some.injEq] at hc; subst hc
          exact qq (op_fa ht hw ho hu hf hn he)
        · cases hc
      · cases hc
    · cases hc
  case field t x f =>
    simp only [comp] at hc
    split at hc
    · rename_i fs hu
      split at hc
      · rename_i fd hf
        split at hc
        · rename_i g s hg hs
          simp only [Option.some.injEq] at hc; subst hc
          exact qq (op_fld ht hw ho hu hf hg hs he)
        · cases hc
      · cases hc
    · cases hc
  case indexAddr t x i =>
    simp only [comp] at hc
    split at hc
    · rename_i n e hu
      split at hc
      · rename_i s hs
        simp only [Option.some.injEq] at hc; subst hc
        exact qq (op_iaa ht hw ho hu hs he)
      · cases hc
    · rename_i e hu
      split at hc
      · rename_i s hs
        simp only [Option.some.injEq] at hc; subst hc
        exact qq (op_ias ht hw ho hu hs he)
      · cases hc
    · cases hc
  case index t x i =>
    simp only [comp] at hc
    split at hc
    · rename_i n e hu
      split at hc
      · rename_i g s hg hs
        simp only [Option.some.injEq] at hc; subst hc
        exact qq (op_ixa ht hw ho hu hg hs he)
      · cases hc
    · rename_i hu
      simp only [Option.some.injEq] at hc; subst hc
      exact qq (op_ixs ht hw ho hu he)
    · cases hc
  case lookup t x i ok =>
    simp only [comp] at hc
    split at hc
    · rename_i kt e hu
      split at hc
      · rename_i k z hk hz
        simp only [Option.some.injEq] at hc; subst hc
        exact qq (op_lkp hE ht hw ho hu hk hz he)
      · cases hc
    · cases hc
  case mapUpdate t m i x =>
    simp only [comp] at hc
    split at hc
    · rename_i kt e hu
      split at hc
      · rename_i k hk
        simp only [Option.some.injEq] at hc; subst hc
        exact nq rfl (op_mup ht hw (.inl ho) hu hk he)
      · cases hc
    · cases hc
  case insert t m i x =>
    simp only [comp] at hc
    split at hc
    · rename_i kt e hu
      split at hc
      · rename_i k hk
        simp only [Option.some.injEq] at hc; subst hc
        exact nq rfl (op_mup ht hw (.inr ho) hu hk he)
      · cases hc
    · cases hc
  case typeAssert x xt t ok =>
    simp only [comp] at hc
    split at hc
    · cases hc
    · rename_i d h1 hu
      split at hc
      · rename_i z hz
        simp only [Option.some.injEq] at hc; subst hc
        exact qq (op_tas ht hw ho hu (fun m e => h1 m e) (zero_sound hE hz) he)
      · cases hc
    · cases hc
  case extract x i => simp only [comp, Option.some.injEq] at hc; subst hc; exact qq (op_ext ht hw ho he)
  case call c =>
    simp only [comp] at hc
    split at hc
    · rename_i f hf
      simp only [Option.some.injEq] at hc; subst hc
      exact nq rfl (op_call hE ht ho hf he)
    · rename_i g hg hf
      simp only [Option.some.injEq] at hc; subst hc
      exact nq rfl (op_clv hE ht ho hf he)
    · rename_i r name hf
      simp only [Option.some.injEq] at hc; subst hc
      exact nq rfl (op_inv hE ht ho hf he)
    · rename_i hf
      split at hc
      · rename_i x t ha hta
        split at hc
        · rename_i n e hu
          simp only [Option.some.injEq] at hc; subst hc
          exact qq (op_len (k := .arr n) ht hw ho hf ha hta (.inl ⟨_, hu⟩) he)
        · rename_i e hu
          simp only [Option.some.injEq] at hc; subst hc
          exact qq (op_len (k := .sl) ht hw ho hf ha hta ⟨_, hu⟩ he)
        · rename_i hu
          simp only [Option.some.injEq] at hc; subst hc
          exact qq (op_len (k := .st) ht hw ho hf ha hta hu he)
        · rename_i p hu
          split at hc
          · rename_i n e hp
            simp only [Option.some.injEq] at hc; subst hc
            exact qq (op_len (k := .arr n) ht hw ho hf ha hta (.inr ⟨_, _, hu, hp⟩) he)
          · cases hc
        · cases hc
      · cases hc
    · rename_i hf
      split at hc
      · rename_i x y t u ha hta
        split at hc
        · rename_i e eu hu hu'
          split at hc
          · rename_i z i hz hi
            split at hc
            · simp only [Option.some.injEq] at hc; subst hc
              exact nq rfl (op_app hE ht hw ho hf ha hta hu hu' hz hi he)
            · cases hc
          · cases hc
        · cases hc
      · cases hc
    · rename_i hf
      split at hc
      · rename_i x y t u ha hta
        split at hc
        · rename_i e hu
          split at hc
          · rename_i s hs
            simp only [Option.some.injEq] at hc; subst hc
            exact nq rfl (op_cpy ht hw ho hf ha hta hu hs he)
          · cases hc
        · cases hc
      · cases hc
    · rename_i hf
      split at hc
      · rename_i x y ha
        simp only [Option.some.injEq] at hc; subst hc
        exact qq (op_mnx (g := false) ht hw ho hf ha he)
      · cases hc
    · rename_i hf
      split at hc
      · rename_i x y ha
        simp only [Option.some.injEq] at hc; subst hc
        exact qq (op_mnx (g := true) ht hw ho hf ha he)
      · cases hc
    · rename_i hf
      simp only [Option.some.injEq] at hc; subst hc
      exact nq rfl (op_rcv ho hf he)
    · cases hc
  case defer c =>
    simp only [comp] at hc
    split at hc
    · rename_i g hg
      simp only [Option.some.injEq] at hc; subst hc
      exact nq rfl (op_dfr ht ho hg he)
    · cases hc
  case panic x => simp only [comp, Option.some.injEq] at hc; subst hc; exact nq rfl (op_pnc ht ho he)
  all_goals (simp only [comp] at hc; cases hc)

theorem op_sound (hE : EnvOK P E) {ao : AOp} (ht : TR ρ T a.tmps) (hw : WR K ρ H w) (hc : comp P E o.op = some ao) (he : aop E T H ao = some (out, H')) : OutR P E K ρ H w (execOp a.eval o) out H' :=
  (op_all hE ht hw hc he).2
end
end Go.Sim
