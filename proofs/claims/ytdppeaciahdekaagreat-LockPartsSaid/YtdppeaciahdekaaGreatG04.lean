/- A part of the proof that LockParts returns true for every input. No condition. -/
import Derived.Test.YtdppeaciahdekaaGreatG03
import Derived.Test.YtdppeaciahdekaaGreatG00
import Derived.Orders
set_option linter.all false
section
namespace Go.Sim
variable [RO]
section
variable {P : Program} {E : EnvD} {K : Nat → Prop} {ρ : Ren} {H H' : AHeap} {w : World} {T : Tmps} {a : Act} {out : AOut} {o : Oper}
theorem aint_inv {k : IntKind} {x : AVal} {n : Int} {v : Value} (hv : VR ρ x v) (h : aint k x = some n) : v = .int k n := by
 unfold aint at h
 split at h
 ·split at h
  ·rename_i hk
   simp only [Option.some.injEq] at h; subst h hk
   exact hv.int_inv
  ·cases h
 ·cases h
def MR (ρ : Ren) (es : List (AVal × AVal)) (es' : List MapEntry) : Prop :=
 es'.length = es.length ∧ ∀ (i : Nat) e e', es[i]? = some e → es'[i]? = some e' → VR ρ e.1 e'.key ∧ VR ρ e.2 e'.val
theorem MR.tail {e : AVal × AVal} {e' : MapEntry} {es : List (AVal × AVal)} {es' : List MapEntry} (h : MR ρ (e :: es) (e' :: es')) : VR ρ e.1 e'.key ∧ VR ρ e.2 e'.val ∧ MR ρ es es' := by
 have h0 := h.2 0 e e' rfl rfl
 exact ⟨h0.1, h0.2, by have := h.1; simp at this; exact this, fun i x x' h1 h2 => h.2 (i + 1) x x' (by simpa using h1) (by simpa using h2)⟩
theorem find_sound {k j : IntKind} {n : Int} : ∀ (es : List (AVal × AVal)) (es' : List MapEntry) (i : Nat) (r : Option AVal), MR ρ es es' → afind k n es = some r →
  ∃ r', Instr.findNow (.int j) (.int k n) es' i = some r' ∧ (match r with | none => r' = none | some x => ∃ q v, r' = some (q, v) ∧ VR ρ x v)
 | [], [], i, r, _, h => by simp only [afind, Option.some.injEq] at h; subst h; exact ⟨none, rfl, rfl⟩
 | [], _ :: _, _, _, h, _ => by have := h.1; simp at this
 | _ :: _, [], _, _, h, _ => by have := h.1; simp at this
 | (e, v) :: es, e' :: es', i, r, hm, h => by
  obtain ⟨h1, h2, h3⟩ := hm.tail
  simp only [afind] at h
  split at h
  ·rename_i m hm'
   have hk := aint_inv h1 hm'
   split at h
   ·rename_i hnm
    simp only [Option.some.injEq] at h; subst h hnm
    exact ⟨some (i, e'.val), by simp [Instr.findNow, hk, Instr.sameNow], i, e'.val, rfl, h2⟩
   ·rename_i hnm
    obtain ⟨r', g1, g2⟩ := find_sound (j := j) es es' (i + 1) r h3 h
    refine ⟨r', ?_, g2⟩
    have : (n == m) = false := by simpa using hnm
    simp [Instr.findNow, hk, Instr.sameNow, this, g1]
  ·cases h
theorem findNow_cons_ne {j k : IntKind} {n m : Int} {e : MapEntry} {l : List MapEntry} {i : Nat} (hk : e.key = .int k m) (h : m ≠ n) : Instr.findNow (.int j) (.int k n) (e :: l) i = Instr.findNow (.int j) (.int k n) l (i + 1) := by
 have : (n == m) = false := by simpa using fun e => h e.symm
 simp [Instr.findNow, hk, Instr.sameNow, this]
theorem findNow_cons_eq {j k : IntKind} {n : Int} {e : MapEntry} {l : List MapEntry} {i : Nat} (hk : e.key = .int k n) : Instr.findNow (.int j) (.int k n) (e :: l) i = some (some (i, e.val)) := by
 simp [Instr.findNow, hk, Instr.sameNow]
def FR (r : Option Value) (x : Option (Option (Nat × Value))) : Prop := match r with | none => x = some none | some v => ∃ q, x = some (some (q, v))
theorem perm_find {j k : IntKind} {n : Int} {r : Option Value} : ∀ {l l' : List MapEntry}, l.Perm l' → (∀ e ∈ l, ∃ m, e.key = .int k m) → (l.map (·.key)).Nodup → ∀ i, FR r (Instr.findNow (.int j) (.int k n) l i) → ∀ i', FR r (Instr.findNow (.int j) (.int k n) l' i') := by
 have any : ∀ (l : List MapEntry), (∀ e ∈ l, ∃ m, e.key = .int k m) → ∀ i i', FR r (Instr.findNow (.int j) (.int k n) l i) → FR r (Instr.findNow (.int j) (.int k n) l i') := by
  intro l
  induction l with
  | nil => intro _ i i' h; exact h
  | cons e l ih =>
   intro hk i i' h
   obtain ⟨m, hm⟩ := hk e (by simp)
   by_cases he : m = n
   ·subst he
    rw [findNow_cons_eq hm] at h ⊢
    cases r with
    | none => exact absurd h (by simp [FR])
    | some v => obtain ⟨q, hq⟩ := h; simp only [Option.some.injEq, Prod.mk.injEq] at hq; exact ⟨i', by simp [hq.2]⟩
   ·rw [findNow_cons_ne hm he] at h ⊢
    exact ih (fun e' h' => hk e' (by simp [h'])) _ _ h
 intro l l' hp
 induction hp with
 | nil => intro _ _ i h i'; exact h
 | cons e hp ih =>
  intro hk hn i h i'
  obtain ⟨m, hm⟩ := hk e (by simp)
  by_cases he : m = n
  ·subst he
   rw [findNow_cons_eq hm] at h ⊢
   cases r with
   | none => exact absurd h (by simp [FR])
   | some v => obtain ⟨q, hq⟩ := h; simp only [Option.some.injEq, Prod.mk.injEq] at hq; exact ⟨i', by simp [hq.2]⟩
  ·rw [findNow_cons_ne hm he] at h ⊢
   exact ih (fun e' h' => hk e' (by simp [h'])) (by simp at hn; simp [hn.2]) _ h _
 | swap x y l =>
  intro hk hn i h i'
  obtain ⟨mx, hx⟩ := hk x (by simp)
  obtain ⟨my, hy⟩ := hk y (by simp)
  have hne : mx ≠ my := by
   rintro rfl
   simp [hx, hy] at hn
  by_cases e1 : my = n
  ·subst e1
   rw [findNow_cons_eq hy] at h
   rw [findNow_cons_ne hx hne, findNow_cons_eq hy]
   cases r with
   | none => exact absurd h (by simp [FR])
   | some v => obtain ⟨q, hq⟩ := h; simp only [Option.some.injEq, Prod.mk.injEq] at hq; exact ⟨i' + 1, by simp [hq.2]⟩
  ·rw [findNow_cons_ne hy e1] at h
   by_cases e2 : mx = n
   ·subst e2
    rw [findNow_cons_eq hx] at h ⊢
    cases r with
    | none => exact absurd h (by simp [FR])
    | some v => obtain ⟨q, hq⟩ := h; simp only [Option.some.injEq, Prod.mk.injEq] at hq; exact ⟨i', by simp [hq.2]⟩
   ·rw [findNow_cons_ne hx e2] at h ⊢
    rw [findNow_cons_ne hy e1]
    exact any l (fun e' h' => hk e' (by simp [h'])) _ _ h
 | trans hp hq ih1 ih2 =>
  intro hk hn i h i'
  exact ih2 (fun e' h' => hk e' (hp.mem_iff.2 h')) ((hp.map _).nodup_iff.1 hn) 0 (ih1 hk hn i h 0) i'
theorem noKey_sound {k : IntKind} {m : Int} : ∀ {es : List (AVal × AVal)} {l : List MapEntry}, MR ρ es l → noKey k m es = true → ∀ e ∈ l, ∃ m', e.key = .int k m' ∧ m' ≠ m
 | [], [], _, _, e, he => by cases he
 | [], _ :: _, h, _, _, _ => by have := h.1; simp at this
 | _ :: _, [], h, _, _, _ => by have := h.1; simp at this
 | x :: es, y :: l, h, hn, e, he => by
  obtain ⟨h1, h2, h3⟩ := h.tail
  simp only [noKey, Bool.and_eq_true] at hn
  obtain ⟨hn1, hn2⟩ := hn
  rcases List.mem_cons.1 he with rfl | he
  ·split at hn1
   ·rename_i m' hm'
    exact ⟨m', aint_inv h1 hm', by simpa using hn1⟩
   ·cases hn1
  ·exact noKey_sound h3 hn2 e he
theorem nodupK_sound {k : IntKind} : ∀ {es : List (AVal × AVal)} {l : List MapEntry}, MR ρ es l → nodupK k es = true → (∀ e ∈ l, ∃ m, e.key = .int k m) ∧ (l.map (·.key)).Nodup
 | [], [], _, _ => by simp
 | [], _ :: _, h, _ => by have := h.1; simp at this
 | _ :: _, [], h, _ => by have := h.1; simp at this
 | x :: es, y :: l, h, hn => by
  obtain ⟨h1, h2, h3⟩ := h.tail
  simp only [nodupK, Bool.and_eq_true] at hn
  obtain ⟨hn1, hn2⟩ := hn
  obtain ⟨i1, i2⟩ := nodupK_sound h3 hn2
  split at hn1
  ·rename_i m hm
   have hk := aint_inv h1 hm
   refine ⟨fun e he => ?_, ?_⟩
   ·rcases List.mem_cons.1 he with rfl | he
    ·exact ⟨m, hk⟩
    ·exact i1 e he
   ·simp only [List.map_cons, List.nodup_cons]
    refine ⟨fun hc => ?_, i2⟩
    obtain ⟨e, he, hke⟩ := List.mem_map.1 hc
    obtain ⟨m', g1, g2⟩ := noKey_sound h3 hn1 e he
    rw [g1, hk] at hke
    simp only [Value.int.injEq] at hke
    exact g2 hke.2
  ·cases hn1
theorem pfind_sound {k j : IntKind} {n : Int} {es : List (AVal × AVal)} {m es' : List MapEntry} {r : Option AVal} (hp : m.Perm es') (hm : MR ρ es m) (hn : nodupK k es = true) (h : afind k n es = some r) :
  ∃ r', Instr.findNow (.int j) (.int k n) es' 0 = some r' ∧ (match r with | none => r' = none | some x => ∃ q v, r' = some (q, v) ∧ VR ρ x v) := by
 obtain ⟨r', g1, g2⟩ := find_sound (j := j) es m 0 r hm h
 obtain ⟨c1, c2⟩ := nodupK_sound hm hn
 cases r with
 | none =>
  simp only at g2; subst g2
  exact ⟨none, perm_find (r := none) hp c1 c2 0 g1 0, rfl⟩
 | some x =>
  obtain ⟨q, v, rfl, hv⟩ := g2
  obtain ⟨q', hq'⟩ := perm_find (r := some v) hp c1 c2 0 ⟨q, g1⟩ 0
  exact ⟨_, hq', q', v, rfl, hv⟩
theorem run_checkKey_int {b : Bool} {t : TypeId} {j k : IntKind} {n : Int} (hu : P.underlying t = some (.int j)) : (Instr.checkKey b 10000 t (.int k n)).run P w = .ok () w := by
 show (Instr.checkKey b (9999 + 1) t (.int k n)).run P w = .ok () w
 have : ∀ d, (Instr.checkKey b (d + 1) t (.int k n)).run P w = .ok () w := fun d => by simp [Instr.checkKey, run_und hu]
 exact this 9999
theorem run_findKey_int {t : TypeId} {j k : IntKind} {n : Int} {es' : List MapEntry} {r : Option (Nat × Value)} (hu : P.underlying t = some (.int j)) (h : Instr.findNow (.int j) (.int k n) es' 0 = some r) :
  (Instr.findKey t (.int k n) es').run P w = .ok r w := by
 simp [Instr.findKey, run_und hu, h]
theorem WR.mapOf {i : Nat} {es : List (AVal × AVal)} (hw : WR K ρ H w) (hb : H.get i = some (.map es)) {l : Loc} (hl : ρ i = some l) : ∃ es' clock, w.heap[l.blk]? = some (.map es' clock) ∧ MR ρ es es'.toList := by
 obtain ⟨l', ob, h1, h2, h3, h4⟩ := hw.live i _ hb
 rw [hl] at h1; cases h1
 cases h3 with
 | map hs h => exact ⟨_, _, h2, by simpa using hs, fun i e e' h1 h2 => h i e e' h1 (by simpa using h2)⟩
def FoundR (ρ : Ren) (r : Option AVal) (r' : Option (Nat × Value)) : Prop := match r with | none => r' = none | some x => ∃ q v, r' = some (q, v) ∧ VR ρ x v
theorem WR.mapOfP {i : Nat} {es : List (AVal × AVal)} (hw : WR K ρ H w) (hb : H.get i = some (.pmap es)) {l : Loc} (hl : ρ i = some l) : ∃ m es' clock, w.heap[l.blk]? = some (.map es' clock) ∧ m.Perm es'.toList ∧ MR ρ es m := by
 obtain ⟨l', ob, h1, h2, h3, h4⟩ := hw.live i _ hb
 rw [hl] at h1; cases h1
 cases h3 with
 | pmap hp hs h => exact ⟨_, _, _, h2, hp, hs, h⟩
theorem zero_sound (hE : EnvOK P E) {t : TypeId} {z : AVal} (h : cellZ P E t = some z) : ∃ v, (zeroValue t).run P w = .ok v w ∧ VR ρ z v := by
 unfold cellZ at h
 split at h
 ·rename_i y hg hzr
  simp only [Option.some.injEq] at h; subst h
  obtain ⟨ti, v, g1, g2, g3, g4, g5, g6, _⟩ := hE.zro t _ hzr
  exact ⟨v, run_zero g1 g2 w, g6 _ hg rfl ρ⟩
 ·rename_i y hg hzr
  simp only [Option.some.injEq] at h; subst h
  obtain ⟨ti, v, g1, g2, g3, g4, g5, g6, g7⟩ := hE.zro t _ hzr
  obtain ⟨cs, rfl⟩ := g7 hg
  exact ⟨_, run_zero g1 g2 w, RR.agg g4 (g5 ρ)⟩
 ·cases h
theorem op_lkp (hE : EnvOK P E) {x i : Operand} {t kt e : TypeId} {k : IntKind} {z : AVal} {ok : Bool} (ht : TR ρ T a.tmps) (hw : WR K ρ H w) (ho : o.op = .lookup t x i ok)
  (hu : P.underlying t = some (.map kt e)) (hk : P.underlying kt = some (.int k)) (hz : cellZ P E e = some z) (he : aop E T H (.lkp k z ok x i) = some (out, H')) : OutS P ρ H w (execOp a.eval o) out H' := by
 obtain ⟨zv, z1, z2⟩ := zero_sound (w := w) (ρ := ρ) hE hz
 simp only [aop] at he
 split at he
 ·rename_i m v hx hi
  split at he
  ·rename_i n hn
   have hkey := aint_inv (aev_sound ht hi) hn
   have fin : ∀ (r : Option AVal) (es' : List MapEntry) (r' : Option (Nat × Value)), Instr.findNow (.int k) (.int k n) es' 0 = some r' → (match r with | none => r' = none | some x => ∃ q v, r' = some (q, v) ∧ VR ρ x v) →
     (∀ q, (match r' with | some (_, v) => q = (if ok then .tuple #[v, .bool true] else v) | none => q = (if ok then .tuple #[zv, .bool false] else zv)) → (execOp a.eval o).run P w = .ok (.value q) w) →
     (match r with | some u => ret (if ok then .tup [u, .bool true] else u) H | none => ret (if ok then .tup [z, .bool false] else z) H) = some (out, H') → OutS P ρ H w (execOp a.eval o) out H' := by
    intro r es' r' hf hr hrun hret
    cases r with
    | none =>
     simp only at hr hret; subst hr
     refine OutR.same hw (hrun _ rfl) ?_ hret
     cases ok
     ·exact z2
     ·exact VR.tup2 z2 (.bool _)
    | some u =>
     simp only at hr hret
     obtain ⟨q, v, rfl, hv⟩ := hr
     refine OutR.same hw (hrun _ rfl) ?_ hret
     cases ok
     ·exact hv
     ·exact VR.tup2 hv (.bool _)
   cases m with
   | none =>
    simp only [hfind] at he
    have hm := (aev_sound ht hx).mapN_inv
    refine fin none [] none rfl rfl (fun q hq => ?_) he
    simp only at hq; subst hq
    simp only [execOp, ho, hm, hkey, Instr.lookup, Sem.run_bind, run_und hu, Result.andThen_ok, Sem.run_pure, run_checkKey_int hk, run_findKey_int hk (show Instr.findNow (.int k) (.int k n) [] 0 = some none from rfl), z1]
   | some b =>
    obtain ⟨l, e1, e2⟩ := (aev_sound ht hx).mapS_inv
    simp only [hfind] at he
    have both : ∀ r, (match H.get b with | some (.map es) => afind k n es | some (.pmap es) => if nodupK k es then afind k n es else none | _ => none) = some r →
      ∃ (es' : Array MapEntry) (clock : Nat) (r' : Option (Nat × Value)), w.heap[l.blk]? = some (.map es' clock) ∧ Instr.findNow (.int k) (.int k n) es'.toList 0 = some r' ∧ FoundR ρ r r' := by
     intro r hr
     split at hr
     ·rename_i es hes
      obtain ⟨es', clock, m1, m2⟩ := hw.mapOf hes e1
      obtain ⟨r', g1, g2⟩ := find_sound (j := k) es es'.toList 0 r m2 hr
      exact ⟨es', clock, r', m1, g1, by cases r <;> exact g2⟩
     ·rename_i es hes
      split at hr
      ·rename_i hnd
       obtain ⟨m, es', clock, m1, m2, m3⟩ := hw.mapOfP hes e1
       obtain ⟨r', g1, g2⟩ := pfind_sound (j := k) m2 m3 hnd hr
       exact ⟨es', clock, r', m1, g1, by cases r <;> exact g2⟩
      ·cases hr
     ·cases hr
    split at he
    ·rename_i u hfu
     obtain ⟨es', clock, r', m1, g1, g2⟩ := both _ hfu
     simp only [FoundR] at g2
     refine fin (some u) es'.toList r' g1 g2 (fun q hq => ?_) he
     have hobj : (getObj l.blk).run P w = .ok (.map es' clock) w := by simp [getObj, Sem.run, m1]
     simp only [execOp, ho, e2, hkey, Instr.lookup, Sem.run_bind, run_und hu, Result.andThen_ok, Sem.run_pure, hobj, run_checkKey_int hk, run_findKey_int hk g1]
     obtain ⟨q', v, rfl, _⟩ := g2
     simp only at hq; subst hq
     cases ok <;> rfl
    ·rename_i hfu
     obtain ⟨es', clock, r', m1, g1, g2⟩ := both _ hfu
     simp only [FoundR] at g2
     refine fin none es'.toList r' g1 g2 (fun q hq => ?_) he
     have hobj : (getObj l.blk).run P w = .ok (.map es' clock) w := by simp [getObj, Sem.run, m1]
     subst g2
     simp only at hq; subst hq
     simp only [execOp, ho, e2, hkey, Instr.lookup, Sem.run_bind, run_und hu, Result.andThen_ok, Sem.run_pure, hobj, run_checkKey_int hk, run_findKey_int hk g1, z1]
    ·cases he
  ·cases he
 ·cases he
theorem put_sound {k j : IntKind} {n : Int} {x : AVal} {v : Value} (hv : VR ρ x v) : ∀ (es : List (AVal × AVal)) (es' : List MapEntry) (i : Nat) (r : List (AVal × AVal)), MR ρ es es' → aput k n x es = some r →
  (∃ q old, Instr.findNow (.int j) (.int k n) es' i = some (some (i + q, old)) ∧ (∃ e', es'[q]? = some e' ∧ e'.key = .int k n) ∧ MR ρ r (es'.modify q fun e => { e with key := .int k n, val := v })) ∨
  (Instr.findNow (.int j) (.int k n) es' i = some none ∧ ∀ b, MR ρ r (es' ++ [{ key := .int k n, val := v, born := b }]))
 | [], [], i, r, _, h => by
  simp only [aput, Option.some.injEq] at h; subst h
  refine .inr ⟨rfl, fun b => ⟨rfl, fun i e e' h1 h2 => ?_⟩⟩
  cases i with
  | zero => simp at h1 h2; subst h1 h2; exact ⟨.int _ _, hv⟩
  | succ i => simp at h1
 | [], _ :: _, _, _, h, _ => by have := h.1; simp at this
 | _ :: _, [], _, _, h, _ => by have := h.1; simp at this
 | (e, u) :: es, e' :: es', i, r, hm, h => by
  obtain ⟨h1, h2, h3⟩ := hm.tail
  have hcons : ∀ (e : AVal × AVal) (e' : MapEntry) es es', VR ρ e.1 e'.key → VR ρ e.2 e'.val → MR ρ es es' → MR ρ (e :: es) (e' :: es') := by
   intro e e' es es' a1 a2 a3
   refine ⟨by simp [a3.1], fun i x x' b1 b2 => ?_⟩
   cases i with
   | zero => simp at b1 b2; subst b1 b2; exact ⟨a1, a2⟩
   | succ i => exact a3.2 i x x' (by simpa using b1) (by simpa using b2)
  simp only [aput] at h
  split at h
  ·rename_i m hm'
   have hk := aint_inv h1 hm'
   split at h
   ·rename_i hnm
    simp only [Option.some.injEq] at h; subst h hnm
    exact .inl ⟨0, e'.val, by simp [Instr.findNow, hk, Instr.sameNow], ⟨e', rfl, hk⟩, hcons _ _ _ _ (.int _ _) hv h3⟩
   ·rename_i hnm
    have hne : (n == m) = false := by simpa using hnm
    simp only [Option.map_eq_some_iff] at h
    obtain ⟨r', hr', rfl⟩ := h
    rcases put_sound (j := j) hv es es' (i + 1) r' h3 hr' with ⟨q, old, g1, g2, g3⟩ | ⟨g1, g2⟩
    ·refine .inl ⟨q + 1, old, ?_, ?_, hcons _ _ _ _ h1 h2 g3⟩
     ·simp only [Instr.findNow, hk, Instr.sameNow, if_true, hne, g1]
      rw [show i + 1 + q = i + (q + 1) from by omega]
     ·obtain ⟨e'', k1, k2⟩ := g2
      exact ⟨e'', by simpa using k1, k2⟩
    ·refine .inr ⟨?_, fun b => hcons _ _ _ _ h1 h2 (g2 b)⟩
     simp only [Instr.findNow, hk, Instr.sameNow, if_true, hne, g1]
  ·cases h
theorem MR.br {es : List (AVal × AVal)} {es' : Array MapEntry} {clock : Nat} {l : Loc} (h : MR ρ es es'.toList) : BR ρ l (.map es) (.map es' clock) :=
 .map (by simpa using h.1) fun i e e' h1 h2 => h.2 i e e' h1 (by simpa using h2)
theorem op_mup {m i x : Operand} {t kt e : TypeId} {k : IntKind} (ht : TR ρ T a.tmps) (hw : WR K ρ H w) (ho : o.op = .mapUpdate t m i x ∨ o.op = .insert t m i x)
  (hu : P.underlying t = some (.map kt e)) (hk : P.underlying kt = some (.int k)) (he : aop E T H (.mup k m i x) = some (out, H')) : OutR P E K ρ H w (execOp a.eval o) out H' := by
 have hexec : (execOp a.eval o).run P w = ((Instr.mapUpdate t (a.eval m) (a.eval i) (a.eval x)).run P w).andThen fun _ w' => .ok .skip w' := by
  rcases ho with ho | ho <;> (unfold execOp; rw [ho]; exact Sem.run_bind P w _ _)
 simp only [aop] at he
 split at he
 ·rename_i b key y hm hi hx
  split at he
  ·rename_i n hn
   split at he
   ·rename_i es hes
    split at he
    ·rename_i r hr
     have hkey := aint_inv (aev_sound ht hi) hn
     obtain ⟨l, e1, e2⟩ := (aev_sound ht hm).mapS_inv
     obtain ⟨es', clock, m1, m2⟩ := hw.mapOf hes e1
     have hobj : (getObj l.blk).run P w = .ok (.map es' clock) w := by simp [getObj, Sem.run, m1]
     have hlt : l.blk < w.heap.size := hw.lt hes e1
     have hset : ∀ (ob : Obj), (setObj l.blk ob).run P w = .ok () { w with heap := w.heap.setIfInBounds l.blk ob } := by intro ob; simp [setObj, Sem.run, m1]
     have hpost : ∀ (fs : Array MapEntry) (cl : Nat), MR ρ r fs.toList → Post K ρ w ρ (H.put b (.map r)) { w with heap := w.heap.setIfInBounds l.blk (.map fs cl) } := by
      intro fs cl hfs
      refine hw.set hes e1 rfl rfl (o' := .map fs cl) (by simp [hlt]) (fun k hk => ?_) (by simp) hfs.br rfl rfl rfl
      show (w.heap.setIfInBounds l.blk _)[k]? = _
      rw [Array.getElem?_setIfInBounds_ne (Ne.symm hk)]
     rcases put_sound (j := k) (aev_sound ht hx) es es'.toList 0 r m2 hr with ⟨q, old, g1, ⟨e', k1, k2⟩, g3⟩ | ⟨g1, g2⟩
     ·rw [Nat.zero_add] at g1
      refine OutR.skip ?_ (hpost (es'.modify q fun e => { e with key := .int k n, val := a.eval x }) clock (by simpa using g3)) he
      rw [hexec, e2, hkey]
      have hk1 : es'[q]? = some e' := by simpa using k1
      simp only [Instr.mapUpdate, Sem.run_bind, run_und hu, Result.andThen_ok, hobj, run_checkKey_int hk, run_findKey_int hk g1, hk1, Option.map_some, Option.getD_some, k2, Instr.keyThatStays]
      rw [if_pos (by simp [Instr.sameBits])]
      simp only [Sem.run_pure, Result.andThen_ok, hset]
     ·refine OutR.skip ?_ (hpost (es'.push { key := .int k n, val := a.eval x, born := clock }) (clock + 1) (by simpa using g2 clock)) he
      rw [hexec, e2, hkey]
      simp only [Instr.mapUpdate, Sem.run_bind, run_und hu, Result.andThen_ok, hobj, run_checkKey_int hk, run_findKey_int hk g1, hset]
    ·cases he
   ·cases he
  ·cases he
 ·cases he
theorem op_tas {x : Operand} {xt t : TypeId} {d : TypeDesc} {ok : Bool} {z : AVal} (ht : TR ρ T a.tmps) (hw : WR K ρ H w) (ho : o.op = .typeAssert x xt t ok)
  (hu : P.underlying t = some d) (hd : ∀ m, d ≠ .interface m) (hz : ∃ v, (zeroValue t).run P w = .ok v w ∧ VR ρ z v) (he : aop E T H (.tas t ok z x) = some (out, H')) :
  OutS P ρ H w (execOp a.eval o) out H' := by
 obtain ⟨zv, z1, z2⟩ := hz
 have fin : ∀ (q : Value), (∀ x', x' = a.eval x → (Instr.typeAssert x' xt t ok).run P w = .ok q w) → (execOp a.eval o).run P w = .ok (.value q) w := by
  intro q hq
  unfold execOp
  rw [ho]
  have := hq _ rfl
  show (do let v ← Instr.typeAssert (a.eval x) xt t ok; pure (.value v) : Sem Next).run P w = _
  rw [Sem.run_bind, this]
  rfl
 simp only [aop] at he
 split at he
 ·rename_i u v hx
  obtain ⟨v', e1, e2⟩ := (aev_sound ht hx).iface_inv
  split at he
  ·rename_i hut
   subst hut
   refine OutR.same hw (fin (if ok then .tuple #[v', .bool true] else v') fun x' hx' => ?_) ?_ he
   ·subst hx'
    simp only [Instr.typeAssert, e1, Sem.run_bind, run_und hu, Result.andThen_ok]
    cases d <;> first | (cases ok <;> simp; done) | exact absurd rfl (hd _)
   ·cases ok
    ·exact e2
    ·exact VR.tup2 e2 (.bool _)
  ·rename_i hut
   split at he
   ·rename_i hok
    subst hok
    refine OutR.same hw (fin (.tuple #[zv, .bool false]) fun x' hx' => ?_) (VR.tup2 z2 (.bool _)) he
    subst hx'
    simp only [Instr.typeAssert, e1, Sem.run_bind, run_und hu, Result.andThen_ok]
    cases d <;> first | (simp [hut, z1]; done) | exact absurd rfl (hd _)
   ·cases he
 ·rename_i hx
  have e1 : a.eval x = .nilIface := by
   have := aev_sound ht hx
   generalize a.eval x = q at *
   cases this; rfl
  split at he
  ·rename_i hok
   subst hok
   refine OutR.same hw (fin (.tuple #[zv, .bool false]) fun x' hx' => ?_) (VR.tup2 z2 (.bool _)) he
   subst hx'
   simp only [Instr.typeAssert, e1, Sem.run_bind, run_und hu, Result.andThen_ok]
   cases d <;> first | (simp [z1]; done) | exact absurd rfl (hd _)
  ·cases he
 ·cases he
theorem run_callFunc (hE : EnvOK P E) {f : FuncId} (hf : E.isF f = true) (l : Array Value) : (callFunc f l).run P w = .ok (.enter f l) w := by
 obtain ⟨fn, h1, h2, h3⟩ := hE.isF f hf
 cases hb : fn.body with
 | none => simp [hb] at h3
 | some c => simp [callFunc, h1, h2, hb]
theorem callee_sound {g : AVal} {l l' : List AVal} {f : FuncId} {v : Value} {lv : Array Value} (hg : VR ρ g v) (hl : LR ρ l lv) (h : acallee E g l = some (f, l')) :
  ∃ p q, v = .func (.func f) p q ∧ LR ρ l' (p ++ lv ++ q) ∧ E.isF f = true := by
 unfold acallee at h
 split at h
 ·rename_i g' x y
  split at h
  ·rename_i hf
   simp only [Option.some.injEq, Prod.mk.injEq] at h
   obtain ⟨rfl, rfl⟩ := h
   obtain ⟨p, q, rfl, h1, h2⟩ := hg.func_inv
   exact ⟨p, q, rfl, (h1.append hl).append h2, hf⟩
  ·cases h
 ·cases h
theorem op_call (hE : EnvOK P E) {c : Call} {f : FuncId} (ht : TR ρ T a.tmps) (ho : o.op = .call c) (hc : c.callee = .value (.func f)) (he : aop E T H (.call f c.args.toList) = some (out, H')) :
  OutR P E K ρ H w (execOp a.eval o) out H' := by
 simp only [aop] at he
 split at he
 ·rename_i l hl
  split at he
  ·rename_i hf
   simp only [Option.some.injEq, Prod.mk.injEq] at he
   obtain ⟨rfl, rfl⟩ := he
   refine ⟨c.args.map a.eval, ?_, aevs_sound' ht hl, rfl, hf⟩
   simp only [execOp, ho, resolve, hc, Sem.run_bind, Act.eval, Deferred.ofValue, Sem.run_pure, Result.andThen_ok, invoke, Array.empty_append, Array.append_empty]
   exact run_callFunc hE hf _
  ·cases he
 ·cases he
theorem op_clv (hE : EnvOK P E) {c : Call} {g : Operand} (ht : TR ρ T a.tmps) (ho : o.op = .call c) (hc : c.callee = .value g) (he : aop E T H (.clv g c.args.toList) = some (out, H')) :
  OutR P E K ρ H w (execOp a.eval o) out H' := by
 simp only [aop] at he
 split at he
 ·rename_i v l hv hl
  split at he
  ·rename_i f l' hcl
   simp only [Option.some.injEq, Prod.mk.injEq] at he
   obtain ⟨rfl, rfl⟩ := he
   obtain ⟨p, q, e1, e2, e3⟩ := callee_sound (aev_sound ht hv) (aevs_sound' ht hl) hcl
   refine ⟨_, ?_, e2, rfl, e3⟩
   simp only [execOp, ho, resolve, hc, Sem.run_bind, e1, Deferred.ofValue, Sem.run_pure, Result.andThen_ok, invoke]
   exact run_callFunc hE e3 _
  ·cases he
 ·cases he
theorem op_dfr {c : Call} {g : Operand} (ht : TR ρ T a.tmps) (ho : o.op = .defer c) (hc : c.callee = .value g) (he : aop E T H (.dfr g c.args.toList) = some (out, H')) :
  OutR P E K ρ H w (execOp a.eval o) out H' := by
 simp only [aop] at he
 split at he
 ·rename_i v l hv hl
  split at he
  ·rename_i f l' hcl
   simp only [Option.some.injEq, Prod.mk.injEq] at he
   obtain ⟨rfl, rfl⟩ := he
   obtain ⟨p, q, e1, e2, e3⟩ := callee_sound (aev_sound ht hv) (aevs_sound' ht hl) hcl
   refine ⟨q, p ++ c.args.map a.eval, ?_, e2, rfl, e3⟩
   simp only [execOp, ho, resolve, hc, Sem.run_bind, e1, Deferred.ofValue, Sem.run_pure, Result.andThen_ok]
  ·cases he
 ·cases he
theorem op_inv (hE : EnvOK P E) {c : Call} {r : Operand} {name : String} (ht : TR ρ T a.tmps) (ho : o.op = .call c) (hc : c.callee = .invoke r name) (he : aop E T H (.inv name r c.args.toList) = some (out, H')) :
  OutR P E K ρ H w (execOp a.eval o) out H' := by
 simp only [aop] at he
 split at he
 ·rename_i t v l hv hl
  split at he
  ·rename_i f hf
   simp only [Option.some.injEq, Prod.mk.injEq] at he
   obtain ⟨rfl, rfl⟩ := he
   obtain ⟨u, e1, e2⟩ := (aev_sound ht hv).iface_inv
   obtain ⟨m1, m2⟩ := hE.meth t name f hf
   refine ⟨#[u] ++ c.args.map a.eval, ?_, (aevs_sound' ht hl).cons e2, rfl, m1⟩
   simp only [execOp, ho, resolve, hc, Sem.run_bind, Sem.run_pure, Result.andThen_ok, invoke, e1]
   have h0 : (#[Value.iface t u] ++ c.args.map a.eval)[0]? = some (Value.iface t u) := by rw [Array.getElem?_append, if_pos (show 0 < #[Value.iface t u].size from Nat.zero_lt_one)]; rfl
   have h1 : (#[Value.iface t u] ++ c.args.map a.eval).extract 1 (#[Value.iface t u] ++ c.args.map a.eval).size = c.args.map a.eval := by
    apply Array.ext'
    simp
    exact List.take_of_length_le (by simp)
   simp only [h0, h1, callMethod, Sem.run_bind, run_program, Result.andThen_ok, m2 u w]
   exact run_callFunc hE m1 _
  ·cases he
 ·cases he
theorem op_len {x : Operand} {c : Call} {t : TypeId} {k : LK} (ht : TR ρ T a.tmps) (hw : WR K ρ H w) (ho : o.op = .call c) (hc : c.callee = .builtin .len) (ha : c.args.toList = [x]) (hta : c.argTypes.toList = [t])
  (hu : match k with
   | .arr n => (∃ e, P.underlying t = some (.array n e)) ∨ ∃ p e, P.underlying t = some (.pointer p) ∧ P.underlying p = some (.array n e)
   | .sl => ∃ e, P.underlying t = some (.slice e)
   | .st => P.underlying t = some .string)
  (he : aop E T H (.len k x) = some (out, H')) : OutS P ρ H w (execOp a.eval o) out H' := by
 have ha' : c.args = #[x] := by rw [← Array.toArray_toList (xs := c.args), ha]
 have hta' : c.argTypes = #[t] := by rw [← Array.toArray_toList (xs := c.argTypes), hta]
 have hexec : (execOp a.eval o).run P w = ((Builtin.len_ #[t] o.type #[a.eval x]).run P w).andThen fun v w' => .ok (.value v) w' := by
  simp only [execOp, ho, resolve, hc, ha', hta', Sem.run_bind, Sem.run_pure, Result.andThen_ok, invoke, builtin, List.map_toArray, List.map_cons, List.map_nil]
 simp only [aop] at he
 split at he
 ·refine OutR.same hw ?_ (.int _ _) he
  rw [hexec]
  simp only at hu
  rcases hu with ⟨e, hu⟩ | ⟨p, e, hu, hp⟩
  ·simp [Builtin.len_, run_und hu, goInt]
  ·simp [Builtin.len_, run_und hu, run_und hp, goInt]
 ·rename_i p n cp hx
  have hv := aev_sound ht hx
  have e1 : ∃ b cp', a.eval x = .slice b n cp' := by
   cases p with
   | none => obtain ⟨rfl, _, e1⟩ := hv.sliceN_inv; exact ⟨_, _, e1⟩
   | some p => obtain ⟨l, _, e1⟩ := VR.slice_inv (i := p.1) (o := p.2) hv; exact ⟨_, _, e1⟩
  obtain ⟨b, cp', e1⟩ := e1
  refine OutR.same hw ?_ (.int _ _) he
  rw [hexec, e1]
  obtain ⟨e, hu⟩ := hu
  simp [Builtin.len_, run_und hu, goInt]
 ·rename_i hx
  obtain ⟨ad, e1⟩ := (aev_sound ht hx).es_inv
  refine OutR.same hw ?_ (.int _ _) he
  rw [hexec, e1]
  obtain ⟨e, hu⟩ := hu
  simp [Builtin.len_, run_und hu, goInt]
 ·rename_i s hx
  have e1 := (aev_sound ht hx).str_inv
  refine OutR.same hw ?_ (.int _ _) he
  rw [hexec, e1]
  simp only at hu
  simp [Builtin.len_, run_und hu, goInt]
 ·cases he
theorem op_mnx {x y : Operand} {c : Call} {g : Bool} (ht : TR ρ T a.tmps) (hw : WR K ρ H w) (ho : o.op = .call c) (hc : c.callee = .builtin (if g then .max else .min)) (ha : c.args.toList = [x, y])
  (he : aop E T H (.mnx g x y) = some (out, H')) : OutS P ρ H w (execOp a.eval o) out H' := by
 have ha' : c.args = #[x, y] := by rw [← Array.toArray_toList (xs := c.args), ha]
 simp only [aop] at he
 split at he
 ·rename_i k p k' q hx hy
  split at he
  ·rename_i hk
   subst hk
   refine OutR.same hw ?_ (.int _ _) he
   cases g
   ·simp [execOp, ho, resolve, hc, ha', invoke, builtin, Builtin.min_, Builtin.min2, (aev_sound ht hx).int_inv, (aev_sound ht hy).int_inv]
   ·simp [execOp, ho, resolve, hc, ha', invoke, builtin, Builtin.max_, Builtin.max2, (aev_sound ht hx).int_inv, (aev_sound ht hy).int_inv]
  ·cases he
 ·cases he
theorem op_pnc {x : Operand} (ht : TR ρ T a.tmps) (ho : o.op = .panic x) (he : aop E T H (.pnc x) = some (out, H')) : OutR P E K ρ H w (execOp a.eval o) out H' := by
 simp only [aop] at he
 split at he
 ·rename_i t v hx
  simp only [Option.some.injEq, Prod.mk.injEq] at he
  obtain ⟨rfl, rfl⟩ := he
  obtain ⟨u, e1, e2⟩ := (aev_sound ht hx).iface_inv
  exact ⟨_, by simp [execOp, ho, e1, Instr.panic], .iface t e2, rfl⟩
 ·cases he
theorem op_rcv {c : Call} (ho : o.op = .call c) (hc : c.callee = .builtin .recover) (he : aop E T H .rcv = some (out, H')) : OutR P E K ρ H w (execOp a.eval o) out H' := by
 simp only [aop, Option.some.injEq, Prod.mk.injEq] at he
 obtain ⟨rfl, rfl⟩ := he
 exact ⟨by simp [execOp, ho, resolve, hc, invoke, builtin], rfl⟩
theorem op_all (hE : EnvOK P E) {ao : AOp} (ht : TR ρ T a.tmps) (hw : WR K ρ H w) (hc : comp P E o.op = some ao) (he : aop E T H ao = some (out, H')) :
  (quietOp ao = true ∨ readOp ao = true → OutS P ρ H w (execOp a.eval o) out H') ∧ OutR P E K ρ H w (execOp a.eval o) out H' := by
 have qq : OutS P ρ H w (execOp a.eval o) out H' → (quietOp ao = true ∨ readOp ao = true → OutS P ρ H w (execOp a.eval o) out H') ∧ OutR P E K ρ H w (execOp a.eval o) out H' := fun h => ⟨fun _ => h, h.loud hw⟩
 have nq : (quietOp ao || readOp ao) = false → OutR P E K ρ H w (execOp a.eval o) out H' → (quietOp ao = true ∨ readOp ao = true → OutS P ρ H w (execOp a.eval o) out H') ∧ OutR P E K ρ H w (execOp a.eval o) out H' := fun h h' => ⟨fun hq => by rcases hq with hq | hq <;> simp [hq] at h, h'⟩
 cases ho : o.op <;> rw [ho] at hc
 case move x => simp only [comp, Option.some.injEq] at hc; subst hc; exact qq (op_mov ht hw (.inl ho) he)
 case assign x => simp only [comp, Option.some.injEq] at hc; subst hc; exact qq (op_mov ht hw (.inr ho) he)
 case pick c x y => simp only [comp, Option.some.injEq] at hc; subst hc; exact qq (op_pick ht hw ho he)
 case alloc t =>
  have hc' := hc
  simp only [comp, Option.map_eq_some_iff] at hc
  obtain ⟨z, hz, rfl⟩ := hc
  exact nq rfl (op_new hE hw ho (by rw [ho]; exact hc') he)
 case box t x => simp only [comp, Option.some.injEq] at hc; subst hc; exact nq rfl (op_box ht hw ho he)
 case build t ps =>
  have hc' := hc
  simp only [comp] at hc
  split at hc
  ·split at hc
   ·split at hc
    ·simp only [Option.some.injEq] at hc; subst hc; exact qq (op_build hE ht hw ho hc' he)
    ·cases hc
   ·cases hc
  ·split at hc
   ·simp only [Option.some.injEq] at hc; subst hc; exact qq (op_build hE ht hw ho hc' he)
   ·cases hc
  ·cases hc
 case buildSlice t n ps =>
  simp only [comp] at hc
  split at hc
  ·rename_i e hu
   split at hc
   ·rename_i z s hz hs
    split at hc
    ·rename_i hb
     simp only [Option.some.injEq] at hc; subst hc
     simp only [Bool.and_eq_true, decide_eq_true_eq] at hb
     exact nq rfl (op_bsl hE ht hw ho hu hz hs hb.1.1 hb.1.2 he)
    ·cases hc
   ·cases hc
  ·cases hc
 case load t x =>
  simp only [comp] at hc
  split at hc
  ·rename_i hg
   split at hc
   ·rename_i n hn
    simp only [Option.some.injEq] at hc; subst hc
    exact qq (op_ldr ht hw ho hg hn he)
   ·cases hc
  ·rename_i hg
   simp only [Option.some.injEq] at hc; subst hc
   exact qq (op_ldc ht hw ho hg he)
  ·cases hc
 case store t x y =>
  simp only [comp] at hc
  split at hc
  ·rename_i n hn
   simp only [Option.some.injEq] at hc; subst hc
   exact nq rfl (op_sto ht hw ho hn he)
  ·cases hc
 case nilCheck x => simp only [comp, Option.some.injEq] at hc; subst hc; exact qq (op_nilc ht hw ho he)
 case binOp op t x y yt => simp only [comp, Option.some.injEq] at hc; subst hc; exact qq (op_bin hE ht hw ho he)
 case unOp op t x => simp only [comp, Option.some.injEq] at hc; subst hc; exact qq (op_una ht hw ho he)
 case convert s t x =>
  simp only [comp] at hc
  split at hc
  ·rename_i j k h1 h2
   simp only [Option.some.injEq] at hc; subst hc
   exact qq (op_cvt ht hw ho h1 h2 he)
  ·cases hc
 case makeInterface t x =>
  simp only [comp] at hc
  split at hc
  ·cases hc
  ·rename_i d hd hu
   simp only [Option.some.injEq] at hc; subst hc
   exact qq (op_mki ht hw ho hu (fun m e => hd m e) he)
  ·cases hc
 case makeFunc fn x y => simp only [comp, Option.some.injEq] at hc; subst hc; exact qq (op_mkf ht hw ho he)
 case makeMap t r =>
  simp only [comp] at hc
  split at hc
  ·rename_i hb
   simp only [Option.some.injEq] at hc; subst hc
   simp only [Bool.and_eq_true, Option.isNone_iff_eq_none] at hb
   obtain ⟨rfl, _⟩ := hb
   exact nq rfl (op_mkm hw ho he)
  ·cases hc
 case makeSlice t l c =>
  simp only [comp] at hc
  split at hc
  ·rename_i e hu
   split at hc
   ·rename_i z i hz hi
    split at hc
    ·rename_i hb
     simp only [Option.some.injEq] at hc; subst hc
     simp only [Bool.and_eq_true, decide_eq_true_eq] at hb
     exact nq rfl (op_mks hE ht hw ho hu hz hi hb.1 he)
    ·cases hc
   ·cases hc
  ·cases hc
 case slice t x lo hi mx =>
  simp only [comp] at hc
  split at hc
  ·cases hc
  ·rename_i hmx
   have hmx' : mx = none := by cases mx with | none => rfl | some v => simp at hmx
   subst hmx'
   split at hc
   ·rename_i e hu
    split at hc
    ·rename_i s hs
     simp only [Option.some.injEq] at hc; subst hc
     exact qq (op_sls ht hw ho hu hs he)
    ·cases hc
   ·rename_i n e hu
    split at hc
    ·rename_i s hs
     simp only [Option.some.injEq] at hc; subst hc
     exact qq (op_sla ht hw ho hu hs he)
    ·cases hc
   ·cases hc
 case fieldAddr s x f =>
  simp only [comp] at hc
  split at hc
  ·rename_i fs hu
   split at hc
   ·rename_i fd hf
    split at hc
    ·rename_i n hn
     simp only [Option.some.injEq] at hc; subst hc
     exact qq (op_fa ht hw ho hu hf hn he)
    ·cases hc
   ·cases hc
  ·cases hc
 case field t x f =>
  simp only [comp] at hc
  split at hc
  ·rename_i fs hu
   split at hc
   ·rename_i fd hf
    split at hc
    ·rename_i g s hg hs
     simp only [Option.some.injEq] at hc; subst hc
     exact qq (op_fld ht hw ho hu hf hg hs he)
    ·cases hc
   ·cases hc
  ·cases hc
 case indexAddr t x i =>
  simp only [comp] at hc
  split at hc
  ·rename_i n e hu
   split at hc
   ·rename_i s hs
    simp only [Option.some.injEq] at hc; subst hc
    exact qq (op_iaa ht hw ho hu hs he)
   ·cases hc
  ·rename_i e hu
   split at hc
   ·rename_i s hs
    simp only [Option.some.injEq] at hc; subst hc
    exact qq (op_ias ht hw ho hu hs he)
   ·cases hc
  ·cases hc
 case index t x i =>
  simp only [comp] at hc
  split at hc
  ·rename_i n e hu
   split at hc
   ·rename_i g s hg hs
    simp only [Option.some.injEq] at hc; subst hc
    exact qq (op_ixa ht hw ho hu hg hs he)
   ·cases hc
  ·rename_i hu
   simp only [Option.some.injEq] at hc; subst hc
   exact qq (op_ixs ht hw ho hu he)
  ·cases hc
 case lookup t x i ok =>
  simp only [comp] at hc
  split at hc
  ·rename_i kt e hu
   split at hc
   ·rename_i k z hk hz
    simp only [Option.some.injEq] at hc; subst hc
    exact qq (op_lkp hE ht hw ho hu hk hz he)
   ·cases hc
  ·cases hc
 case mapUpdate t m i x =>
  simp only [comp] at hc
  split at hc
  ·rename_i kt e hu
   split at hc
   ·rename_i k hk
    simp only [Option.some.injEq] at hc; subst hc
    exact nq rfl (op_mup ht hw (.inl ho) hu hk he)
   ·cases hc
  ·cases hc
 case insert t m i x =>
  simp only [comp] at hc
  split at hc
  ·rename_i kt e hu
   split at hc
   ·rename_i k hk
    simp only [Option.some.injEq] at hc; subst hc
    exact nq rfl (op_mup ht hw (.inr ho) hu hk he)
   ·cases hc
  ·cases hc
 case typeAssert x xt t ok =>
  simp only [comp] at hc
  split at hc
  ·cases hc
  ·rename_i d h1 hu
   split at hc
   ·rename_i z hz
    simp only [Option.some.injEq] at hc; subst hc
    exact qq (op_tas ht hw ho hu (fun m e => h1 m e) (zero_sound hE hz) he)
   ·cases hc
  ·cases hc
 case extract x i => simp only [comp, Option.some.injEq] at hc; subst hc; exact qq (op_ext ht hw ho he)
 case call c =>
  simp only [comp] at hc
  split at hc
  ·rename_i f hf
   simp only [Option.some.injEq] at hc; subst hc
   exact nq rfl (op_call hE ht ho hf he)
  ·rename_i g hg hf
   simp only [Option.some.injEq] at hc; subst hc
   exact nq rfl (op_clv hE ht ho hf he)
  ·rename_i r name hf
   simp only [Option.some.injEq] at hc; subst hc
   exact nq rfl (op_inv hE ht ho hf he)
  ·rename_i hf
   split at hc
   ·rename_i x t ha hta
    split at hc
    ·rename_i n e hu
     simp only [Option.some.injEq] at hc; subst hc
     exact qq (op_len (k := .arr n) ht hw ho hf ha hta (.inl ⟨_, hu⟩) he)
    ·rename_i e hu
     simp only [Option.some.injEq] at hc; subst hc
     exact qq (op_len (k := .sl) ht hw ho hf ha hta ⟨_, hu⟩ he)
    ·rename_i hu
     simp only [Option.some.injEq] at hc; subst hc
     exact qq (op_len (k := .st) ht hw ho hf ha hta hu he)
    ·rename_i p hu
     split at hc
     ·rename_i n e hp
      simp only [Option.some.injEq] at hc; subst hc
      exact qq (op_len (k := .arr n) ht hw ho hf ha hta (.inr ⟨_, _, hu, hp⟩) he)
     ·cases hc
    ·cases hc
   ·cases hc
  ·rename_i hf
   split at hc
   ·rename_i x y t u ha hta
    split at hc
    ·rename_i e eu hu hu'
     split at hc
     ·rename_i z i hz hi
      split at hc
      ·simp only [Option.some.injEq] at hc; subst hc
       exact nq rfl (op_app hE ht hw ho hf ha hta hu hu' hz hi he)
      ·cases hc
     ·cases hc
    ·cases hc
   ·cases hc
  ·rename_i hf
   split at hc
   ·rename_i x y t u ha hta
    split at hc
    ·rename_i e hu
     split at hc
     ·rename_i s hs
      simp only [Option.some.injEq] at hc; subst hc
      exact nq rfl (op_cpy ht hw ho hf ha hta hu hs he)
     ·cases hc
    ·cases hc
   ·cases hc
  ·rename_i hf
   split at hc
   ·rename_i x y ha
    simp only [Option.some.injEq] at hc; subst hc
    exact qq (op_mnx (g := false) ht hw ho hf ha he)
   ·cases hc
  ·rename_i hf
   split at hc
   ·rename_i x y ha
    simp only [Option.some.injEq] at hc; subst hc
    exact qq (op_mnx (g := true) ht hw ho hf ha he)
   ·cases hc
  ·rename_i hf
   simp only [Option.some.injEq] at hc; subst hc
   exact nq rfl (op_rcv ho hf he)
  ·cases hc
 case defer c =>
  simp only [comp] at hc
  split at hc
  ·rename_i g hg
   simp only [Option.some.injEq] at hc; subst hc
   exact nq rfl (op_dfr ht ho hg he)
  ·cases hc
 case panic x => simp only [comp, Option.some.injEq] at hc; subst hc; exact nq rfl (op_pnc ht ho he)
 all_goals (simp only [comp] at hc; cases hc)
theorem op_sound (hE : EnvOK P E) {ao : AOp} (ht : TR ρ T a.tmps) (hw : WR K ρ H w) (hc : comp P E o.op = some ao) (he : aop E T H ao = some (out, H')) : OutR P E K ρ H w (execOp a.eval o) out H' :=
 (op_all hE ht hw hc he).2
end
end Go.Sim
end
section
namespace Go.Sim
variable [RO]
section congr
variable {T T' : Tmps} {E : EnvD} {H : AHeap}
theorem aev_congr {x : Operand} (h : ∀ t ∈ looksO x, tget T t = tget T' t) : aev T x = aev T' x := by
 cases x with
 | tmp t => simp only [aev]; rw [h t (by simp [looksO])]
 | _ => rfl
theorem aevs_congr : ∀ {l : List Operand}, (∀ t ∈ looksL l, tget T t = tget T' t) → aevs T l = aevs T' l
 | [], _ => rfl
 | x :: l, h => by
  simp only [looksL, List.flatMap_cons, List.mem_append] at h
  simp only [aevs]
  rw [aev_congr (fun t ht => h t (.inl ht)), aevs_congr (l := l) (fun t ht => h t (.inr ht))]
theorem fillA_congr : ∀ {l : List (Nat × Nat × Operand)} {z : Rope AVal}, (∀ t ∈ looksP l, tget T t = tget T' t) → fillA T z l = fillA T' z l
 | [], _, _ => rfl
 | (o, s, x) :: l, z, h => by
  simp only [looksP, List.flatMap_cons, List.mem_append] at h
  simp only [fillA]
  rw [aev_congr (fun t ht => h t (.inl ht))]
  split
  ·split
   ·split
    ·exact fillA_congr (fun t ht => h t (.inr ht))
    ·rfl
   ·rfl
  ·rfl
theorem abound_congr {x : Option Operand} {d : Nat} (h : ∀ t ∈ looksM x, tget T t = tget T' t) : abound T x d = abound T' x d := by
 cases x with
 | none => rfl
 | some x => simp only [abound]; rw [aev_congr h]
theorem aop_congr {ao : AOp} (h : ∀ t ∈ looks ao, tget T t = tget T' t) : aop E T H ao = aop E T' H ao := by
 cases ao <;> simp only [looks, List.mem_append, or_imp, forall_and] at h <;> simp only [aop] <;> first
  | rfl
  | rw [aev_congr h]
  | rw [aevs_congr h]
  | rw [fillA_congr h]
  | rw [aev_congr h.1.1, aev_congr h.1.2, aev_congr h.2]
  | rw [aev_congr h.1, aev_congr h.2]
  | rw [aevs_congr h.1, aevs_congr h.2]
  | rw [aev_congr h.1, aevs_congr h.2]
  | rw [aev_congr h.1.1, abound_congr h.1.2]; (simp only [abound_congr h.2])
  | (simp only [aev_congr h.1.1, abound_congr h.1.2, abound_congr h.2])
end congr
section quiet
variable {T : Tmps} {E : EnvD} {H H' : AHeap} {out : AOut}
theorem quiet_any {ao : AOp} (hq : quietOp ao = true) (h : aop E T H ao = some (out, H')) : H' = H ∧ (∃ v, out = .val v) ∧ ∀ H1, aop E T H1 ao = some (out, H1) := by
 cases ao <;> simp only [quietOp, Bool.false_eq_true] at hq <;> simp only [aop, ret] at h ⊢
 case mnx isMax x y =>
  split at h
  ·rename_i k a k' b hx hy
   split at h
   ·rename_i hk
    simp only [Option.some.injEq, Prod.mk.injEq] at h
    obtain ⟨rfl, rfl⟩ := h
    exact ⟨rfl, ⟨_, rfl⟩, fun H1 => by simp only [hx, hy, hk, if_true]⟩
   ·cases h
  ·cases h
 all_goals
  (repeat' split at h) <;> first
   | (cases h; done)
   | (simp only [Option.some.injEq, Prod.mk.injEq] at h
      obtain ⟨rfl, rfl⟩ := h
      refine ⟨rfl, ⟨_, rfl⟩, fun H1 => ?_⟩
      simp_all)
theorem read_next {ao : AOp} (hq : readOp ao = true) (h : aop E T H ao = some (out, H')) : H' = H ∧ (∃ v, out = .val v) ∧ ∀ m, aop E T ⟨m, H.tree⟩ ao = some (out, ⟨m, H.tree⟩) := by
 have hg : ∀ m i, AHeap.get ⟨m, H.tree⟩ i = H.get i := fun _ _ => rfl
 cases ao <;> simp only [readOp, Bool.false_eq_true] at hq
 case ldc x =>
  simp only [aop, ret] at h ⊢
  split at h
  ·rename_i i o hx
   split at h
   ·rename_i v hv
    simp only [Option.some.injEq, Prod.mk.injEq] at h
    obtain ⟨rfl, rfl⟩ := h
    refine ⟨rfl, ⟨_, rfl⟩, fun m => ?_⟩
    have : hload1 ⟨m, H.tree⟩ i o = some v := hv
    simp only [this]
   ·cases h
  ·cases h
 case ldr n x =>
  simp only [aop, ret] at h ⊢
  split at h
  ·rename_i i o hx
   split at h
   ·rename_i v hv
    simp only [Option.some.injEq, Prod.mk.injEq] at h
    obtain ⟨rfl, rfl⟩ := h
    refine ⟨rfl, ⟨_, rfl⟩, fun m => ?_⟩
    have : hloadN ⟨m, H.tree⟩ i o n = some v := hv
    simp only [this]
   ·cases h
  ·cases h
 case lkp k z ok x i =>
  simp only [aop, ret] at h ⊢
  split at h
  ·rename_i b v hx hi
   split at h
   ·rename_i q hq
    have hf : ∀ m, hfind ⟨m, H.tree⟩ k q b = hfind H k q b := fun _ => rfl
    split at h <;> first
     | (cases h; done)
     | (rename_i hv
        simp only [Option.some.injEq, Prod.mk.injEq] at h
        obtain ⟨rfl, rfl⟩ := h
        refine ⟨rfl, ⟨_, rfl⟩, fun m => ?_⟩
        simp only [hx, hi, hq, hf, hv])
   ·cases h
  ·cases h
 case sls s x lo hi =>
  simp only [aop, ret] at h ⊢
  split at h
  ·rename_i p n c hx
   split at h
   ·rename_i hh h1
    split at h
    ·rename_i l h2
     split at h
     ·rename_i hb
      split at h
      ·simp only [Option.some.injEq, Prod.mk.injEq] at h
       obtain ⟨rfl, rfl⟩ := h
       refine ⟨rfl, ⟨_, rfl⟩, fun m => ?_⟩
       simp only [hx, h1, h2, hb, if_true]
      ·rename_i i o
       by_cases c0 : l = 0
       ·rw [if_pos c0] at h
        simp only [Option.some.injEq, Prod.mk.injEq] at h
        obtain ⟨rfl, rfl⟩ := h
        refine ⟨rfl, ⟨_, rfl⟩, fun m => ?_⟩
        simp only [hx, h1, h2, hb, if_true]
        rw [if_pos c0]
       rw [if_neg c0] at h
       split at h
       ·rename_i r g w hget
        have fin : ∀ (r : Option (AOut × AHeap)), (if l < c then some (AOut.val (.slice (some (i, o + l * s)) (hh - l) (c - l)), H) else if g = 0 then some (AOut.val (.slice (some (i, o)) (hh - l) (c - l)), H) else if l = 0 then some (AOut.val (.slice (some (i, o)) (hh - l) (c - l)), H) else none) = some (out, H') →
          H' = H ∧ (∃ v, out = .val v) ∧ ∀ m, (if l < c then some (AOut.val (.slice (some (i, o + l * s)) (hh - l) (c - l)), (⟨m, H.tree⟩ : AHeap)) else if g = 0 then some (AOut.val (.slice (some (i, o)) (hh - l) (c - l)), ⟨m, H.tree⟩) else if l = 0 then some (AOut.val (.slice (some (i, o)) (hh - l) (c - l)), ⟨m, H.tree⟩) else none) = some (out, ⟨m, H.tree⟩) := by
         intro _ h
         by_cases c1 : l < c
         ·rw [if_pos c1] at h
          simp only [Option.some.injEq, Prod.mk.injEq] at h
          obtain ⟨rfl, rfl⟩ := h
          exact ⟨rfl, ⟨_, rfl⟩, fun m => by rw [if_pos c1]⟩
         ·rw [if_neg c1] at h
          by_cases c2 : g = 0
          ·rw [if_pos c2] at h
           simp only [Option.some.injEq, Prod.mk.injEq] at h
           obtain ⟨rfl, rfl⟩ := h
           exact ⟨rfl, ⟨_, rfl⟩, fun m => by rw [if_neg c1, if_pos c2]⟩
          ·rw [if_neg c2] at h
           by_cases c3 : l = 0
           ·rw [if_pos c3] at h
            simp only [Option.some.injEq, Prod.mk.injEq] at h
            obtain ⟨rfl, rfl⟩ := h
            exact ⟨rfl, ⟨_, rfl⟩, fun m => by rw [if_neg c1, if_neg c2, if_pos c3]⟩
           ·rw [if_neg c3] at h; cases h
        obtain ⟨f1, f2, f3⟩ := fin none h
        refine ⟨f1, f2, fun m => ?_⟩
        have hg' : AHeap.get ⟨m, H.tree⟩ i = some (.cells r g w) := hget
        simp only [hx, h1, h2, hb, if_true]
        rw [if_neg c0]
        simp only [hg']
        exact f3 m
       ·cases h
     ·cases h
    ·cases h
   ·cases h
  ·cases h
 case sla n s x lo hi =>
  simp only [aop, ret] at h ⊢
  split at h
  ·rename_i i o hx
   split at h
   ·rename_i r w hget
    split at h
    ·rename_i hh h1
     split at h
     ·rename_i l h2
      split at h
      ·rename_i hb
       simp only [Option.some.injEq, Prod.mk.injEq] at h
       obtain ⟨rfl, rfl⟩ := h
       refine ⟨rfl, ⟨_, rfl⟩, fun m => ?_⟩
       simp only [hx, hg, hget, h1, h2, hb, if_true]
      ·cases h
     ·cases h
    ·cases h
   ·cases h
  ·cases h
end quiet
theorem scL_sound {ρ ρ' : Ren} {f : AVal → Bool} (hf : ∀ v x, f v = true → VR ρ v x → VR ρ' v x) : ∀ {l : List AVal}, scL f l = true → ∀ (i : Nat) x v, l[i]? = some x → VR ρ x v → VR ρ' x v
 | [], _, i, x, v, hx, _ => by simp at hx
 | a :: l, h, i, x, v, hx, hv => by
  simp only [scL, Bool.and_eq_true] at h
  cases i with
  | zero => simp at hx; subst hx; exact hf _ _ h.1 hv
  | succ i => exact scL_sound hf h.2 i x v (by simpa using hx) hv
theorem scR_sound {ρ ρ' : Ren} {f : AVal → Bool} (hf : ∀ v x, f v = true → VR ρ v x → VR ρ' v x) : ∀ {r : Rope AVal}, scR f r = true → ∀ (i : Nat) x v, r.get i = some x → VR ρ x v → VR ρ' x v
 | .lst l, h, i, x, v, hx, hv => scL_sound hf (l := l) h i x v hx hv
 | .rep n a, h, i, x, v, hx, hv => by
  simp only [Rope.get] at hx
  split at hx
  ·cases hx; exact hf _ _ h hv
  ·cases hx
 | .app m l r, h, i, x, v, hx, hv => by
  simp only [scR, Bool.and_eq_true] at h
  simp only [Rope.get] at hx
  split at hx
  ·exact scR_sound hf h.1 _ x v hx hv
  ·exact scR_sound hf h.2 _ x v hx hv
theorem scV_sound {ρ ρ' : Ren} {m : Nat} (hm : ∀ i l, i < m → ρ i = some l → ρ' i = some l) : ∀ (n : Nat) (v : AVal) (x : Value), scV m n v = true → VR ρ v x → VR ρ' v x
 | 0, v, x, h, _ => by cases h
 | n + 1, v, x, h, hv => by
  have ih := scV_sound hm n
  cases hv with
  | bool b => exact .bool b
  | int k i => exact .int k i
  | str s => exact .str s
  | ptrNil => exact .ptrNil
  | ptr hl => simp only [scV, decide_eq_true_eq] at h; exact .ptr (hm _ _ h hl)
  | sliceNil => exact .sliceNil
  | slice hl => simp only [scV, decide_eq_true_eq] at h; exact .slice (hm _ _ h hl)
  | mapNil => exact .mapNil
  | map hl => simp only [scV, decide_eq_true_eq] at h; exact .map (hm _ _ h hl)
  | func ha hb h1 h2 =>
   simp only [scV, Bool.and_eq_true] at h
   exact .func ha hb (fun i y u e1 e2 => scL_sound ih h.1 i y u e1 (h1 i y u e1 e2)) (fun i y u e1 e2 => scL_sound ih h.2 i y u e1 (h2 i y u e1 e2))
  | nilFunc => exact .nilFunc
  | iface t hx => exact .iface t (ih _ _ h hx)
  | nilIface => exact .nilIface
  | es a => exact .es a
  | vs a n c => exact .vs a n c
  | agg hs hg h1 =>
   exact .agg hs hg fun i y u e1 e2 => scR_sound ih h i y u e1 (h1 i y u e1 e2)
  | tup ha h1 =>
   exact .tup ha fun i y u e1 e2 => scL_sound ih h i y u e1 (h1 i y u e1 e2)
  | part h1 h2 h3 => exact .part h1 h2 h3
  | junk u => exact .junk _
theorem beqL_sound {f : AVal → AVal → Bool} (hf : ∀ a b, f a b = true → a = b) : ∀ {l m : List AVal}, beqL f l m = true → l = m
 | [], [], _ => rfl
 | [], _ :: _, h => by cases h
 | _ :: _, [], h => by cases h
 | a :: l, b :: m, h => by
  simp only [beqL, Bool.and_eq_true] at h
  rw [hf _ _ h.1, beqL_sound hf h.2]
theorem beqR_sound {f : AVal → AVal → Bool} (hf : ∀ a b, f a b = true → a = b) : ∀ {r s : Rope AVal}, beqR f r s = true → r = s := by
 intro r
 induction r with
 | lst l => intro s h; cases s <;> simp only [beqR, Bool.false_eq_true] at h; rw [beqL_sound hf h]
 | rep n a => intro s h; cases s <;> simp only [beqR, Bool.false_eq_true, Bool.and_eq_true, beq_iff_eq] at h; rw [h.1, hf _ _ h.2]
 | app m l r ihl ihr => intro s h; cases s <;> simp only [beqR, Bool.false_eq_true, Bool.and_eq_true, beq_iff_eq] at h; rw [h.1.1, ihl h.1.2, ihr h.2]
theorem beqV_sound : ∀ (n : Nat) (a b : AVal), beqV n a b = true → a = b
 | 0, _, _, h => by cases h
 | n + 1, a, b, h => by
  have ih := beqV_sound n
  cases a <;> cases b <;> simp only [beqV, Bool.false_eq_true, Bool.and_eq_true, beq_iff_eq, decide_eq_true_eq] at h <;> first
   | rfl
   | (rw [h]; done)
   | (rw [h.1, h.2]; done)
   | (rw [h.1.1, h.1.2, h.2]; done)
   | (rw [h.1.1.1.1, h.1.1.1.2, h.1.1.2, h.1.2, h.2]; done)
   | (rw [h.1.1, beqL_sound ih h.1.2, beqL_sound ih h.2]; done)
   | (rw [h.1, ih _ _ h.2]; done)
   | (rw [beqR_sound ih h]; done)
   | (rw [beqL_sound ih h]; done)
end Go.Sim
end
section
namespace Go.Sim
variable [RO]
section
variable {P : Program} {E : EnvD} {K : Nat → Prop} {ρ : Ren} {H H' : AHeap} {w : World} {T : Tmps} {a : Act} {o : Oper}
theorem make_sound (hro : ∀ b, RO.r b → b < w.heap.size ∧ w.heap[b]? = RO.c b) (hE : EnvOK P E) {ao : AOp} {v : AVal} (hq : makeOp ao = true) (ht : TR ρ T a.tmps) (hc : comp P E o.op = some ao) (he : aop E T H ao = some (.val v, H')) :
  ∃ c cs e v', H' = H.new (.cells c 0 true) ∧ (execOp a.eval o).run P w = .ok (.value v') (w.alloc (.cells cs e)) ∧ cs.size = c.size ∧ RR ρ c cs 0 ∧
   (∀ ρ' : Ren, ρ' H.next = some ⟨w.heap.size, 0, 0⟩ → VR ρ' v v') ∧ (∀ H1, ∃ v1, aop E T H1 ao = some (.val v1, H1.new (.cells c 0 true))) := by
 have hw0 : WR RO.r (fun _ => none) ⟨0, .leaf⟩ w := ⟨fun i b h => by simp [AHeap.get, Trie.get_leaf] at h, fun i j bi bj li lj h => by simp [AHeap.get, Trie.get_leaf] at h, fun _ h => h, fun i l h => (by cases h), fun b hb => (hro b hb).1, fun b hb => (hro b hb).2⟩
 cases ho : o.op <;> rw [ho] at hc
 case alloc t =>
  simp only [comp, Option.map_eq_some_iff] at hc
  obtain ⟨z, hz, rfl⟩ := hc
  obtain ⟨i, zv, h1, h2, h3, h4, h5, _⟩ := hE.zro t z hz
  simp only [aop, ret, Option.some.injEq, Prod.mk.injEq, AOut.val.injEq] at he
  obtain ⟨rfl, rfl⟩ := he
  refine ⟨z, zv.cells, t, _, rfl, ?_, h4, h5 ρ, fun ρ' h => .ptr h, fun H1 => ⟨_, rfl⟩⟩
  simp only [execOp, ho, Instr.alloc, Sem.run_bind, run_zero h1 h2, Result.andThen_ok, newVar, newRow, run_newObj, Sem.run_pure]
  rfl
 case box t x =>
  simp only [comp, Option.some.injEq] at hc; subst hc
  simp only [aop] at he
  split at he
  ·rename_i u hu
   split at he
   ·rename_i c hcell
    obtain ⟨hs, hr⟩ := RR.cells (aev_sound ht hu) hcell
    simp only [ret, Option.some.injEq, Prod.mk.injEq, AOut.val.injEq] at he
    obtain ⟨rfl, rfl⟩ := he
    refine ⟨c, (a.eval x).cells, t, _, rfl, ?_, hs, hr, fun ρ' h => .ptr h, fun H1 => ⟨_, by simp only [aop, hu, hcell]; rfl⟩⟩
    simp only [execOp, ho, Instr.box, Sem.run_bind, Result.andThen_ok, newVar, newRow, run_newObj, Sem.run_pure]
    rfl
   ·cases he
  ·cases he
 case buildSlice t n ps =>
  have hcomp := hc
  simp only [comp] at hc
  split at hc
  ·rename_i e hu
   split at hc
   ·rename_i z s hz hs
    split at hc
    ·rename_i hb
     simp only [Option.some.injEq] at hc; subst hc
     simp only [Bool.and_eq_true, decide_eq_true_eq] at hb
     simp only [aop] at he
     split at he
     ·rename_i c hf
      simp only [ret, Option.some.injEq, Prod.mk.injEq, AOut.val.injEq] at he
      obtain ⟨rfl, rfl⟩ := he
      obtain ⟨i, v, g1, g2, g3, g4, g5, _⟩ := hE.zro e z hz
      have h1 : z.size = s := hb.1.1
      have hle : ¬ (n * s > 2 ^ 24) := by have := hb.1.2; omega
      have fin : ∀ zc : Array Value, ((Array.range (n * s)).map (zc[· % zc.size]!)).size = (tile z n).size → RR ρ (tile z n) ((Array.range (n * s)).map (zc[· % zc.size]!)) 0 →
        ((∀ cells, Instr.fill (fun i => some (i * s, s)) ((Array.range (n * s)).map (zc[· % zc.size]!)) (List.map (fun x => (x.fst, a.eval x.snd)) ps.toList) = some cells →
         (execOp a.eval o).run P w = .ok (.value (.slice (some ⟨w.heap.size, 0, none⟩) n n)) (w.alloc (.cells cells e)))) → ∃ cs, cs.size = c.size ∧ RR ρ c cs 0 ∧ (execOp a.eval o).run P w = .ok (.value (.slice (some ⟨w.heap.size, 0, none⟩) n n)) (w.alloc (.cells cs e)) := by
       intro zc k2 k3 hrun
       obtain ⟨cells, f1, f2, f3⟩ := fill_sound (a := a) ht _ _ _ _ c _ (partsA_placed s ps.toList) hf k2 k3
       exact ⟨cells, f2, f3, hrun cells f1⟩
      have key : ∃ cs, cs.size = c.size ∧ RR ρ c cs 0 ∧ (execOp a.eval o).run P w = .ok (.value (.slice (some ⟨w.heap.size, 0, none⟩) n n)) (w.alloc (.cells cs e)) := by
       by_cases hn : n * s = 0
       ·refine fin #[] (by simp [size_tile, h1]) (fun i hi => ?_) fun cells hf => ?_
        ·rw [size_tile, h1, hn] at hi; omega
        ·simp only [execOp, ho, Instr.buildSlice, Sem.run_bind, run_und hu, Result.andThen_ok, run_size hs, if_neg hle, if_pos hn, Sem.run_pure, Array.toList_map, hf, newRow, run_newObj]
         rfl
       ·refine fin v.cells (by simp [size_tile, h1]) (RR.tiles g4 (g5 ρ) n (tile z n) (size_tile z n) (fun i hi => get_tile z n i hi) _ (by rw [h1])) fun cells hf => ?_
        simp only [execOp, ho, Instr.buildSlice, Sem.run_bind, run_und hu, Result.andThen_ok, run_size hs, if_neg hle, if_neg hn, Sem.run_pure, Array.toList_map, run_zero g1 g2, hf, newRow, run_newObj]
        rfl
      obtain ⟨cs, k1, k2, k3⟩ := key
      exact ⟨c, cs, e, _, rfl, k3, k1, k2, fun ρ' h => .slice h, fun H1 => ⟨_, by simp only [aop, hf]; rfl⟩⟩
     ·cases he
    ·cases hc
   ·cases hc
  ·cases hc
 all_goals
  (simp only [comp] at hc
   (repeat' split at hc) <;> first
     | (cases hc; done)
     | (simp only [Option.some.injEq] at hc; subst hc; simp [makeOp] at hq; done)
     | (simp only [Option.map_eq_some_iff] at hc; obtain ⟨_, _, rfl⟩ := hc; simp [makeOp] at hq; done))
theorem quiet_sound (hE : EnvOK P E) {ao : AOp} {v : AVal} {m : Nat} (hq : quietOp ao = true ∨ readOp ao = true) (ht : TR ρ T a.tmps) (hw : WR K ρ ⟨m, H.tree⟩ w) (hc : comp P E o.op = some ao)
  (he : aop E T H ao = some (.val v, H')) : ∃ v', (execOp a.eval o).run P w = .ok (.value v') w ∧ VR ρ v v' := by
 have he' : aop E T ⟨m, H.tree⟩ ao = some (.val v, ⟨m, H.tree⟩) := by
  rcases hq with hq | hq
  ·exact (quiet_any hq he).2.2 _
  ·exact (read_next hq he).2.2 m
 obtain ⟨x, v', h1, h2, h3, _⟩ := (op_all hE ht hw hc he').1 hq
 cases h1
 exact ⟨v', h2, h3⟩
end
end Go.Sim
end
section
namespace Go.Sim
variable [RO]
open Classical
def istep (E : EnvD) (T : Tmps) (H : AHeap) (it : AItem) : Option (AVal × AHeap) :=
 match wantedA T it.guard with
 | some true => match aop E T H it.op with
  | some (.val v, H') => some (v, H')
  | _ => none
 | some false => some (AVal.undef, H)
 | none => none
def glooks (it : AItem) : List Nat := looks it.op ++ (match it.guard with | some (t, _) => [t] | none => [])
def wcls : Cls → Bool
 | .A | .W => true
 | _ => false
def GuardOK (ops : Array Oper) (o : Oper) (it : AItem) : Prop :=
 match o.guard, it.guard with
 | none, none => True
 | some (j, b), some (t, b') => b = b' ∧ (ops[j]?).bind (·.dst) = some t
 | _, _ => False
inductive Hangs (ops : Array Oper) (its : List DItem) : Nat → Nat → Prop where
 | direct {k q : Nat} {d dq : DItem} {o : Oper} {e : Edge} (hk : its[k]? = some d) (ho : ops[d.idx]? = some o) (he : e ∈ o.after) (hb : Region.binds .any e = true) (hq : its[q]? = some dq) (hi : dq.idx = e.on) : Hangs ops its k q
 | step {k m q : Nat} (h : Hangs ops its k m) (h' : Hangs ops its m q) : Hangs ops its k q
structure ItemOK (P : Program) (E : EnvD) (ops : Array Oper) (o : Oper) (it : AItem) : Prop where
 op : comp P E o.op = some it.op ∨ it.op = .bad
 dst : o.dst = it.dst
 guard : GuardOK ops o it
structure DOK (P : Program) (E : EnvD) (ops : Array Oper) (its : List DItem) : Prop where
 len : its.length = ops.size
 item : ∀ (k : Nat) (d : DItem), its[k]? = some d → ∃ o, ops[d.idx]? = some o ∧ ItemOK P E ops o d.it
 inj : ∀ (k : Nat) (k' : Nat) (d : DItem) (d' : DItem), its[k]? = some d → its[k']? = some d' → d.idx = d'.idx → k = k'
 sur : ∀ (i : Nat), i < ops.size → ∃ (k : Nat) (d : DItem), its[k]? = some d ∧ d.idx = i
 edge : ∀ (k : Nat) (d : DItem) (o : Oper) (e : Edge), its[k]? = some d → ops[d.idx]? = some o → e ∈ o.after → Region.binds .any e = true → ∃ (q : Nat) (dq : DItem), q < k ∧ its[q]? = some dq ∧ dq.idx = e.on
 pre : ∀ (k : Nat) (d : DItem) (q : Nat), its[k]? = some d → d.pre.testBit q = true → Hangs ops its k q
 cls : ∀ (k : Nat) (d : DItem), its[k]? = some d → clsOK d.cls d.it.op = true
 s1 : ∀ (k : Nat) (k' : Nat) (d : DItem) (d' : DItem) (t : Nat), k < k' → its[k]? = some d → its[k']? = some d' → ((d.it.dst = some t ∧ (t ∈ glooks d'.it ∨ d'.it.dst = some t)) ∨ (d'.it.dst = some t ∧ t ∈ glooks d.it)) → d'.pre.testBit k = true
 c1 : ∀ (k : Nat) (k' : Nat) (d : DItem) (d' : DItem), k < k' → its[k]? = some d → its[k']? = some d' → wcls d.cls = true → d'.cls = .W → d'.pre.testBit k = true
 cand : ∀ (r : Nat) (d : DItem) (j : Nat), its[r]? = some d → d.cls = .R → j ≤ its.length → (j = its.length ∨ ∃ (dj : DItem), its[j]? = some dj ∧ wcls dj.cls = true) → d.pre.testBit j = false →
  (∀ (x : Nat) (dx : DItem), x < j → its[x]? = some dx → wcls dx.cls = true → dx.pre.testBit r = false) → j ∈ d.cand
def sB (its : List DItem) (listed : Array Bool) (k : Nat) : Bool :=
 match its[k]? with
 | some d => listed.getD d.idx false
 | none => false
def Closed (ops : Array Oper) (listed : Array Bool) : Prop :=
 ∀ (i : Nat) (o : Oper) (e : Edge), listed.getD i false = true → ops[i]? = some o → e ∈ o.after → Region.binds .any e = true → listed.getD e.on false = true
theorem hangs_listed {ops : Array Oper} {its : List DItem} {listed : Array Bool} (hc : Closed ops listed) {k q : Nat} (h : Hangs ops its k q) : sB its listed k = true → sB its listed q = true := by
 induction h with
 | direct hk ho he hb hq hi =>
  intro hs
  simp only [sB, hk] at hs
  simp only [sB, hq, hi]
  exact hc _ _ _ hs ho he hb
 | step _ _ ih1 ih2 => exact fun hs => ih2 (ih1 hs)
theorem hangs_ready {ops : Array Oper} {its : List DItem} {listed : Array Bool} (hc : Closed ops listed) {k q : Nat} (h : Hangs ops its k q) :
  ∀ d, its[k]? = some d → d.idx ∈ Region.ready .any ops listed → sB its listed q = true := by
 induction h with
 | direct hk ho he hb hq hi =>
  intro d hd hr
  rw [hk] at hd; cases hd
  obtain ⟨_, o, ho', hall⟩ := mem_ready.1 hr
  rw [ho] at ho'; cases ho'
  simp only [sB, hq, hi]
  exact hall _ he hb
 | step _ h2 ih1 _ => exact fun d hd hr => hangs_listed hc h2 (ih1 d hd hr)
def lastw (its : List DItem) (vl : Nat → AVal) (T0 : Tmps) (s : Nat → Bool) (t : Nat) : Nat → AVal
 | 0 => tget T0 t
 | k + 1 => match its[k]? with
  | some d => if s k = true ∧ d.it.dst = some t then vl k else lastw its vl T0 s t k
  | none => lastw its vl T0 s t k
theorem lastw_congr {its : List DItem} {vl : Nat → AVal} {T0 : Tmps} {s s' : Nat → Bool} {t : Nat} : ∀ {n : Nat}, (∀ (k : Nat) (d : DItem), k < n → its[k]? = some d → d.it.dst = some t → s k = s' k) → lastw its vl T0 s t n = lastw its vl T0 s' t n
 | 0, _ => rfl
 | n + 1, h => by
  simp only [lastw]
  rw [lastw_congr fun k d hk => h k d (by omega)]
  cases hd : its[n]? with
  | none => rfl
  | some d =>
   simp only
   by_cases e : d.it.dst = some t
   ·rw [h n d (by omega) hd e]
   ·simp [e]
theorem lastw_more {its : List DItem} {vl : Nat → AVal} {T0 : Tmps} {s : Nat → Bool} {t : Nat} {n m : Nat} (hnm : n ≤ m) (h : ∀ (k : Nat) (d : DItem), n ≤ k → its[k]? = some d → d.it.dst = some t → s k = false) : lastw its vl T0 s t m = lastw its vl T0 s t n := by
 induction m with
 | zero => have : n = 0 := by omega
           subst this; rfl
 | succ m ih =>
  by_cases e : n = m + 1
  ·subst e; rfl
  ·simp only [lastw]
   rw [ih (by omega)]
   cases hd : its[m]? with
   | none => rfl
   | some d =>
    simp only
    by_cases e2 : d.it.dst = some t
    ·rw [h m d (by omega) hd e2]; simp
    ·simp [e2]
theorem lastw_add {its : List DItem} {vl : Nat → AVal} {T0 : Tmps} {s s' : Nat → Bool} {k : Nat} {d : DItem} (hd : its[k]? = some d) (hk : s' k = true) (hs : ∀ j, j ≠ k → s' j = s j) (t : Nat)
  (hlast : ∀ (j : Nat) (dj : DItem), k < j → its[j]? = some dj → dj.it.dst = some t → s j = true → d.it.dst ≠ some t) {n : Nat} (hn : k < n) (hsk : s k = false) :
  lastw its vl T0 s' t n = if d.it.dst = some t then vl k else lastw its vl T0 s t n := by
 induction n with
 | zero => omega
 | succ n ih =>
  simp only [lastw]
  by_cases e : n = k
  ·subst e
   rw [hd]
   simp only [hk, true_and, hsk, Bool.false_eq_true, false_and, if_false]
   by_cases e2 : d.it.dst = some t
   ·simp [e2]
   ·simp only [e2, if_false]
    exact lastw_congr fun j dj hj _ _ => hs j (by omega)
  ·rw [ih (by omega), hs n e]
   cases hdn : its[n]? with
   | none => rfl
   | some dn =>
    simp only
    by_cases e3 : s n = true ∧ dn.it.dst = some t
    ·have := hlast n dn (by omega) hdn e3.2 e3.1
     simp [e3, this]
    ·simp [e3]
theorem exists_tmps (f : Nat → AVal) : ∀ n, ∃ T : Tmps, ∀ t, tget T t = if t < n then f t else AVal.undef
 | 0 => ⟨.leaf, fun t => by simp [tget, Trie.get_leaf]⟩
 | n + 1 => by
  obtain ⟨T, h⟩ := exists_tmps f n
  refine ⟨T.set n (some (f n)), fun t => ?_⟩
  unfold tget at h ⊢
  rw [Trie.get_set]
  by_cases e : n = t
  ·subst e; simp
  ·simp only [e, if_false]
   rw [h t]
   by_cases e2 : t < n
   ·simp [e2, show t < n + 1 by omega]
   ·simp [e2, show ¬ t < n + 1 by omega]
def join (ρ σ : Ren) : Ren := fun i => match ρ i with
 | some l => some l
 | none => σ i
theorem le_join (ρ σ : Ren) : ρ.le (join ρ σ) := fun i l h => by simp [join, h]
theorem WR.anti {K K' : Nat → Prop} {ρ : Ren} {H : AHeap} {w : World} (h : WR K ρ H w) (hr : ∀ b, RO.r b → K' b) (hk : ∀ b, K' b → K b) : WR K' ρ H w :=
 ⟨fun i b hb => let ⟨l, o, h1, h2, h3, h4⟩ := h.live i b hb; ⟨l, o, h1, h2, h3, fun hw h' => h4.1 hw (hk _ h'), h4.2⟩, h.inj, hr, h.dom, fun b hb => h.kb b (hk b hb), h.same⟩
structure RunOK (call : CallF) (E : EnvD) (n : Nat) (its : List DItem) (Ts : Nat → Tmps) (Hr : Nat → AHeap) (vl : Nat → AVal) (most : Nat) (live : Nat → Bool) : Prop where
 most_le : most ≤ its.length
 lw : ∀ (k : Nat) (d : DItem), its[k]? = some d → live k = true → ∀ (t : Nat), tget (Ts k) t = lastw its vl (Ts 0) live t k
 dst : ∀ (k : Nat) (d : DItem) (x : Nat), its[k]? = some d → live k = true → d.it.dst = some x → x < n
 p : ∀ (k : Nat) (d : DItem), its[k]? = some d → live k = true → d.cls = .P → istep E (Ts k) (Hr k) d.it = some (vl k, Hr k)
 r : ∀ (k : Nat) (d : DItem) (j : Nat), its[k]? = some d → live k = true → d.cls = .R → j ∈ d.cand → j ≤ most → istep E (Ts k) (Hr j) d.it = some (vl k, Hr j)
 a : ∀ (k : Nat) (d : DItem), its[k]? = some d → live k = true → d.cls = .A → istep E (Ts k) (Hr k) d.it = some (vl k, Hr (k + 1)) ∧ achk d (Hr k) (Hr (k + 1)) = true
 w : ∀ (k : Nat) (d : DItem), its[k]? = some d → live k = true → d.cls = .W → k < most ∧ dstep call E (Ts k) (Hr k) d.it = some (.val (vl k) (Hr (k + 1))) ∧ wchk d (Ts k) (Hr k) = true
 anew : ∀ (k : Nat) (d : DItem), its[k]? = some d → live k = true → d.cls = .A → Hr (k + 1) = Hr k ∨ ∃ c, Hr (k + 1) = (Hr k).new (.cells c 0 true)
 stay : ∀ (k : Nat) (d : DItem), its[k]? = some d → wcls d.cls = false → Hr (k + 1) = Hr k
 mono : ∀ (k : Nat), (Hr k).next ≤ (Hr (k + 1)).next
 small : ∀ (k : Nat), k < most → live k = true
theorem mono_le {Hr : Nat → AHeap} (h : ∀ k, (Hr k).next ≤ (Hr (k + 1)).next) {i j : Nat} (hij : i ≤ j) : (Hr i).next ≤ (Hr j).next := by
 induction j with
 | zero => have : i = 0 := by omega
           subst this; exact Nat.le_refl _
 | succ j ih =>
  by_cases e : i = j + 1
  ·subst e; exact Nat.le_refl _
  ·exact Nat.le_trans (ih (by omega)) (h j)
end Go.Sim
end
section
namespace Go.Sim
variable [RO]
open Classical
def CallPost (K : Nat → Prop) (ρ : Ren) (w : World) (r : CRes) (e : Ending) (w' : World) : Prop :=
 match r with
 | .ret x H' => ∃ ρ' v, e = .returned v ∧ VR ρ' x v ∧ Post K ρ w ρ' H' w'
 | .pan x H' => ∃ ρ' v, e = .panicked [{ v, recovered := false }] ∧ VR ρ' x v ∧ Post K ρ w ρ' H' w'
def CallOK (P : Program) (E : EnvD) (call : CallF) : Prop :=
 ∀ f l H r, call f l H = some r → E.isF f = true → ∀ (K : Nat → Prop) (ρ : Ren) (w : World) (l' : Array Value), LR ρ l l' → WR K ρ H w → Calls P f l' w (CallPost K ρ w r)
def held (K : Nat → Prop) (σ : Ren) (b : Nat) : Prop := K b ∨ ∃ i l, σ i = some l ∧ l.blk = b
structure DI (ops : Array Oper) (n : Nat) (its : List DItem) (Ts : Nat → Tmps) (Hr : Nat → AHeap) (vl : Nat → AVal) (most : Nat) (live : Nat → Bool)
  (K : Nat → Prop) (ρ0 : Ren) (w0 : World) (a0 : Act) (listed : Array Bool) (a : Act) (w : World) (j : Nat) (ρ σ : Ren) : Prop where
 sz : a.tmps.size = n
 df : a.defers = a0.defers
 lsz : listed.size = ops.size
 closed : Closed ops listed
 lv : ∀ k, sB its listed k = true → live k = true
 jm : j ≤ most
 below : ∀ (k : Nat) (d : DItem), k < j → its[k]? = some d → wcls d.cls = true → sB its listed k = true
 above : ∀ (k : Nat) (d : DItem), j ≤ k → its[k]? = some d → d.cls = .W → sB its listed k = false
 wr : WR (held K σ) ρ (Hr j) w
 le : ρ0.le ρ
 sg : ∀ i l, σ i = some l → ∃ (k : Nat) (d : DItem) (c : Rope AVal) (cs : Array Value) (e : TypeId), j ≤ k ∧ its[k]? = some d ∧ d.cls = .A ∧ sB its listed k = true ∧ i = (Hr k).next ∧ Hr (k + 1) = (Hr k).new (.cells c 0 true) ∧
  w.heap[l.blk]? = some (.cells cs e (0, 0)) ∧ cs.size = c.size ∧ RR (join ρ σ) c cs 0 ∧ scR (scV (Hr k).next depth) c = true ∧ l.off = 0 ∧ l.sp = 0 ∧ ¬ K l.blk
 sginj : ∀ i i' l l', σ i = some l → σ i' = some l' → l.blk = l'.blk → i = i'
 sgall : ∀ (k : Nat) (d : DItem), j ≤ k → its[k]? = some d → d.cls = .A → sB its listed k = true → Hr (k + 1) = Hr k ∨ ∃ l, σ (Hr k).next = some l
 tm : ∀ t, VR (join ρ σ) (lastw its vl (Ts 0) (sB its listed) t its.length) (a.tmps.getD t Go.undef)
 un : ∀ t, (∀ (k : Nat) (d : DItem), its[k]? = some d → d.it.dst ≠ some t) → a.tmps.getD t Go.undef = a0.tmps.getD t Go.undef
 keep : ∀ b, K b → w.heap[b]? = w0.heap[b]?
 grow : Grew w0 w
 ro : ∀ b, RO.r b → K b
section
variable {ops : Array Oper} {n : Nat} {its : List DItem} {Ts : Nat → Tmps} {Hr : Nat → AHeap} {vl : Nat → AVal} {most : Nat} {live : Nat → Bool}
 {K : Nat → Prop} {ρ0 : Ren} {w0 : World} {a0 : Act} {listed : Array Bool} {a : Act} {w : World} {j : Nat} {ρ σ : Ren} {call : CallF} {E : EnvD} {P : Program}
theorem DI.fresh (h : DI ops n its Ts Hr vl most live K ρ0 w0 a0 listed a w j ρ σ) {i : Nat} (hi : (Hr j).next ≤ i) : ρ i = none := by
 cases e : ρ i with
 | none => rfl
 | some l => have := h.wr.dom i l e; omega
theorem DI.sgge (hm : ∀ k, (Hr k).next ≤ (Hr (k + 1)).next) (h : DI ops n its Ts Hr vl most live K ρ0 w0 a0 listed a w j ρ σ) {i : Nat} {l : Loc} (hs : σ i = some l) : (Hr j).next ≤ i := by
 obtain ⟨k, d, c, cs, e, h1, _, _, _, rfl, _⟩ := h.sg i l hs
 exact mono_le hm h1
theorem DI.absorb (hr : RunOK call E n its Ts Hr vl most live) (h : DI ops n its Ts Hr vl most live K ρ0 w0 a0 listed a w j ρ σ) {d : DItem} (hd : its[j]? = some d) (hA : d.cls = .A) (hs : sB its listed j = true) (hj : j < most) :
  ∃ ρ' σ', DI ops n its Ts Hr vl most live K ρ0 w0 a0 listed a w (j + 1) ρ' σ' := by
 have hm := hr.mono
 have hbelow : ∀ (k : Nat) (d : DItem), k < j + 1 → its[k]? = some d → wcls d.cls = true → sB its listed k = true := by
  intro k dk hk hdk hw
  by_cases e : k = j
  ·subst e; exact hs
  ·exact h.below k dk (by omega) hdk hw
 have habove : ∀ (k : Nat) (d : DItem), j + 1 ≤ k → its[k]? = some d → d.cls = .W → sB its listed k = false := fun k dk hk => h.above k dk (by omega)
 by_cases hsame : Hr (j + 1) = Hr j
 ·refine ⟨ρ, σ, h.sz, h.df, h.lsz, h.closed, h.lv, hj, hbelow, habove, by rw [hsame]; exact h.wr, h.le, ?_, h.sginj, ?_, h.tm, h.un, h.keep, h.grow, h.ro⟩
  ·intro i l hi
   obtain ⟨k, dk, c, cs, e, h1, h2, h3, h4, h5, h6, h7⟩ := h.sg i l hi
   refine ⟨k, dk, c, cs, e, ?_, h2, h3, h4, h5, h6, h7⟩
   by_cases e : k = j
   ·subst e
    rw [hsame] at h6
    have := congrArg AHeap.next h6
    simp only [AHeap.new] at this
    omega
   ·omega
  ·exact fun k dk hk => h.sgall k dk (by omega)
 ·obtain ⟨l, hl⟩ := (h.sgall j d (Nat.le_refl _) hd hA hs).resolve_left hsame
  obtain ⟨k, dk, c, cs, e, h1, h2, h3, h4, h5, h6, h7, h8, h9, h10, h11, h12, h13⟩ := h.sg _ l hl
  obtain ⟨c', hc'⟩ := (hr.anew j d hd (h.lv j hs) hA).resolve_left hsame
  have hnew : (Hr (j + 1)).next = (Hr j).next + 1 := by rw [hc']; rfl
  have hkj : k = j := by
   rcases Nat.lt_or_ge j k with h' | h'
   ·have := mono_le hm (show j + 1 ≤ k from h')
    omega
   ·omega
  subst hkj
  rw [hd] at h2; cases h2
  have hcc : c' = c := by
   have := hc'.symm.trans h6
   have := congrArg (fun H : AHeap => H.get (Hr k).next) this
   simp only [AHeap.get_new, if_true, Option.some.injEq, ABlk.cells.injEq] at this
   exact this.1
  have hloc : l = ⟨l.blk, 0, 0⟩ := by cases l; simp at h11 h12; simp [h11, h12]
  let ρ' : Ren := fun i => if i = (Hr k).next then some l else ρ i
  let σ' : Ren := fun i => if i = (Hr k).next then none else σ i
  have hfresh : ρ (Hr k).next = none := h.fresh (Nat.le_refl _)
  have hle : ρ.le ρ' := by
   intro i li e
   have := h.wr.dom i li e
   show (if i = (Hr k).next then some l else ρ i) = some li
   rw [if_neg (by omega)]; exact e
  have hjoin : join ρ' σ' = join ρ σ := by
   funext i
   unfold join
   show (match (if i = (Hr k).next then some l else ρ i) with | some l => some l | none => (if i = (Hr k).next then none else σ i)) = _
   by_cases e : i = (Hr k).next
   ·subst e; rw [if_pos rfl, hfresh]; exact hl.symm
   ·simp only [if_neg e]; try (cases ρ i <;> rfl)
  have hσ : ∀ i li, σ' i = some li → σ i = some li ∧ i ≠ (Hr k).next := by
   intro i li e
   have e' : (if i = (Hr k).next then none else σ i) = some li := e
   split at e'
   ·cases e'
   ·rename_i hne; exact ⟨e', hne⟩
  have hheld : ∀ b, held K σ' b → held K σ b := by
   intro b hb
   rcases hb with hb | ⟨i, li, h1, h2⟩
   ·exact .inl hb
   ·exact .inr ⟨i, li, (hσ i li h1).1, h2⟩
  have hnh : ¬ held K σ' l.blk := by
   rintro (hb | ⟨i, li, h1, h2⟩)
   ·exact h13 hb
   ·exact (hσ i li h1).2 (h.sginj i _ li l (hσ i li h1).1 hl h2)
  have hin : held K σ l.blk := .inr ⟨_, l, hl, rfl⟩
  -- the new block's cells speak of old blocks alone
  have hrr : RR ρ' c cs 0 := by
   intro i hi
   obtain ⟨x, v, x1, x2, x3, x4⟩ := h9 i hi
   refine ⟨x, v, x1, x2, x3, ?_⟩
   refine scR_sound (f := scV (Hr k).next depth) (fun v' x' hv hx => scV_sound (ρ := join ρ σ) (m := (Hr k).next) ?_ depth v' x' hv hx) h10 i x v x1 x4
   intro q lq hq e
   have : join ρ' σ' q = some lq := by rw [hjoin]; exact e
   unfold join at this
   split at this
   ·rename_i lq' e'; cases this; exact e'
   ·have := (hσ q lq this).1
    have := h.sgge hm this
    omega
  have hwr : WR (held K σ') ρ' (Hr (k + 1)) w := by
   have hw0 := h.wr
   refine ⟨?_, ?_, fun b hb => .inl (h.ro b hb), ?_, fun b hb => hw0.kb b (hheld b hb), hw0.same⟩
   ·intro i b hb
    rw [h6, AHeap.get_new] at hb
    split at hb
    ·rename_i e; subst e; cases hb
     refine ⟨l, _, if_pos rfl, h7, ?_, fun _ => hnh, fun hf => Bool.noConfusion hf⟩
     refine .cells (fun _ => rfl) ?_ (fun _ => h12) (by rw [h11]; exact hrr)
     rw [h11, h12]; omega
    ·obtain ⟨li, o, y1, y2, y3, y4⟩ := hw0.live i b hb
     exact ⟨li, o, hle _ _ y1, y2, y3.mono hle, fun hw hb' => y4.1 hw (hheld _ hb'), y4.2⟩
   ·have key : ∀ i b li, (Hr k).get i = some b → b.wr = true → ρ' i = some li → ρ i = some li ∧ li.blk ≠ l.blk := by
     intro i b li hb hbw e
     obtain ⟨li', o, y1, y2, y3, y4⟩ := hw0.live i b hb
     have := hle _ _ y1
     rw [e] at this; cases this
     exact ⟨y1, fun e' => y4.1 hbw (e' ▸ hin)⟩
    intro i i' bi bj li lj hi hj hwi hwj hli hlj e
    rw [h6, AHeap.get_new] at hi hj
    have hlk : ρ' (Hr k).next = some l := if_pos rfl
    split at hi <;> split at hj
    ·omega
    ·rename_i e1 _; subst e1
     rw [hlk] at hli; cases hli
     exact absurd e.symm (key _ _ _ hj hwj hlj).2
    ·rename_i _ e1; subst e1
     rw [hlk] at hlj; cases hlj
     exact absurd e (key _ _ _ hi hwi hli).2
    ·exact hw0.inj i i' bi bj li lj hi hj hwi hwj (key _ _ _ hi hwi hli).1 (key _ _ _ hj hwj hlj).1 e
   ·intro i li e
    show i < (Hr (k + 1)).next
    by_cases hi : i = (Hr k).next
    ·omega
    ·have e' : (if i = (Hr k).next then some l else ρ i) = some li := e
     rw [if_neg hi] at e'
     have := hw0.dom i li e'; omega
  refine ⟨ρ', σ', h.sz, h.df, h.lsz, h.closed, h.lv, hj, hbelow, habove, hwr, fun i li e => hle _ _ (h.le _ _ e), ?_, ?_, ?_, by rw [hjoin]; exact h.tm, h.un, h.keep, h.grow, h.ro⟩
  ·intro i li e
   obtain ⟨e1, e2⟩ := hσ i li e
   obtain ⟨k', dk, c2, cs2, t2, z1, z2, z3, z4, z5, z6, z7, z8, z9, z10⟩ := h.sg i li e1
   refine ⟨k', dk, c2, cs2, t2, ?_, z2, z3, z4, z5, z6, z7, z8, by rw [hjoin]; exact z9, z10⟩
   by_cases e : k' = k
   ·subst e; exact absurd z5 e2
   ·omega
  ·intro i i' li li' e1 e2 e3
   exact h.sginj i i' li li' (hσ _ _ e1).1 (hσ _ _ e2).1 e3
  ·intro k' dk hk hdk hA' hs'
   rcases h.sgall k' dk (by omega) hdk hA' hs' with h' | ⟨lk, h'⟩
   ·exact .inl h'
   ·refine .inr ⟨lk, ?_⟩
    show (if (Hr k').next = (Hr k).next then none else σ (Hr k').next) = some lk
    have := mono_le hm hk
    rw [if_neg (by omega)]; exact h'
theorem DI.settle (hr : RunOK call E n its Ts Hr vl most live) : ∀ (m j : Nat) (ρ σ : Ren), most - j = m → DI ops n its Ts Hr vl most live K ρ0 w0 a0 listed a w j ρ σ →
  ∃ j' ρ' σ', DI ops n its Ts Hr vl most live K ρ0 w0 a0 listed a w j' ρ' σ' ∧ (j' = most ∨ (j' < most ∧ ∃ d, its[j']? = some d ∧ wcls d.cls = true ∧ sB its listed j' = false))
 | 0, j, ρ, σ, hm, h => ⟨j, ρ, σ, h, .inl (by have := h.jm; omega)⟩
 | m + 1, j, ρ, σ, hm, h => by
  have hj : j < most := by omega
  have hlt : j < its.length := Nat.lt_of_lt_of_le hj hr.most_le
  have hd : its[j]? = some its[j] := List.getElem?_eq_getElem hlt
  generalize its[j] = d at hd
  cases hc : wcls d.cls with
  | false =>
   have hsame := hr.stay j d hd hc
   refine DI.settle hr m (j + 1) ρ σ (by omega) ⟨h.sz, h.df, h.lsz, h.closed, h.lv, hj, ?_, fun k dk hk => h.above k dk (by omega), by rw [hsame]; exact h.wr, h.le, ?_, h.sginj, fun k dk hk => h.sgall k dk (by omega), h.tm, h.un, h.keep, h.grow, h.ro⟩
   ·intro k dk hk hdk hw
    by_cases e : k = j
    ·subst e; rw [hd] at hdk; cases hdk; rw [hc] at hw; cases hw
    ·exact h.below k dk (by omega) hdk hw
   ·intro i l hi
    obtain ⟨k, dk, c, cs, e, h1, h2, h3, h4⟩ := h.sg i l hi
    refine ⟨k, dk, c, cs, e, ?_, h2, h3, h4⟩
    by_cases e : k = j
    ·subst e; rw [hd] at h2; cases h2; rw [h3] at hc; cases hc
    ·omega
  | true =>
   cases hs : sB its listed j with
   | false => exact ⟨j, ρ, σ, h, .inr ⟨hj, d, hd, hc, hs⟩⟩
   | true =>
    have hA : d.cls = .A := by
     cases e : d.cls with
     | A => rfl
     | W => have := h.above j d (Nat.le_refl _) hd e; rw [hs] at this; cases this
     | P => rw [e] at hc; cases hc
     | R => rw [e] at hc; cases hc
    obtain ⟨ρ', σ', h'⟩ := h.absorb hr hd hA hs hj
    exact DI.settle hr m (j + 1) ρ' σ' (by omega) h'
end
end Go.Sim
end
section
namespace Go.Sim
variable [RO]
open Classical
section
variable {ops : Array Oper} {n : Nat} {its : List DItem} {Ts : Nat → Tmps} {Hr : Nat → AHeap} {vl : Nat → AVal} {most : Nat} {live : Nat → Bool}
 {K : Nat → Prop} {ρ0 : Ren} {w0 : World} {a0 : Act} {listed : Array Bool} {a : Act} {w : World} {j : Nat} {ρ σ : Ren} {call : CallF} {E : EnvD} {P : Program}
theorem put_tmps (a : Act) (dst : Option Tmp) (v : Value) : (a.put dst v).tmps = match dst with | some d => a.tmps.setIfInBounds d v | none => a.tmps := by
 cases dst <;> rfl
theorem put_defers' (a : Act) (dst : Option Tmp) (v : Value) : (a.put dst v).defers = a.defers := by cases dst <;> rfl
theorem sB_set (hd : DOK P E ops its) (hl : listed.size = ops.size) {k : Nat} {d : DItem} (hk : its[k]? = some d) : ∀ i, sB its (listed.setIfInBounds d.idx true) i = if i = k then true else sB its listed i := by
 intro i
 unfold sB
 have hlt : d.idx < listed.size := by
  obtain ⟨o, ho, _⟩ := hd.item k d hk
  rw [hl]; exact (Array.getElem?_eq_some_iff.1 ho).1
 by_cases e : i = k
 ·subst e
  rw [hk, if_pos rfl]
  simp [hlt]
 ·rw [if_neg e]
  cases hi : its[i]? with
  | none => rfl
  | some di =>
   have : d.idx ≠ di.idx := fun e' => e (hd.inj i k di d hi hk e'.symm)
   exact getD_set_ne false this
theorem closed_set {listed : Array Bool} (hc : Closed ops listed) {i : Nat} (hr : i ∈ Region.ready .any ops listed) : Closed ops (listed.setIfInBounds i true) := by
 intro q o e hq ho he hb
 obtain ⟨_, o', ho', hall⟩ := mem_ready.1 hr
 by_cases e1 : i = q
 ·subst e1
  rw [ho] at ho'; cases ho'
  exact getD_set_true (hall e he hb)
 ·rw [getD_set_ne false e1] at hq
  exact getD_set_true (hc q o e hq ho he hb)
theorem DI.table (h : DI ops n its Ts Hr vl most live K ρ0 w0 a0 listed a w j ρ σ) (M : Nat) :
  ∃ T : Tmps, TR (join ρ σ) T a.tmps ∧ ∀ t, t < M → tget T t = lastw its vl (Ts 0) (sB its listed) t its.length := by
 obtain ⟨T, hT⟩ := exists_tmps (fun t => lastw its vl (Ts 0) (sB its listed) t its.length) (max n M)
 refine ⟨T, fun t => ?_, fun t ht => by rw [hT, if_pos (by omega)]⟩
 rw [hT]
 split
 ·exact h.tm t
 ·have : a.tmps.getD t Go.undef = Go.undef := by
   have := h.sz
   simp [Array.getD_eq_getD_getElem?, Array.getElem?_eq_none (show a.tmps.size ≤ t by omega)]
  rw [this]; exact VR.undef _
theorem DI.agree (hd : DOK P E ops its) (hr : RunOK call E n its Ts Hr vl most live) (h : DI ops n its Ts Hr vl most live K ρ0 w0 a0 listed a w j ρ σ) {k : Nat} {d : DItem} (hk : its[k]? = some d) (hlive : live k = true)
  (hready : d.idx ∈ Region.ready .any ops listed) (hun : sB its listed k = false) : ∀ t ∈ glooks d.it, lastw its vl (Ts 0) (sB its listed) t its.length = tget (Ts k) t := by
 intro t ht
 have hkl : k < its.length := (List.getElem?_eq_some_iff.1 hk).1
 rw [hr.lw k d hk hlive t]
 rw [lastw_more (n := k) (Nat.le_of_lt hkl)]
 ·refine lastw_congr fun k' d' hk' hd' hdst => ?_
  have hp := hd.s1 k' k d' d t hk' hd' hk (.inl ⟨hdst, .inl ht⟩)
  have := hangs_ready h.closed (hd.pre k d k' hk hp) d hk hready
  rw [this, h.lv k' this]
 ·intro k' d' hk' hd' hdst
  by_cases e : k' = k
  ·subst e; exact hun
  ·cases hs : sB its listed k' with
   | false => rfl
   | true =>
    have hp := hd.s1 k k' d d' t (by omega) hk hd' (.inr ⟨hdst, ht⟩)
    have := hangs_listed h.closed (hd.pre k' d' k hd' hp) hs
    rw [hun] at this; cases this
theorem wanted_sound {ρ : Ren} {T : Tmps} {o : Oper} {it : AItem} {b : Bool} (ht : TR ρ T a.tmps) (hg : GuardOK ops o it) (hw : wantedA T it.guard = some b) : Region.wanted o (yielded ops a.tmps) = b := by
 unfold GuardOK at hg
 unfold Region.wanted
 unfold wantedA at hw
 split at hg
 ·rename_i h1 h2
  rw [h1]
  rw [h2] at hw
  simpa using hw
 ·rename_i i b0 t b' h1 h2
  obtain ⟨rfl, hg⟩ := hg
  rw [h1]
  rw [h2] at hw
  simp only [yielded, hg, Option.bind_some] at hw ⊢
  have hv := ht t
  rw [Array.getD_eq_getD_getElem?] at hv
  cases hx : a.tmps[t]? with
  | none =>
   rw [hx] at hv
   simp only [Option.getD_none] at hv
   generalize tget T t = x at hv hw
   cases x <;> first
    | (simp only [Option.some.injEq] at hw; subst hw; rfl)
    | (cases hw; done)
    | (exfalso; cases hv; done)
  | some u =>
   rw [hx] at hv
   simp only [Option.getD_some] at hv
   generalize tget T t = x at hv hw
   cases x with
   | bool c => cases hv; simp only [Option.some.injEq] at hw; subst hw; simp
   | junk => cases hw
   | _ => simp only [Option.some.injEq] at hw; subst hw; cases hv <;> rfl
 ·exact hg.elim
theorem DI.put (hd : DOK P E ops its) (h : DI ops n its Ts Hr vl most live K ρ0 w0 a0 listed a w j ρ σ) {k : Nat} {d : DItem} (hk : its[k]? = some d)
  (hun : sB its listed k = false) {J : Ren} (hle : (join ρ σ).le J) {v : Value} (hv : VR J (vl k) v) (hdst : ∀ x, d.it.dst = some x → x < n) :
  (∀ t, VR J (lastw its vl (Ts 0) (sB its (listed.setIfInBounds d.idx true)) t its.length) ((a.put d.it.dst v).tmps.getD t Go.undef)) ∧ (a.put d.it.dst v).tmps.size = n ∧ (a.put d.it.dst v).defers = a0.defers ∧
  (∀ t, (∀ (k : Nat) (d : DItem), its[k]? = some d → d.it.dst ≠ some t) → (a.put d.it.dst v).tmps.getD t Go.undef = a0.tmps.getD t Go.undef) := by
 have hkl : k < its.length := (List.getElem?_eq_some_iff.1 hk).1
 have hset := sB_set hd h.lsz hk
 refine ⟨fun t => ?_, ?_, by rw [put_defers']; exact h.df, fun t ht => ?_⟩
 ·rw [lastw_add (s := sB its listed) (k := k) hk (by rw [hset, if_pos rfl]) (fun i hi => by rw [hset, if_neg hi]) t ?_ hkl hun]
  ·rw [put_tmps]
   by_cases e : d.it.dst = some t
   ·rw [if_pos e, e]
    have := hdst t e
    have hsz := h.sz
    have htl : t < a.tmps.size := by omega
    simp only [Array.getD_eq_getD_getElem?]
    rw [Array.getElem?_setIfInBounds_self_of_lt htl]
    exact hv
   ·rw [if_neg e]
    have hold := (h.tm t).mono hle
    cases hx : d.it.dst with
    | none => exact hold
    | some x =>
     have hne : x ≠ t := fun e' => e (by rw [hx, e'])
     simp only [Array.getD_eq_getD_getElem?] at hold ⊢
     rw [Array.getElem?_setIfInBounds_ne hne]
     exact hold
  ·intro k' d' hkk hd' hdst' hs e
   have hp := hd.s1 k k' d d' t hkk hk hd' (.inl ⟨e, .inr hdst'⟩)
   have := hangs_listed h.closed (hd.pre k' d' k hd' hp) hs
   rw [hun] at this; cases this
 ·rw [put_tmps]
  have := h.sz
  cases d.it.dst <;> simpa using this
 ·rw [put_tmps]
  have hold := h.un t ht
  cases hx : d.it.dst with
  | none => exact hold
  | some x =>
   have hne : x ≠ t := fun e => ht k d hk (by rw [hx, e])
   simp only [Array.getD_eq_getD_getElem?] at hold ⊢
   rw [Array.getElem?_setIfInBounds_ne hne]
   exact hold
theorem DI.lv' (hd : DOK P E ops its) (h : DI ops n its Ts Hr vl most live K ρ0 w0 a0 listed a w j ρ σ) {k : Nat} {d : DItem} (hk : its[k]? = some d) (hlive : live k = true) :
  ∀ i, sB its (listed.setIfInBounds d.idx true) i = true → live i = true := by
 intro i hi
 rw [sB_set hd h.lsz hk] at hi
 split at hi
 ·rename_i e; subst e; exact hlive
 ·exact h.lv i hi
theorem DI.quiet (hd : DOK P E ops its) (hr : RunOK call E n its Ts Hr vl most live) (h : DI ops n its Ts Hr vl most live K ρ0 w0 a0 listed a w j ρ σ) {k : Nat} {d : DItem} (hk : its[k]? = some d) (hlive : live k = true)
  (hready : d.idx ∈ Region.ready .any ops listed) (hun : sB its listed k = false) (hc : wcls d.cls = false) {v : Value} (hv : VR (join ρ σ) (vl k) v) :
  DI ops n its Ts Hr vl most live K ρ0 w0 a0 (listed.setIfInBounds d.idx true) (a.put d.it.dst v) w j ρ σ := by
 obtain ⟨p1, p2, p3, p4⟩ := h.put hd hk hun (Ren.le_refl _) hv fun x hx => hr.dst k d x hk hlive hx
 have hset := sB_set hd h.lsz hk
 refine ⟨p2, p3, by simpa using h.lsz, closed_set h.closed hready, h.lv' hd hk hlive, h.jm, ?_, ?_, h.wr, h.le, ?_, h.sginj, ?_, p1, p4, h.keep, h.grow, h.ro⟩
 ·intro i di hi hdi hw
  rw [hset]; split
  ·rfl
  ·exact h.below i di hi hdi hw
 ·intro i di hi hdi hw
  rw [hset]; split
  ·rename_i e; subst e; rw [hk] at hdi; cases hdi; rw [hw] at hc; cases hc
  ·exact h.above i di hi hdi hw
 ·intro i l hi
  obtain ⟨k', dk, c, cs, e, h1, h2, h3, h4, h5⟩ := h.sg i l hi
  refine ⟨k', dk, c, cs, e, h1, h2, h3, ?_, h5⟩
  rw [hset]; split
  ·rfl
  ·exact h4
 ·intro k' dk h1 h2 h3 h4
  rw [hset] at h4
  split at h4
  ·rename_i e; subst e; rw [hk] at h2; cases h2; rw [h3] at hc; cases hc
  ·exact h.sgall k' dk h1 h2 h3 h4
end
end Go.Sim
end
