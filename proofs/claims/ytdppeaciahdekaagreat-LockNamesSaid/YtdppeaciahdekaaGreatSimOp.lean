/- Each operation of the evaluator does what the model's operation does. -/
import Derived.Test.YtdppeaciahdekaaGreatSimOpDef
import Derived.Calls
namespace Go.Sim

def TR (ρ : Ren) (T : Tmps) (tmps : Array Value) : Prop := ∀ t, VR ρ (tget T t) (tmps.getD t Go.undef)

theorem TR.mono {ρ ρ' : Ren} (hl : ρ.le ρ') {T : Tmps} {tmps : Array Value} (h : TR ρ T tmps) : TR ρ' T tmps := fun t => (h t).mono hl

theorem TR.set {ρ : Ren} {T : Tmps} {tmps : Array Value} (h : TR ρ T tmps) {d : Nat} {x : AVal} {v : Value} (hd : d < tmps.size) (hv : VR ρ x v) :
    TR ρ (T.set d (some x)) (tmps.setIfInBounds d v) := by
  intro t
  unfold tget
  rw [Trie.get_set]
  by_cases e : d = t
  · subst e; simp [Array.getD_eq_getD_getElem?, hd]; exact hv
  · have := h t
    simp only [e, if_false, Array.getD_eq_getD_getElem?, Array.getElem?_setIfInBounds_ne e]
    simpa [tget, Array.getD_eq_getD_getElem?] using this

def LR (ρ : Ren) (l : List AVal) (l' : Array Value) : Prop := l'.size = l.length ∧ ∀ (i : Nat) x v, l[i]? = some x → l'[i]? = some v → VR ρ x v

theorem LR.mono {ρ ρ' : Ren} (hl : ρ.le ρ') {l : List AVal} {l' : Array Value} (h : LR ρ l l') : LR ρ' l l' := ⟨h.1, fun i x v h1 h2 => (h.2 i x v h1 h2).mono hl⟩

theorem LR.nil (ρ : Ren) : LR ρ [] #[] := ⟨rfl, by intro i x v h; simp at h⟩

theorem LR.append {ρ : Ren} {a b : List AVal} {a' b' : Array Value} (h : LR ρ a a') (h' : LR ρ b b') : LR ρ (a ++ b) (a' ++ b') := by
  refine ⟨by simp [h.1, h'.1], fun i x v h1 h2 => ?_⟩
  rw [List.getElem?_append] at h1
  rw [Array.getElem?_append] at h2
  rw [h.1] at h2
  split at h1
  · rename_i hi; rw [if_pos hi] at h2; exact h.2 i x v h1 h2
  · rename_i hi; rw [if_neg hi] at h2; exact h'.2 _ x v h1 h2

theorem LR.cons {ρ : Ren} {x : AVal} {v : Value} {b : List AVal} {b' : Array Value} (h : VR ρ x v) (h' : LR ρ b b') : LR ρ (x :: b) (#[v] ++ b') := by
  have : LR ρ [x] #[v] := ⟨rfl, fun i y u h1 h2 => by
    cases i with
    | zero => simp at h1 h2; subst h1 h2; exact h
    | succ i => simp at h1⟩
  exact this.append h'

section
variable {ρ : Ren} {T : Tmps} {a : Act}

theorem cval_sound {v : Value} {x : AVal} (h : cval v = some x) : VR ρ x v := by
  unfold cval at h
  split at h <;> first
    | (simp only [Option.some.injEq] at h; subst h; first | exact .bool _ | exact .int _ _ | exact .str _ | exact .ptrNil | exact .sliceNil | exact .mapNil | exact .nilFunc | exact .nilIface)
    | skip
  · split at h
    · rename_i fn p q hs
      simp only [Option.some.injEq] at h; subst h
      simp only [Bool.and_eq_true, decide_eq_true_eq] at hs
      exact .func hs.1 hs.2 (by intro i x v h; simp at h) (by intro i x v h; simp at h)
    · cases h
  · cases h

theorem aev_sound (ht : TR ρ T a.tmps) {x : Operand} {v : AVal} (h : aev T x = some v) : VR ρ v (a.eval x) := by
  cases x with
  | tmp t => simp only [aev, Option.some.injEq] at h; subst h; exact ht t
  | const c => exact cval_sound h
  | global g => cases h
  | func f =>
    simp only [aev, Option.some.injEq] at h; subst h
    exact .func rfl rfl (by intro i x v h; simp at h) (by intro i x v h; simp at h)

theorem aevs_sound (ht : TR ρ T a.tmps) : ∀ {l : List Operand} {vs : List AVal}, aevs T l = some vs → LR ρ vs (l.toArray.map a.eval)
  | [], vs, h => by simp only [aevs, Option.some.injEq] at h; subst h; simpa using LR.nil ρ
  | x :: l, vs, h => by
    simp only [aevs] at h
    split at h
    · rename_i v hv
      split at h
      · rename_i vs' hvs
        simp only [Option.some.injEq] at h; subst h
        have := (aevs_sound ht hvs).cons (aev_sound ht hv)
        simpa using this
      · cases h
    · cases h

theorem aevs_sound' (ht : TR ρ T a.tmps) {l : Array Operand} {vs : List AVal} (h : aevs T l.toList = some vs) : LR ρ vs (l.map a.eval) := by
  simpa using aevs_sound ht h
end

theorem VR.ptr_inv {ρ : Ren} {i o : Nat} {v : Value} (h : VR ρ (.ptr (some (i, o))) v) : ∃ l, ρ i = some l ∧ v = .pointer (some ⟨l.blk, l.off + o, none⟩) := by
  cases h with | ptr h => exact ⟨_, h, rfl⟩
theorem VR.int_inv {ρ : Ren} {k : IntKind} {n : Int} {v : Value} (h : VR ρ (.int k n) v) : v = .int k n := by cases h; rfl
theorem VR.bool_inv {ρ : Ren} {b : Bool} {v : Value} (h : VR ρ (.bool b) v) : v = .bool b := by cases h; rfl
theorem VR.agg_inv {ρ : Ren} {r : Rope AVal} {v : Value} (h : VR ρ (.agg r) v) : ∃ cs, v = .agg cs ∧ cs.size = r.size ∧ RR ρ r cs 0 := by
  cases h with | agg hs hg h => exact ⟨_, rfl, hs, RR.of_agg (.agg hs hg h)⟩
theorem VR.slice_inv {ρ : Ren} {i o n c : Nat} {v : Value} (h : VR ρ (.slice (some (i, o)) n c) v) : ∃ l, ρ i = some l ∧ v = .slice (some ⟨l.blk, l.off + o, none⟩) n (c + l.sp) := by
  cases h with | slice h => exact ⟨_, h, rfl⟩
theorem VR.sliceN_inv {ρ : Ren} {n c : Nat} {v : Value} (h : VR ρ (.slice none n c) v) : n = 0 ∧ c = 0 ∧ v = .slice none 0 0 := by
  cases h; exact ⟨rfl, rfl, rfl⟩
theorem VR.iface_inv {ρ : Ren} {t : TypeId} {x : AVal} {v : Value} (h : VR ρ (.iface t x) v) : ∃ u, v = .iface t u ∧ VR ρ x u := by
  cases h with | iface _ h => exact ⟨_, rfl, h⟩
theorem VR.tup_inv {ρ : Ren} {l : List AVal} {v : Value} (h : VR ρ (.tup l) v) : ∃ l', v = .tuple l' ∧ LR ρ l l' := by
  cases h with | tup ha h => exact ⟨_, rfl, ha, h⟩
theorem VR.func_inv {ρ : Ren} {fn : Fn} {x y : List AVal} {v : Value} (h : VR ρ (.func fn x y) v) : ∃ x' y', v = .func fn x' y' ∧ LR ρ x x' ∧ LR ρ y y' := by
  cases h with | func ha hb h1 h2 => exact ⟨_, _, rfl, ⟨ha, h1⟩, ⟨hb, h2⟩⟩
theorem VR.mapS_inv {ρ : Ren} {i : Nat} {v : Value} (h : VR ρ (.mapv (some i)) v) : ∃ l, ρ i = some l ∧ v = .map (some l.blk) := by
  cases h with | map h => exact ⟨_, h, rfl⟩
theorem VR.mapN_inv {ρ : Ren} {v : Value} (h : VR ρ (.mapv none) v) : v = .map none := by cases h; rfl
theorem VR.tup2 {ρ : Ren} {x y : AVal} {u v : Value} (h : VR ρ x u) (h' : VR ρ y v) : VR ρ (.tup [x, y]) (.tuple #[u, v]) := by
  have := ((LR.nil ρ).cons h').cons h
  exact .tup this.1 this.2

/-- What the row of two numbers, truth values or texts comes to. -/
def vsame : Value → Value → Option Bool
  | .int k a, .int k' b => if k = k' then some (a == b) else none
  | _, _ => none
def vrow (a b : Array Value) : Nat → Option Bool
  | 0 => some true
  | n + 1 => match vrow a b n with
    | some r => match a[n]?, b[n]? with
      | some x, some y => match vsame x y with
        | some s => some (r && s)
        | none => none
      | _, _ => none
    | none => none

structure EnvOK (P : Program) (E : EnvD) : Prop where
  zro : ∀ t z, E.zro t = some z → ∃ i v, P.info? t = some i ∧ i.zero = some v ∧ i.size = z.size ∧ v.cells.size = z.size ∧ (∀ ρ, RR ρ z v.cells 0) ∧
    (∀ x, isAggT P t = some false → z = .lst [x] → ∀ ρ, VR ρ x v) ∧ (isAggT P t = some true → ∃ cs, v = .agg cs)
  meth : ∀ t n f, E.meth t n = some f → E.isF f = true ∧ ∀ v w, (method (P.types.size + Made.depth) t v n).run P w = .ok (f, v) w
  eqt : ∀ t n, E.eqt t = some n → P.eqGuardType P.depth t = false ∧ ∀ xs ys b, xs.size = n → ys.size = n → vrow xs ys n = some b → ∀ w, (Op.equal t (.agg xs) (.agg ys)).run P w = .ok b w
  isF : ∀ f, E.isF f = true → ∃ fn, P.funcs[f]? = some fn ∧ fn.name ≠ "runtime.NumGoroutine" ∧ fn.body.isSome = true

/-- What an operation leaves in the model, by what it comes to in the evaluator. -/
def OutR (P : Program) (E : EnvD) (K : Nat → Prop) (ρ : Ren) (H : AHeap) (w : World) (s : Sem Next) (out : AOut) (H' : AHeap) : Prop :=
  match out with
  | .val x => ∃ ρ' v w', (s.run P w = .ok (.value v) w' ∨ (s.run P w = .ok .skip w' ∧ v = Go.undef)) ∧ VR ρ' x v ∧ Post K ρ w ρ' H' w'
  | .enter f l => ∃ l', s.run P w = .ok (.enter f l') w ∧ LR ρ l l' ∧ H' = H ∧ E.isF f = true
  | .panic x => ∃ v, s.run P w = .halt (.panic v) w ∧ VR ρ x v ∧ H' = H
  | .defer f l => ∃ cap da, s.run P w = .ok (.defer ⟨.fn (.func f) cap, da⟩) w ∧ LR ρ l (da ++ cap) ∧ H' = H ∧ E.isF f = true
  | .recov => s.run P w = .ok .recover w ∧ H' = H

section
variable {P : Program} {E : EnvD} {K : Nat → Prop} {ρ : Ren} {H H' : AHeap} {w : World} {s : Sem Next} {out : AOut}

/-- It leaves memory alone. -/
def OutS (P : Program) (ρ : Ren) (H : AHeap) (w : World) (s : Sem Next) (out : AOut) (H' : AHeap) : Prop :=
  ∃ x v, out = .val x ∧ s.run P w = .ok (.value v) w ∧ VR ρ x v ∧ H' = H

theorem OutS.loud (hw : WR K ρ H w) (h : OutS P ρ H w s out H') : OutR P E K ρ H w s out H' := by
  obtain ⟨x, v, rfl, hr, hv, rfl⟩ := h
  exact ⟨ρ, v, w, .inl hr, hv, Post.refl hw⟩

theorem OutR.same {x : AVal} {v : Value} (_hw : WR K ρ H w) (hr : s.run P w = .ok (.value v) w) (hv : VR ρ x v) (he : ret x H = some (out, H')) : OutS P ρ H w s out H' := by
  simp only [ret, Option.some.injEq, Prod.mk.injEq] at he
  obtain ⟨rfl, rfl⟩ := he
  exact ⟨x, v, rfl, hr, hv, rfl⟩

theorem OutR.post {x : AVal} {v : Value} {H1 : AHeap} {ρ' : Ren} {w' : World} (hr : s.run P w = .ok (.value v) w') (hv : VR ρ' x v) (hp : Post K ρ w ρ' H1 w') (he : ret x H1 = some (out, H')) :
    OutR P E K ρ H w s out H' := by
  simp only [ret, Option.some.injEq, Prod.mk.injEq] at he
  obtain ⟨rfl, rfl⟩ := he
  exact ⟨ρ', v, w', .inl hr, hv, hp⟩

theorem OutR.skip {H1 : AHeap} {w' : World} (hr : s.run P w = .ok .skip w') (hp : Post K ρ w ρ H1 w') (he : ret AVal.undef H1 = some (out, H')) :
    OutR P E K ρ H w s out H' := by
  simp only [ret, Option.some.injEq, Prod.mk.injEq] at he
  obtain ⟨rfl, rfl⟩ := he
  exact ⟨ρ, _, w', .inr ⟨hr, rfl⟩, VR.undef ρ, hp⟩
end

theorem run_und {P : Program} {t : TypeId} {d : TypeDesc} (h : P.underlying t = some d) (w : World) : (underlying t).run P w = .ok d w := run_underlying h w
theorem run_size {P : Program} {t : TypeId} {n : Nat} (h : csize P t = some n) (w : World) : (sizeOf t).run P w = .ok n w := by
  unfold csize at h
  cases hi : P.info? t with
  | none => simp [hi] at h
  | some i => simp [hi] at h; subst h; simp [sizeOf, typeInfo, hi]
theorem run_info {P : Program} {t : TypeId} {i : TypeInfo} (h : P.info? t = some i) (w : World) : (typeInfo t).run P w = .ok i w := by
  simp [typeInfo, h]
theorem run_zero {P : Program} {t : TypeId} {i : TypeInfo} {v : Value} (h : P.info? t = some i) (hz : i.zero = some v) (w : World) : (zeroValue t).run P w = .ok v w := by
  simp [zeroValue, typeInfo, h, hz]
theorem run_agg {P : Program} {t : TypeId} {b : Bool} (h : isAggT P t = some b) (w : World) : (isAgg t).run P w = .ok b w := by
  unfold isAggT at h
  split at h
  · rename_i hu; cases h; simp [isAgg, run_und hu]
  · rename_i hu; cases h; simp [isAgg, run_und hu]
  · rename_i d h1 h2 hu
    cases h
    simp only [isAgg, Sem.run_bind, run_und hu, Result.andThen_ok]
    cases d <;> first | rfl | exact absurd rfl (h1 _) | exact absurd rfl (h2 _ _)
  · cases h

/-- The cells of a row are read. -/
theorem WR.cell {K : Nat → Prop} {ρ : Ren} {H : AHeap} {w : World} (h : WR K ρ H w) {i o : Nat} {x : AVal} (hx : hload1 H i o = some x) {l : Loc} (hl : ρ i = some l) :
    ∃ v, w.cell? ⟨l.blk, l.off + o, none⟩ = some v ∧ VR ρ x v := by
  unfold hload1 at hx
  split at hx
  · rename_i r g wr hb
    obtain ⟨c, t, h1, h2, h3, h4, h5⟩ := h.row hb hl
    obtain ⟨a, v, ha, _, hc, hv⟩ := h4 o (Rope.get_lt hx)
    rw [hx] at ha; cases ha
    exact ⟨v, by rw [cell_of_row w _ _ c t (0, 0) h1]; exact hc, hv⟩
  · cases hx

theorem WR.loadN {K : Nat → Prop} {ρ : Ren} {H : AHeap} {w : World} (h : WR K ρ H w) {i o n : Nat} {c : Rope AVal} (hx : hloadN H i o n = some c) {l : Loc} (hl : ρ i = some l) (P : Program) :
    ∃ cs, (loadCells ⟨l.blk, l.off + o, none⟩ n).run P w = .ok cs w ∧ cs.size = n ∧ c.size = n ∧ RR ρ c cs 0 := by
  unfold hloadN at hx
  split at hx
  · rename_i r g wr hb
    split at hx
    · rename_i hn
      simp only [Option.some.injEq] at hx; subst hx
      obtain ⟨c, t, h1, h2, h3, h4, h5⟩ := h.row hb hl
      obtain ⟨e1, e2⟩ := h4.ext o n hn
      have hcell : ∀ j, j < n → w.cell? ((⟨l.blk, l.off + o, none⟩ : Addr).add j) = some (c.getD (l.off + o + j) Go.undef) := by
        intro j hj
        have hadd : (⟨l.blk, l.off + o, none⟩ : Addr).add j = ⟨l.blk, l.off + o + j, none⟩ := by unfold Addr.add; split <;> simp_all
        have : l.off + o + j < c.size := by omega
        rw [hadd, cell_of_row w _ _ c t (0, 0) h1]
        simp [Array.getD_eq_getD_getElem?, this]
      have hr := run_loadCells (P := P) w ⟨l.blk, l.off + o, none⟩ n (fun j => c.getD (l.off + o + j) Go.undef) hcell
      refine ⟨_, hr, by simp, e1, fun j hj => ?_⟩
      rw [e1] at hj
      obtain ⟨x, v, x1, x2, x3, x4⟩ := e2 j (by omega)
      refine ⟨x, v, x1, x2, ?_, x4⟩
      have : l.off + o + j < c.size := by omega
      simp [hj, Array.getD_eq_getD_getElem?] at x3 ⊢
      rw [x3]; rfl
    · cases hx
  · cases hx

end Go.Sim
