/- What the evaluator is given of a program, checked; and a closed run's result. -/
import Derived.Test.YtdppeaciahdekaaGreatSimCall
import Derived.Test.YtdppeaciahdekaaGreatSimTab
import Derived.Laws.StructEq
import Derived.RowKit3
set_option linter.unusedSimpArgs false
namespace Go.Sim

/-- Is the value the abstract one? -/
def cellIs (a : AVal) (v : Value) : Bool := a.one && (match cval v with | some a' => eqV a' a | none => false)
theorem cellIs_sound {a : AVal} {v : Value} (h : cellIs a v = true) : a.one = true ∧ ∀ ρ, VR ρ a v := by
  simp only [cellIs, Bool.and_eq_true] at h
  refine ⟨h.1, fun ρ => ?_⟩
  have h2 := h.2
  split at h2
  · rename_i a' ha
    rw [← eqV_sound _ _ h2]
    exact cval_sound ha
  · cases h2

def lstIs : List AVal → List Value → Option (List Value)
  | [], vs => some vs
  | a :: l, v :: vs => bif cellIs a v then lstIs l vs else none
  | _, _ => none
def repIs (a : AVal) : Nat → List Value → Option (List Value)
  | 0, vs => some vs
  | n + 1, v :: vs => bif cellIs a v then repIs a n vs else none
  | _, _ => none
/-- The row's cells, taken off the front. -/
def rowIs : Rope AVal → List Value → Option (List Value)
  | .lst l, vs => lstIs l vs
  | .rep n a, vs => repIs a n vs
  | .app n a b, vs => bif Nat.beq n a.size then (match rowIs a vs with
    | some rest => rowIs b rest
    | none => none) else none

def Taken (get : Nat → Option AVal) (n : Nat) (vs rest : List Value) : Prop :=
  ∃ pre, vs = pre ++ rest ∧ pre.length = n ∧ ∀ i, i < n → ∃ a v, get i = some a ∧ a.one = true ∧ pre[i]? = some v ∧ ∀ ρ, VR ρ a v

theorem lstIs_sound : ∀ {l : List AVal} {vs rest : List Value}, lstIs l vs = some rest → Taken (fun i => l[i]?) l.length vs rest
  | [], vs, rest, h => by
    simp only [lstIs, Option.some.injEq] at h
    subst h
    exact ⟨[], rfl, rfl, by intro i hi; simp at hi⟩
  | a :: l, v :: vs, rest, h => by
    simp only [lstIs] at h
    cases e : cellIs a v with
    | false => rw [e] at h; cases h
    | true =>
      rw [e] at h
      obtain ⟨pre, e1, e2, e3⟩ := lstIs_sound h
      refine ⟨v :: pre, by simp [e1], by simp [e2], fun i hi => ?_⟩
      cases i with
      | zero => exact ⟨a, v, rfl, (cellIs_sound e).1, rfl, (cellIs_sound e).2⟩
      | succ i =>
        obtain ⟨a', v', h1, h2, h3, h4⟩ := e3 i (by simpa using hi)
        exact ⟨a', v', by simpa using h1, h2, by simpa using h3, h4⟩
  | _ :: _, [], _, h => by simp [lstIs] at h

theorem repIs_sound {a : AVal} : ∀ {n : Nat} {vs rest : List Value}, repIs a n vs = some rest → Taken (fun i => if i < n then some a else none) n vs rest
  | 0, vs, rest, h => by
    simp only [repIs, Option.some.injEq] at h
    subst h
    exact ⟨[], rfl, rfl, by intro i hi; omega⟩
  | n + 1, v :: vs, rest, h => by
    simp only [repIs] at h
    cases e : cellIs a v with
    | false => rw [e] at h; cases h
    | true =>
      rw [e] at h
      obtain ⟨pre, e1, e2, e3⟩ := repIs_sound h
      refine ⟨v :: pre, by simp [e1], by simp [e2], fun i hi => ?_⟩
      cases i with
      | zero => exact ⟨a, v, by simp, (cellIs_sound e).1, rfl, (cellIs_sound e).2⟩
      | succ i =>
        obtain ⟨a', v', h1, h2, h3, h4⟩ := e3 i (by omega)
        have h1 : (if i < n then some a else none) = some a' := h1
        rw [if_pos (by omega)] at h1
        exact ⟨a', v', (if_pos hi).trans h1, h2, by simpa using h3, h4⟩
  | _ + 1, [], _, h => by simp [repIs] at h

theorem rowIs_sound : ∀ {r : Rope AVal} {vs rest : List Value}, rowIs r vs = some rest → Taken r.get r.size vs rest
  | .lst l, vs, rest, h => lstIs_sound h
  | .rep n a, vs, rest, h => repIs_sound h
  | .app n a b, vs, rest, h => by
    simp only [rowIs] at h
    cases e : Nat.beq n a.size with
    | false => rw [e] at h; cases h
    | true =>
      rw [e] at h
      have hn := Nat.eq_of_beq_eq_true e
      simp only [cond_true] at h
      split at h
      · rename_i mid hm
        obtain ⟨p1, a1, a2, a3⟩ := rowIs_sound hm
        obtain ⟨p2, b1, b2, b3⟩ := rowIs_sound h
        refine ⟨p1 ++ p2, by rw [a1, b1, List.append_assoc], by simp [a2, b2, Rope.size, hn], fun i hi => ?_⟩
        simp only [Rope.get]
        by_cases h' : i < n
        · obtain ⟨x, v, h1, h2, h3, h4⟩ := a3 i (by omega)
          exact ⟨x, v, by rw [if_pos h']; exact h1, h2, by rw [List.getElem?_append_left (by omega)]; exact h3, h4⟩
        · simp only [Rope.size] at hi
          obtain ⟨x, v, h1, h2, h3, h4⟩ := b3 (i - n) (by omega)
          exact ⟨x, v, by rw [if_neg h']; exact h1, h2, by rw [List.getElem?_append_right (by omega), a2, ← hn]; exact h3, h4⟩
      · cases h

def isAggV : Value → Bool
  | .agg _ => true
  | _ => false

def zroChk (P : Program) (t : Nat) (z : Rope AVal) : Bool :=
  match P.info? t with
  | some i => match i.zero with
    | some v => Nat.beq i.size z.size && (match rowIs z v.cells.toList with | some [] => true | _ => false) &&
      (match isAggT P t with
        | some true => isAggV v
        | some false => !isAggV v
        | none => false)
    | none => false
  | none => false

theorem zroChk_sound {P : Program} {t : TypeId} {z : Rope AVal} (h : zroChk P t z = true) : ∃ i v, P.info? t = some i ∧ i.zero = some v ∧ i.size = z.size ∧ v.cells.size = z.size ∧ (∀ ρ, RR ρ z v.cells 0) ∧
    (∀ x, isAggT P t = some false → z = .lst [x] → ∀ ρ, VR ρ x v) ∧ (isAggT P t = some true → ∃ cs, v = .agg cs) := by
  unfold zroChk at h
  split at h
  · rename_i i hi
    split at h
    · rename_i v hv
      simp only [Bool.and_eq_true] at h
      obtain ⟨⟨h1, h2⟩, h3⟩ := h
      have h1 := Nat.eq_of_beq_eq_true h1
      split at h2
      · rename_i hrow
        obtain ⟨pre, e1, e2, e3⟩ := rowIs_sound hrow
        rw [List.append_nil] at e1
        have hs : v.cells.size = z.size := by rw [← Array.length_toList, e1, e2]
        have hrr : ∀ ρ, RR ρ z v.cells 0 := by
          intro ρ i hi
          obtain ⟨a, u, g1, g2, g3, g4⟩ := e3 i hi
          refine ⟨a, u, g1, g2, ?_, g4 ρ⟩
          rw [Nat.zero_add, ← Array.getElem?_toList, e1]; exact g3
        refine ⟨i, v, hi, hv, h1, hs, hrr, ?_, ?_⟩
        · intro x ha hz ρ
          subst hz
          rw [ha] at h3
          have hna : ∀ cs, v ≠ .agg cs := by
            rintro cs rfl
            simp [isAggV] at h3
          have hc : v.cells = #[v] := by
            cases v <;> first | rfl | exact absurd rfl (hna _)
          obtain ⟨a, u, g1, g2, g3, g4⟩ := hrr ρ 0 (by simp [Rope.size])
          simp only [Rope.get, List.getElem?_cons_zero, Option.some.injEq] at g1
          subst g1
          rw [hc] at g3
          simp at g3; subst g3
          exact g4
        · intro ha
          rw [ha] at h3
          simp only at h3
          unfold isAggV at h3
          split at h3
          · exact ⟨_, rfl⟩
          · cases h3
      · cases h2
    · cases h
  · cases h

def methChk (P : Program) (isF : FuncId → Bool) (r : MRow) : Bool :=
  isF r.f && (match P.info? r.t with
    | some i => match i.methods.find? (·.name == r.n) with
      | some m => Nat.beq m.path.size 0 && (match m.func with
        | some (f, b) => Nat.beq f r.f && (match P.underlying r.t, b with
          | some (.pointer _), b => b
          | some _, b => !b
          | none, _ => false)
        | none => false)
      | none => false
    | none => false)

theorem method_run {P : Program} {t : TypeId} {n : String} {f : FuncId} {isF : FuncId → Bool} (h : methChk P isF ⟨t, n, f⟩ = true) (k : Nat) (v : Value) (w : World) : (method (k + 1) t v n).run P w = .ok (f, v) w := by
  simp only [methChk, Bool.and_eq_true] at h
  obtain ⟨_, h⟩ := h
  split at h
  · rename_i i hi
    split at h
    · rename_i m hm
      simp only [Bool.and_eq_true] at h
      obtain ⟨h1, h2⟩ := h
      have hp : m.path = #[] := Array.eq_empty_of_size_eq_zero (Nat.eq_of_beq_eq_true h1)
      split at h2
      · rename_i f' b hf
        simp only [Bool.and_eq_true] at h2
        obtain ⟨h2, h3⟩ := h2
        have h2 := Nat.eq_of_beq_eq_true h2
        subst h2
        simp only [method, Sem.run_bind, run_info hi, Result.andThen_ok, hm, hp, follow, Sem.run_pure, hf]
        split at h3
        · rename_i e hu
          subst h3
          simp [receiverAt, run_und hu, Place.get]
        · rename_i d b hne hu
          simp only [Bool.not_eq_true'] at h3
          subst h3
          simp only [receiverAt, Sem.run_bind, run_und hu, Result.andThen_ok]
          cases d <;> first
            | (exact absurd rfl (hne _))
            | rfl
        · cases h3
      · cases h2
    · cases h
  · cases h

theorem methF_sound {P : Program} {isF : FuncId → Bool} : ∀ {l : List MRow}, (l.all (methChk P isF)) = true → ∀ t n f, methF t n l = some f → isF f = true ∧ ∀ v w, (method (P.types.size + Made.depth) t v n).run P w = .ok (f, v) w
  | [], _, t, n, f, h => by simp [methF] at h
  | r :: l, hl, t, n, f, h => by
    simp only [List.all_cons, Bool.and_eq_true] at hl
    simp only [methF] at h
    cases e : (Nat.beq t r.t && decide (n = r.n)) with
    | true =>
      rw [e] at h
      simp only [cond_true, Option.some.injEq] at h
      subst h
      simp only [Bool.and_eq_true, decide_eq_true_eq] at e
      have e1 := Nat.eq_of_beq_eq_true e.1
      have e2 := e.2
      obtain ⟨rt, rn, rf⟩ := r
      simp only at e1 e2
      subst e1 e2
      refine ⟨by have := hl.1; simp only [methChk, Bool.and_eq_true] at this; exact this.1, fun v w => ?_⟩
      have : P.types.size + Made.depth = (P.types.size + Made.depth - 1) + 1 := by
        have : 0 < Made.depth := by decide
        omega
      rw [this]
      exact method_run hl.1 _ v w
    | false =>
      rw [e] at h
      exact methF_sound hl.2 t n f h

/-- A structure whose fields are numbers alone, cell by cell. -/
def flatChk (P : Program) : Nat → List Field → Bool
  | _, [] => true
  | k, f :: fs => !(decide (f.name = "_")) && Nat.beq f.offset k && (match P.underlying f.type with
    | some (.int _) => true
    | _ => false) && flatChk P (k + 1) fs
def eqtChk (P : Program) (t : Nat) (n : Nat) : Bool :=
  (match P.underlying t with
    | some (.struct fs) => Nat.beq fs.size n && flatChk P 0 fs.toList
    | _ => false) && !(P.eqGuardType P.depth t) && !(P.stoodInHeld t)

theorem vrow_le {xs ys : Array Value} : ∀ {n m : Nat} {b : Bool}, m ≤ n → vrow xs ys n = some b → ∃ c, vrow xs ys m = some c ∧ (c = false → b = false)
  | 0, m, b, hm, h => by have : m = 0 := by omega
                         subst this; exact ⟨b, h, fun e => e⟩
  | n + 1, m, b, hm, h => by
    by_cases e : m = n + 1
    · subst e; exact ⟨b, h, fun e => e⟩
    · simp only [vrow] at h
      split at h
      · rename_i r hr
        obtain ⟨c, c1, c2⟩ := vrow_le (m := m) (by omega) hr
        refine ⟨c, c1, fun e => ?_⟩
        have := c2 e
        subst this
        split at h
        · split at h
          · simp only [Bool.false_and, Option.some.injEq] at h; exact h.symm
          · cases h
        · cases h
      · cases h

theorem eqFields_flat {P : Program} {d : Nat} {xs ys : Array Value} {w : World} : ∀ (fs : List Field) (k : Nat) (b : Bool), flatChk P k fs = true → vrow xs ys k = some true → vrow xs ys (k + fs.length) = some b → (Op.eqFields (d + 1) xs ys fs).run P w = .ok b w
  | [], k, b, _, h1, h2 => by
    simp only [List.length_nil, Nat.add_zero] at h2
    rw [h1] at h2; cases h2
    simp [Op.eqFields]
  | f :: fs, k, b, hc, h1, h2 => by
    simp only [flatChk, Bool.and_eq_true, Bool.not_eq_true', decide_eq_false_iff_not] at hc
    obtain ⟨⟨⟨c1, c2⟩, c3⟩, c4⟩ := hc
    have c2 := Nat.eq_of_beq_eq_true c2
    split at c3
    · rename_i ik hu
      obtain ⟨c, e1, e2⟩ := vrow_le (m := k + 1) (by simp) h2
      have e1' := e1
      simp only [vrow, h1] at e1'
      split at e1'
      · rename_i x y hx hy
        split at e1'
        · rename_i s hs
          simp only [Bool.true_and, Option.some.injEq] at e1'
          subst e1'
          have hag : isAggT P f.type = some false := by simp [isAggT, hu]
          have p1 : (part f.type xs f.offset).run P w = .ok x w := by
            simp [part, run_agg hag, c2, hx]
          have p2 : (part f.type ys f.offset).run P w = .ok y w := by
            simp [part, run_agg hag, c2, hy]
          have p3 : (Op.equalIn (d + 1) f.type x y).run P w = .ok s w := by
            unfold vsame at hs
            split at hs
            · rename_i k1 a1 k2 a2
              split at hs
              · rename_i hk
                simp only [Option.some.injEq] at hs
                subst hs hk
                simp [Op.equalIn, run_und hu]
              · cases hs
            · cases hs
          simp only [Op.eqFields, ne_eq, c1, not_false_eq_true, if_true, Sem.run_bind, p1, p2, p3, Result.andThen_ok]
          cases s with
          | true =>
            simp only [Bool.not_true, Bool.false_eq_true, if_false]
            refine eqFields_flat fs (k + 1) b c4 e1 ?_
            rw [show k + 1 + fs.length = k + (f :: fs).length by simp; omega]; exact h2
          | false =>
            simp [e2 rfl]
        · cases e1'
      · cases e1'
    · cases c3

theorem eqtChk_sound {P : Program} {t : TypeId} {n : Nat} (h : eqtChk P t n = true) : P.eqGuardType P.depth t = false ∧ ∀ xs ys b, xs.size = n → ys.size = n → vrow xs ys n = some b → ∀ w, (Op.equal t (.agg xs) (.agg ys)).run P w = .ok b w := by
  simp only [eqtChk, Bool.and_eq_true, Bool.not_eq_true'] at h
  obtain ⟨⟨h1, h2⟩, h3⟩ := h
  refine ⟨h2, fun xs ys b _ _ hv w => ?_⟩
  split at h1
  · rename_i fs hu
    simp only [Bool.and_eq_true] at h1
    have hn := Nat.eq_of_beq_eq_true h1.1
    have hf : P.fieldsOf t = fs := by simp [Program.fieldsOf, hu]
    have : (Op.equalIn (9999 + 1) t (.agg xs) (.agg ys)).run P w = _ := run_equalIn_struct w 9999 t xs ys (by rw [hf]; exact hu) h3
    unfold Op.equal
    show (Op.equalIn (9999 + 1) t (.agg xs) (.agg ys)).run P w = _
    rw [this, hf]
    refine eqFields_flat (d := 9998) fs.toList 0 b h1.2 rfl ?_
    rw [Nat.zero_add, Array.length_toList, hn]; exact hv
  · cases h1

theorem envOK_of {P : Program} {E0 : EnvD} {Z : TT (Rope AVal)} {M : List MRow} {Q : TT Nat} {C : TT AFunc} {X : List Nat} (hZ : TT.allB (zroChk P) Z = true) (hM : M.all (methChk P fun f => (C.find f).isSome || X.any (fun x => Nat.beq x f)) = true) (hQ : TT.allB (eqtChk P) Q = true)
    (hC : TT.All (fun f af => ∃ fn c, FuncOK P E0 f fn c af) C) (hX : ∀ f ∈ X, ∃ fn, P.funcs[f]? = some fn ∧ fn.name ≠ "runtime.NumGoroutine" ∧ fn.body.isSome = true) : EnvOK P (envOf Z M Q C X) := by
  refine ⟨fun t z h => zroChk_sound (TT.find_allB hZ h), fun t n f h => methF_sound hM t n f h, fun t n h => eqtChk_sound (TT.find_allB hQ h), fun f h => ?_⟩
  simp only [envOf, Bool.or_eq_true] at h
  rcases h with h | h
  · obtain ⟨af, haf⟩ := Option.isSome_iff_exists.1 h
    obtain ⟨fn, c, hfc⟩ := TT.all_of hC f af haf
    exact ⟨fn, hfc.func, hfc.name, by rw [hfc.body]; rfl⟩
  · obtain ⟨x, h1, h2⟩ := List.any_eq_true.1 h
    exact hX f (Nat.eq_of_beq_eq_true h2 ▸ h1)

theorem empty_wr (w : World) : WR (fun b => b < w.heap.size) (fun _ => none) ⟨0, .leaf⟩ w := by
  refine ⟨?_, ?_, ?_, fun b hb => hb⟩
  · intro i b hb
    simp only [AHeap.get, Trie.get_leaf] at hb
    cases hb
  · intro i j bi bj li lj _ _ h; cases h
  · intro i l h; cases h

theorem grown_of {ρ ρ' : Ren} {H : AHeap} {w w' : World} (h : Post (fun b => b < w.heap.size) ρ w ρ' H w') : RowKit.Grown w w' := by
  refine ⟨⟨h.size.os, h.size.out, fun i hi => ?_⟩, h.size.frz, h.size.size⟩
  rw [h.keep i hi]
  split
  · rename_i h1 h2
    rw [h1] at h2; cases h2
    exact ⟨rfl, rfl, rfl, fun _ _ => rfl⟩
  · rename_i h1 h2
    rw [h1] at h2; cases h2
    exact .inr ⟨rfl, rfl⟩
  · rename_i h1 h2 h3 h4
    rfl

/-- A closed run that answers true. -/
def okRet : Option CRes → Bool
  | some (.ret (.bool true) _) => true
  | _ => false

theorem calls_of_run {P : Program} {E : EnvD} {call : CallF} (hcall : CallOK P E call) {f : FuncId} (hf : E.isF f = true) (h : okRet (call f [] ⟨0, .leaf⟩) = true) (w : World) :
    Calls P f #[] w fun e w' => e = .returned (.bool true) ∧ RowKit.Grown w w' := by
  unfold okRet at h
  split at h
  · rename_i H' hr
    refine (hcall f [] _ _ hr hf _ _ w #[] (LR.nil _) (empty_wr w)).mono fun e w' hp => ?_
    obtain ⟨ρ', v, rfl, hv, hp⟩ := hp
    exact ⟨by rw [hv.bool_inv], grown_of hp⟩
  · cases h
end Go.Sim
