/- Operators on values. -/
import Derived.Test.YtdppeaciahdekaaGreatSimOpA
import Derived.Test.YtdppeaciahdekaaGreatSimPart
import Derived.Laws.StructEq
namespace Go.Sim

section
variable {P : Program} {E : EnvD} {K : Nat → Prop} {ρ : Ren} {H H' : AHeap} {w : World} {T : Tmps} {a : Act} {out : AOut} {o : Oper}

theorem eqGuard_plain (op : BinOp) (t : TypeId) (x y : Operand) (u v : Value) (h1 : u = .nilIface → v = .nilIface → False) (h2 : ∀ p q, u = .agg p → v = .agg q → False) :
    (eqGuard op t x y u v).run P w = .ok () w := by
  cases op <;> first
    | rfl
    | (cases u <;> cases v <;> first | rfl | exact (h1 rfl rfl).elim | exact (h2 _ _ rfl rfl).elim)

theorem eqGuard_const (op : BinOp) (t : TypeId) (x y : Operand) (h : (isConstO x || isConstO y) = true) :
    (eqGuard op t x y .nilIface .nilIface).run P w = .ok () w := by
  cases x <;> cases y <;> first
    | (cases op <;> rfl)
    | (simp [isConstO] at h; done)

theorem VR.str_inv {ρ : Ren} {s : ByteArray} {v : Value} (h : VR ρ (.str s) v) : v = .string s := by cases h; rfl

theorem sameCell_sound {x y : AVal} {u v : Value} (hx : VR ρ x u) (hy : VR ρ y v) {b : Bool} (h : sameCell x y = some b) : vsame u v = some b := by
  unfold sameCell at h
  split at h
  · cases hx; cases hy; exact h
  · cases h

theorem sameRow_sound {x y : Rope AVal} {u v : Array Value} (hx : RR ρ x u 0) (hy : RR ρ y v 0) : ∀ n b, n ≤ x.size → n ≤ y.size → sameRow x y n = some b → vrow u v n = some b
  | 0, b, _, _, h => h
  | n + 1, b, h1, h2, h => by
    simp only [sameRow] at h
    split at h
    · rename_i r hr
      have ih := sameRow_sound hx hy n r (by omega) (by omega) hr
      split at h
      · rename_i p q hp hq
        split at h
        · rename_i s hs
          simp only [Option.some.injEq] at h; subst h
          obtain ⟨p', u', a1, a2, a3, a4⟩ := hx n (by omega)
          obtain ⟨q', v', b1, b2, b3, b4⟩ := hy n (by omega)
          rw [hp] at a1; cases a1
          rw [hq] at b1; cases b1
          rw [Nat.zero_add] at a3 b3
          simp only [vrow, ih, a3, b3, sameCell_sound a4 b4 hs]
        · cases h
      · cases h
    · cases h

theorem kind_und {t : TypeId} (k : Kd) (h : kindOf P E t = k) : match k with
    | .bool => P.underlying t = some .bool
    | .ptr => ∃ e, P.underlying t = some (.pointer e)
    | .slice => ∃ e, P.underlying t = some (.slice e)
    | .func => ∃ x y z, P.underlying t = some (.func x y z)
    | .iface => ∃ m, P.underlying t = some (.interface m)
    | .agg n => E.eqt t = some n
    | .scal => True := by
  unfold kindOf at h
  split at h
  · subst h; assumption
  · subst h; exact ⟨_, by assumption⟩
  · subst h; exact ⟨_, by assumption⟩
  · subst h; exact ⟨_, _, _, by assumption⟩
  · subst h; exact ⟨_, by assumption⟩
  · split at h
    · subst h; assumption
    · subst h; trivial
  · subst h; trivial

theorem eqIn_bool (d : Nat) {t : TypeId} (hu : P.underlying t = some .bool) (x y : Bool) : (Op.equalIn (d + 1) t (.bool x) (.bool y)).run P w = .ok (x == y) w := by simp [Op.equalIn, run_und hu]
theorem eqIn_ptr (d : Nat) {t e : TypeId} (hu : P.underlying t = some (.pointer e)) (x : Option Addr) : (Op.equalIn (d + 1) t (.pointer none) (.pointer x)).run P w = .ok x.isNone w := by
  cases x <;> simp [Op.equalIn, run_und hu]
theorem eqIn_ptr' (d : Nat) {t e : TypeId} (hu : P.underlying t = some (.pointer e)) (x : Addr) : (Op.equalIn (d + 1) t (.pointer (some x)) (.pointer none)).run P w = .ok false w := by
  simp [Op.equalIn, run_und hu]
theorem eqIn_slice (d : Nat) {t e : TypeId} (hu : P.underlying t = some (.slice e)) (x : Option Addr) (n c n' c' : Nat) : (Op.equalIn (d + 1) t (.slice none n c) (.slice x n' c')).run P w = .ok x.isNone w := by
  cases x <;> simp [Op.equalIn, run_und hu]
theorem eqIn_slice' (d : Nat) {t e : TypeId} (hu : P.underlying t = some (.slice e)) (x : Addr) (n c n' c' : Nat) : (Op.equalIn (d + 1) t (.slice (some x) n c) (.slice none n' c')).run P w = .ok false w := by
  simp [Op.equalIn, run_und hu]
theorem eqIn_func (d : Nat) {t : TypeId} {e1 e2 : Array TypeId} {e3 : Bool} (hu : P.underlying t = some (.func e1 e2 e3)) : (Op.equalIn (d + 1) t .nilFunc .nilFunc).run P w = .ok true w := by
  simp [Op.equalIn, run_und hu]
theorem eqIn_func1 (d : Nat) {t : TypeId} {e1 e2 : Array TypeId} {e3 : Bool} (hu : P.underlying t = some (.func e1 e2 e3)) (f : Fn) (x y : Array Value) : (Op.equalIn (d + 1) t .nilFunc (.func f x y)).run P w = .ok false w := by
  simp [Op.equalIn, run_und hu]
theorem eqIn_func2 (d : Nat) {t : TypeId} {e1 e2 : Array TypeId} {e3 : Bool} (hu : P.underlying t = some (.func e1 e2 e3)) (f : Fn) (x y : Array Value) : (Op.equalIn (d + 1) t (.func f x y) .nilFunc).run P w = .ok false w := by
  simp [Op.equalIn, run_und hu]
theorem eqIn_if (d : Nat) {t : TypeId} {m : Array (String × TypeId)} (hu : P.underlying t = some (.interface m)) : (Op.equalIn (d + 1) t .nilIface .nilIface).run P w = .ok true w := by
  simp [Op.equalIn, run_und hu]
theorem eqIn_if1 (d : Nat) {t : TypeId} {m : Array (String × TypeId)} (hu : P.underlying t = some (.interface m)) (u : TypeId) (v : Value) : (Op.equalIn (d + 1) t .nilIface (.iface u v)).run P w = .ok false w := by
  simp [Op.equalIn, run_und hu]
theorem eqIn_if2 (d : Nat) {t : TypeId} {m : Array (String × TypeId)} (hu : P.underlying t = some (.interface m)) (u : TypeId) (v : Value) : (Op.equalIn (d + 1) t (.iface u v) .nilIface).run P w = .ok false w := by
  simp [Op.equalIn, run_und hu]

theorem equal_eq (t : TypeId) (u v : Value) : Op.equal t u v = Op.equalIn (9999 + 1) t u v := rfl

/-- '==' of two values that lie there. -/
theorem aeq_sound (hE : EnvOK P E) {k : Kd} {c : Bool} {t : TypeId} (hk : kindOf P E t = k) {x y : AVal} {u v : Value} (hx : VR ρ x u) (hy : VR ρ y v) {b : Bool} (h : aeq k c x y = some b)
    (op : BinOp) (p q : Operand) (hc : c = (isConstO p || isConstO q)) : (eqGuard op t p q u v).run P w = .ok () w ∧ (Op.equal t u v).run P w = .ok b w := by
  have hu := kind_und k hk
  cases k with
  | scal => cases h
  | bool =>
    simp only [aeq] at h
    split at h
    · cases hx; cases hy
      simp only [Option.some.injEq] at h; subst h
      exact ⟨eqGuard_plain op t p q _ _ (by simp) (by simp), eqIn_bool 9999 hu _ _⟩
    · cases h
  | ptr =>
    obtain ⟨e, hu⟩ := hu
    simp only [aeq] at h
    split at h
    · cases hx; cases hy; simp only [Option.some.injEq] at h; subst h
      exact ⟨eqGuard_plain op t p q _ _ (by simp) (by simp), eqIn_ptr 9999 hu none⟩
    · cases hx; cases hy; simp only [Option.some.injEq] at h; subst h
      exact ⟨eqGuard_plain op t p q _ _ (by simp) (by simp), eqIn_ptr 9999 hu (some _)⟩
    · cases hx; cases hy; simp only [Option.some.injEq] at h; subst h
      exact ⟨eqGuard_plain op t p q _ _ (by simp) (by simp), eqIn_ptr' 9999 hu _⟩
    · cases h
  | slice =>
    obtain ⟨e, hu⟩ := hu
    simp only [aeq] at h
    split at h
    · cases hx; cases hy; simp only [Option.some.injEq] at h; subst h
      exact ⟨eqGuard_plain op t p q _ _ (by simp) (by simp), eqIn_slice 9999 hu none _ _ _ _⟩
    · cases hx; cases hy; simp only [Option.some.injEq] at h; subst h
      exact ⟨eqGuard_plain op t p q _ _ (by simp) (by simp), eqIn_slice 9999 hu (some _) _ _ _ _⟩
    · cases hx; cases hy; simp only [Option.some.injEq] at h; subst h
      exact ⟨eqGuard_plain op t p q _ _ (by simp) (by simp), eqIn_slice' 9999 hu _ _ _ _ _⟩
    · cases h
  | func =>
    obtain ⟨e1, e2, e3, hu⟩ := hu
    simp only [aeq] at h
    split at h
    · cases hx; cases hy; simp only [Option.some.injEq] at h; subst h
      exact ⟨eqGuard_plain op t p q _ _ (by simp) (by simp), eqIn_func 9999 hu⟩
    · cases hx; cases hy; simp only [Option.some.injEq] at h; subst h
      exact ⟨eqGuard_plain op t p q _ _ (by simp) (by simp), eqIn_func1 9999 hu _ _ _⟩
    · cases hx; cases hy; simp only [Option.some.injEq] at h; subst h
      exact ⟨eqGuard_plain op t p q _ _ (by simp) (by simp), eqIn_func2 9999 hu _ _ _⟩
    · cases h
  | iface =>
    obtain ⟨e, hu⟩ := hu
    simp only [aeq] at h
    split at h
    · split at h
      · rename_i hcc
        cases hx; cases hy; simp only [Option.some.injEq] at h; subst h
        exact ⟨eqGuard_const op t p q (by rw [← hc]; exact hcc), eqIn_if 9999 hu⟩
      · cases h
    · cases hx; cases hy; simp only [Option.some.injEq] at h; subst h
      exact ⟨eqGuard_plain op t p q _ _ (by simp) (by simp), eqIn_if1 9999 hu _ _⟩
    · cases hx; cases hy; simp only [Option.some.injEq] at h; subst h
      exact ⟨eqGuard_plain op t p q _ _ (by simp) (by simp), eqIn_if2 9999 hu _ _⟩
    · cases h
  | agg n =>
    simp only [aeq] at h
    simp only at hu
    split at h
    · rename_i r s
      split at h
      · rename_i hz
        simp only [Bool.and_eq_true, decide_eq_true_eq] at hz
        obtain ⟨xs, rfl, x1, x2⟩ := hx.agg_inv
        obtain ⟨ys, rfl, y1, y2⟩ := hy.agg_inv
        obtain ⟨g, heq⟩ := hE.eqt t n hu
        refine ⟨run_eqGuard_agg w op t p q xs ys g, heq xs ys b (by omega) (by omega) (sameRow_sound x2 y2 n b (by omega) (by omega) h) w⟩
      · cases h
    · cases h

theorem binOp_int {op : BinOp} {t : TypeId} {k : IntKind} {x y : Int} {v : AVal} (hs : op ≠ .shl) (hs' : op ≠ .shr) (h : intBin op k x y = some v) : ∃ u, (binOp op t (.int k x) (.int k y)).run P w = .ok u w ∧ VR ρ v u := by
  have key : ∀ (s : Sem Value) (u : Value), s = pure u → s.run P w = .ok u w := fun s u e => by rw [e]; rfl
  cases op <;> simp only [intBin] at h <;> first
    | (exact (hs rfl).elim)
    | (exact (hs' rfl).elim)
    | (cases h; done)
    | (simp only [Option.some.injEq] at h; subst h
       exact ⟨_, key _ _ (by simp only [binOp, ne_eq, not_true_eq_false, if_false, Op.intArith] <;> rfl), .int _ _⟩)
    | (simp only [Option.some.injEq] at h; subst h
       exact ⟨_, key _ _ (by simp only [binOp, ne_eq, not_true_eq_false, if_false] <;> rfl), .int _ _⟩)
    | (simp only [Option.some.injEq] at h; subst h
       exact ⟨_, key _ _ (by simp only [binOp, ne_eq, not_true_eq_false, if_false, Op.intCmp] <;> rfl), .bool _⟩)
    | (split at h
       · cases h
       · rename_i h0
         simp only [Option.some.injEq] at h; subst h
         exact ⟨_, key _ _ (by simp only [binOp, ne_eq, not_true_eq_false, if_false, Op.intDiv, h0] <;> rfl), .int _ _⟩)

/-- '==' and '!=' of what is no number and no text come to Go's '=='. -/
theorem binOp_eq {t : TypeId} {x y : AVal} {u v : Value} (hx : VR ρ x u) (hy : VR ρ y v) (n1 : ∀ k m k' n, x = .int k m → y = .int k' n → False) (n2 : ∀ s s', x = .str s → y = .str s' → False)
    {k : Kd} {c b : Bool} (hb : aeq k c x y = some b) : binOp .eql t u v = (do pure (.bool (← Op.equal t u v))) ∧ binOp .neq t u v = (do pure (.bool (!(← Op.equal t u v)))) := by
  have j1 : x ≠ .junk := by rintro rfl; cases k <;> simp [aeq] at hb
  have j2 : y ≠ .junk := by rintro rfl; cases k <;> simp [aeq] at hb
  have j3 : ∀ k m v lo hi, x ≠ .part k m v lo hi := by rintro a1 a2 a3 a4 a5 rfl; cases k <;> simp [aeq] at hb
  have j4 : ∀ k m v lo hi, y ≠ .part k m v lo hi := by rintro a1 a2 a3 a4 a5 rfl; cases k <;> simp [aeq] at hb
  clear hb
  cases hx <;> cases hy <;> first
    | exact (j1 rfl).elim
    | exact (j2 rfl).elim
    | exact (j3 _ _ _ _ _ rfl).elim
    | exact (j4 _ _ _ _ _ rfl).elim
    | exact (n1 _ _ _ _ rfl rfl).elim
    | exact (n2 _ _ rfl rfl).elim
    | exact ⟨rfl, rfl⟩

theorem op_bin (hE : EnvOK P E) {x y : Operand} {op : BinOp} {t yt : TypeId} (ht : TR ρ T a.tmps) (hw : WR K ρ H w) (ho : o.op = .binOp op t x y yt)
    (he : aop E T H (.bin op (kindOf P E t) (isConstO x || isConstO y) x y) = some (out, H')) : OutS P ρ H w (execOp a.eval o) out H' := by
  simp only [aop] at he
  split at he
  · rename_i p q hx hy
    split at he
    · rename_i v hv
      have vx := aev_sound ht hx
      have vy := aev_sound ht hy
      have hrun : ∃ u, (eqGuard op t x y (a.eval x) (a.eval y)).run P w = .ok () w ∧ (binOp op t (a.eval x) (a.eval y)).run P w = .ok u w ∧ VR ρ v u := by
        unfold abin at hv
        split at hv
        · rename_i k m q lo hi k' b
          split at hv
          · rename_i hk
            subst hk
            rw [vy.int_inv]
            obtain ⟨n, e, h1, h2, h3⟩ := vx.part_inv
            rw [e]
            obtain ⟨r, hr, hpr, hs1, hs2⟩ := partBin_sound (ρ := ρ) h1 h2 h3 hv
            obtain ⟨u, g1, g2⟩ := binOp_int (P := P) (w := w) (ρ := ρ) (t := t) hs1 hs2 hr
            exact ⟨u, eqGuard_plain _ t x y _ _ (by simp) (by simp), g1, hpr u g2⟩
          · cases hv
        · rename_i k m k' n
          rw [vx.int_inv, vy.int_inv]
          split at hv
          · split at hv
            · cases hv
            · rename_i h0
              cases hv
              exact ⟨_, eqGuard_plain _ t x y _ _ (by simp) (by simp), by simp only [binOp, Op.shift, h0, if_false]; rfl, .int _ _⟩
          · split at hv
            · cases hv
            · rename_i h0
              cases hv
              exact ⟨_, eqGuard_plain _ t x y _ _ (by simp) (by simp), by simp only [binOp, Op.shift, h0, if_false]; rfl, .int _ _⟩
          · rename_i n1 n2
            split at hv
            · rename_i hk
              subst hk
              obtain ⟨u, h1, h2⟩ := binOp_int (P := P) (w := w) (ρ := ρ) (t := t) (fun e => n1 e) (fun e => n2 e) hv
              exact ⟨u, eqGuard_plain _ t x y _ _ (by simp) (by simp), h1, h2⟩
            · cases hv
        · rename_i s s'
          rw [vx.str_inv, vy.str_inv]
          split at hv
          · cases hv
            exact ⟨_, eqGuard_plain _ t x y _ _ (by simp) (by simp), by simp only [binOp, Op.stringOp]; rfl, .bool _⟩
          · cases hv
            exact ⟨_, eqGuard_plain _ t x y _ _ (by simp) (by simp), by simp only [binOp, Op.stringOp]; rfl, .bool _⟩
          · cases hv
        · rename_i n1 n2
          split at hv
          · split at hv
            · rename_i b hb'
              cases hv
              obtain ⟨b1, b2⟩ := binOp_eq (t := t) vx vy n1 n2 hb'
              obtain ⟨g1, g2⟩ := aeq_sound (w := w) hE rfl vx vy hb' .eql x y rfl
              exact ⟨.bool b, g1, by rw [b1]; simp [g2], .bool _⟩
            · cases hv
          · split at hv
            · rename_i b hb'
              cases hv
              obtain ⟨b1, b2⟩ := binOp_eq (t := t) vx vy n1 n2 hb'
              obtain ⟨g1, g2⟩ := aeq_sound (w := w) hE rfl vx vy hb' .neq x y rfl
              exact ⟨.bool (!b), g1, by rw [b2]; simp [g2], .bool _⟩
            · cases hv
          · cases hv
      obtain ⟨u, h1, h2, h3⟩ := hrun
      refine OutR.same hw ?_ h3 he
      simp [execOp, ho, h1, h2]
    · cases he
  · cases he
end
end Go.Sim
