/- Slices, maps, assertions, calls. -/
import Derived.Test.YtdppeaciahdekaaGreatSimOpC
import Derived.Laws.Append
namespace Go.Sim

section
variable {P : Program} {E : EnvD} {K : Nat → Prop} {ρ : Ren} {H H' : AHeap} {w : World} {T : Tmps} {a : Act} {out : AOut} {o : Oper}

theorem addr_add (b p n : Nat) : (⟨b, p, none⟩ : Addr).add n = ⟨b, p + n, none⟩ := by unfold Addr.add; split <;> simp_all

theorem run_bound {x : Operand} {v : AVal} {n y : Nat} {c : BoundsCode} (ht : TR ρ T a.tmps) (hv : aev T x = some v) (hn : anat v = some n) (hy : n ≤ y) :
    (Instr.sliceBound (a.eval x) y c).run P w = .ok n w := by
  obtain ⟨k, e⟩ := anat_inv (aev_sound ht hv) hn
  rw [e]
  simp [Instr.sliceBound, asIntOf, hy]

/-- The bounds of a slice expression. -/
theorem run_bounds {lo hi : Option Operand} {isS : Bool} {n c c' l h : Nat} (ht : TR ρ T a.tmps) (hh : abound T hi n = some h) (hl : abound T lo 0 = some l) (h1 : l ≤ h) (h2 : h ≤ c) (h3 : c ≤ c') :
    (Instr.sliceBounds isS n c' (lo.map a.eval) (hi.map a.eval) none).run P w = .ok (l, h, c') w := by
  have hH : (match hi.map a.eval, (none : Option Value) with
      | some v, some _ => Instr.sliceBound v c' .slice3B
      | some v, none => Instr.sliceBound v c' (if isS then .sliceAcap else .sliceAlen)
      | none, none => pure n
      | none, some _ => stuck "Slice: max without high" : Sem Nat).run P w = .ok h w := by
    cases hi with
    | none => simp only [abound, Option.some.injEq] at hh; subst hh; rfl
    | some x =>
      simp only [abound] at hh
      split at hh
      · rename_i v hv
        exact run_bound ht hv hh (by omega)
      · cases hh
  have hL : (match lo.map a.eval with
      | some v => Instr.sliceBound v h (if (none : Option Value).isSome then .slice3C else .sliceB)
      | none => pure 0 : Sem Nat).run P w = .ok l w := by
    cases lo with
    | none => simp only [abound, Option.some.injEq] at hl; subst hl; rfl
    | some x =>
      simp only [abound] at hl
      split at hl
      · rename_i v hv
        exact run_bound ht hv hl h1
      · cases hl
  unfold Instr.sliceBounds
  cases hi with
  | none =>
    simp only [abound, Option.some.injEq] at hh; subst hh
    cases lo with
    | none =>
      simp only [abound, Option.some.injEq] at hl; subst hl
      rfl
    | some y =>
      simp only [Option.map_none, Option.map_some] at hL ⊢
      simp only [Sem.run_bind, Sem.run_pure, Result.andThen_ok]
      simp only [Option.isSome_none, Bool.false_eq_true, if_false] at hL ⊢
      rw [hL]
      rfl
  | some x =>
    simp only [Option.map_some] at hH
    cases lo with
    | none =>
      simp only [abound, Option.some.injEq] at hl; subst hl
      simp only [Option.map_none, Option.map_some, Sem.run_bind, Sem.run_pure, Result.andThen_ok]
      rw [hH]
      rfl
    | some y =>
      simp only [Option.map_some] at hL
      simp only [Option.map_some, Sem.run_bind, Sem.run_pure, Result.andThen_ok]
      rw [hH]
      simp only [Result.andThen_ok]
      simp only [Option.isSome_none, Bool.false_eq_true, if_false] at hL ⊢
      rw [hL]
      rfl

theorem op_sls {t e : TypeId} {s : Nat} {x : Operand} {lo hi : Option Operand} (ht : TR ρ T a.tmps) (hw : WR K ρ H w) (ho : o.op = .slice t x lo hi none)
    (hu : P.underlying t = some (.slice e)) (hs : csize P e = some s) (he : aop E T H (.sls s x lo hi) = some (out, H')) : OutS P ρ H w (execOp a.eval o) out H' := by
  simp only [aop] at he
  split at he
  · rename_i p n c hx
    split at he
    · rename_i h hh
      split at he
      · rename_i l hl
        split at he
        · rename_i hb
          simp only [Bool.and_eq_true, decide_eq_true_eq] at hb
          have hexec : ∀ v n' c', a.eval x = .slice v n' c' → ∀ q, (Instr.slice t (.slice v n' c') (lo.map a.eval) (hi.map a.eval) none).run P w = .ok q w → (execOp a.eval o).run P w = .ok (.value q) w := by
            intro v n' c' hv q hq
            simp only [execOp, ho, hv, Option.map_none, Instr.sliceAt, Sem.run_bind, run_und hu, Result.andThen_ok, hq, Sem.run_pure]
          cases p with
          | none =>
            obtain ⟨rfl, rfl, e1⟩ := (aev_sound ht hx).sliceN_inv
            refine OutR.same hw ?_ .sliceNil he
            refine hexec _ _ _ e1 _ ?_
            simp only [Instr.slice, Sem.run_bind, run_und hu, Result.andThen_ok, run_bounds (P := P) (w := w) (isS := true) ht hh hl hb.1 hb.2 (Nat.le_refl _), run_size hs, Sem.run_pure]
            have : h = 0 := by omega
            have : l = 0 := by omega
            subst_vars
            rfl
          | some p =>
            obtain ⟨i, q⟩ := p
            obtain ⟨loc, e1, e2⟩ := (aev_sound ht hx).slice_inv
            simp only at he
            split at he
            · rename_i r g wr hget
              obtain ⟨cur, tt, r1, r2, r3, r4, r5⟩ := hw.row hget e1
              have hrun : (Instr.slice t (.slice (some ⟨loc.blk, loc.off + q, none⟩) n (c + loc.sp)) (lo.map a.eval) (hi.map a.eval) none).run P w =
                  .ok (.slice (if c + loc.sp = l then some ⟨loc.blk, loc.off + q, none⟩ else some ⟨loc.blk, loc.off + (q + l * s), none⟩) (h - l) (c + loc.sp - l)) w := by
                simp only [Instr.slice, Sem.run_bind, run_und hu, Result.andThen_ok, run_bounds (P := P) (w := w) (isS := true) ht hh hl hb.1 hb.2 (Nat.le_add_right c loc.sp), run_size hs, Sem.run_pure,
                  Option.map_some, addr_add, Nat.add_assoc]
              have hz := hexec _ _ _ e2 _ hrun
              have hcap : c + loc.sp - l = (c - l) + loc.sp := by omega
              rw [hcap] at hz
              split at he
              · rename_i hlt
                rw [if_neg (by omega)] at hz
                exact OutR.same hw hz (.slice e1) he
              · split at he
                · rename_i hg
                  rw [if_pos (by have := r3 hg; omega)] at hz
                  exact OutR.same hw hz (.slice e1) he
                · split at he
                  · rename_i h0
                    subst h0
                    refine OutR.same hw hz ?_ he
                    split
                    · exact .slice e1
                    · rw [Nat.zero_mul, Nat.add_zero]; exact .slice e1
                  · cases he
            · cases he
        · cases he
      · cases he
    · cases he
  · cases he

theorem op_sla {t e : TypeId} {n s : Nat} {x : Operand} {lo hi : Option Operand} (ht : TR ρ T a.tmps) (hw : WR K ρ H w) (ho : o.op = .slice t x lo hi none)
    (hu : P.underlying t = some (.array n e)) (hs : csize P e = some s) (he : aop E T H (.sla n s x lo hi) = some (out, H')) : OutS P ρ H w (execOp a.eval o) out H' := by
  simp only [aop] at he
  split at he
  · rename_i i q hx
    split at he
    · rename_i r wr hget
      split at he
      · rename_i h hh
        split at he
        · rename_i l hl
          split at he
          · rename_i hb
            simp only [Bool.and_eq_true, decide_eq_true_eq] at hb
            obtain ⟨loc, e1, e2⟩ := (aev_sound ht hx).ptr_inv
            obtain ⟨cur, tt, r1, r2, r3, r4, r5⟩ := hw.row hget e1
            have hsp := r3 rfl
            have hrun : (execOp a.eval o).run P w = .ok (.value (.slice (some ⟨loc.blk, loc.off + (if n = l then q else q + l * s), none⟩) (h - l) ((n - l) + loc.sp))) w := by
              simp only [execOp, ho, e2, Option.map_none, Instr.sliceAt, Sem.run_bind, run_und hu, Result.andThen_ok, Instr.sureAddr, Sem.run_pure,
                run_bounds (P := P) (w := w) (isS := false) ht hh hl hb.1 hb.2 (Nat.le_refl _), run_size hs, addr_add, Nat.add_assoc, hsp, Nat.add_zero]
              split <;> rfl
            exact OutR.same hw hrun (.slice e1) he
          · cases he
        · cases he
      · cases he
    · cases he
  · cases he

/-- The source of a copy or an append. -/
theorem run_src {q : Option (Nat × Nat)} {m d n : Nat} {c : Rope AVal} {v : Value} (hw : WR K ρ H w) (hv : VR ρ (.slice q m d) v) (hs : hsrc H q n = some c) (s k : Nat) (hn : n = k * s) (h0 : q = none → n = 0) :
    ∃ cs, (Builtin.firstCells s k v).run P w = .ok cs w ∧ cs.size = c.size ∧ c.size = n ∧ RR ρ c cs 0 := by
  cases q with
  | none =>
    obtain ⟨rfl, rfl, rfl⟩ := hv.sliceN_inv
    simp only [hsrc, Option.some.injEq] at hs; subst hs
    refine ⟨#[], rfl, rfl, by simp [Rope.size, h0 rfl], fun i hi => ?_⟩
    simp [Rope.size] at hi
  | some p =>
    obtain ⟨i, o⟩ := p
    obtain ⟨l, e1, rfl⟩ := hv.slice_inv
    obtain ⟨cs, g1, g2, g3, g4⟩ := hw.loadN (P := P) hs e1
    refine ⟨cs, ?_, by omega, g3, g4⟩
    simp only [Builtin.firstCells, ← hn]
    exact g1
end
end Go.Sim
