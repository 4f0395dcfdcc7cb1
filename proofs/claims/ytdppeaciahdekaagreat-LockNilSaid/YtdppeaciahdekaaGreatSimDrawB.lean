/- Making new memory, reading and reckoning in a region that draws: in whatever world that holds what is looked at. -/
import Derived.Test.YtdppeaciahdekaaGreatSimDrawA
set_option linter.unusedSimpArgs false
namespace Go.Sim

section
variable {P : Program} {E : EnvD} {K : Nat → Prop} {ρ : Ren} {H H' : AHeap} {w : World} {T : Tmps} {a : Act} {o : Oper}

/-- An operation that makes new memory: what it makes, and where. -/
theorem make_sound (hE : EnvOK P E) {ao : AOp} {v : AVal} (hq : makeOp ao = true) (ht : TR ρ T a.tmps) (hc : comp P E o.op = some ao) (he : aop E T H ao = some (.val v, H')) :
    ∃ c cs e v', H' = H.new (.cells c 0 true) ∧ (execOp a.eval o).run P w = .ok (.value v') (w.alloc (.cells cs e)) ∧ cs.size = c.size ∧ RR ρ c cs 0 ∧
      (∀ ρ' : Ren, ρ' H.next = some ⟨w.heap.size, 0, 0⟩ → VR ρ' v v') ∧ (∀ H1, ∃ v1, aop E T H1 ao = some (.val v1, H1.new (.cells c 0 true))) := by
  have hw0 : WR (fun _ => False) (fun _ => none) ⟨0, .leaf⟩ w := ⟨fun i b h => by simp [AHeap.get, Trie.get_leaf] at h, fun i j bi bj li lj h => by simp [AHeap.get, Trie.get_leaf] at h, fun i l h => (by cases h), fun b h => h.elim⟩
  cases ho : o.op <;> rw [ho] at hc
  case alloc t =>
    simp only [comp, Option.map_eq_some_iff] at hc
    obtain ⟨z, hz, rfl⟩ := hc
    obtain ⟨i, zv, h1, h2, h3, h4, h5, _⟩ := hE.zro t z hz
    simp only [aop, ret, Option.some.injEq, Prod.mk.injEq, AOut.val.injEq] at he
    obtain ⟨rfl, rfl⟩ := he
    refine ⟨z, zv.cells, t, _, rfl, ?_, h4, h5 ρ, fun ρ' h => .ptr h, fun H1 => ⟨_, rfl⟩⟩
    simp only [execOp, ho, Instr.alloc, Sem.run_bind, run_zero h1 h2, Result.andThen_ok, newVar, newRow, run_newObj, Sem.run_pure]
    rfl
  case box t x =>
    simp only [comp, Option.some.injEq] at hc; subst hc
    simp only [aop] at he
    split at he
    · rename_i u hu
      split at he
      · rename_i c hcell
        obtain ⟨hs, hr⟩ := RR.cells (aev_sound ht hu) hcell
        simp only [ret, Option.some.injEq, Prod.mk.injEq, AOut.val.injEq] at he
        obtain ⟨rfl, rfl⟩ := he
        refine ⟨c, (a.eval x).cells, t, _, rfl, ?_, hs, hr, fun ρ' h => .ptr h, fun H1 => ⟨_, by simp only [aop, hu, hcell]; rfl⟩⟩
        simp only [execOp, ho, Instr.box, Sem.run_bind, Result.andThen_ok, newVar, newRow, run_newObj, Sem.run_pure]
        rfl
      · cases he
    · cases he
  case buildSlice t n ps =>
    have hcomp := hc
    simp only [comp] at hc
    split at hc
    · rename_i e hu
      split at hc
      · rename_i z s hz hs
        split at hc
        · rename_i hb
          simp only [Option.some.injEq] at hc; subst hc
          simp only [Bool.and_eq_true, decide_eq_true_eq] at hb
          simp only [aop] at he
          split at he
          · rename_i c hf
            simp only [ret, Option.some.injEq, Prod.mk.injEq, AOut.val.injEq] at he
            obtain ⟨rfl, rfl⟩ := he
            obtain ⟨i, v, g1, g2, g3, g4, g5, _⟩ := hE.zro e z hz
            have h1 : z.size = s := hb.1.1
            have hle : ¬ (n * s > 2 ^ 24) := by have := hb.1.2; omega
            have fin : ∀ zc : Array Value, ((Array.range (n * s)).map (zc[· % zc.size]!)).size = (tile z n).size → RR ρ (tile z n) ((Array.range (n * s)).map (zc[· % zc.size]!)) 0 →
                ((∀ cells, Instr.fill (fun i => some (i * s, s)) ((Array.range (n * s)).map (zc[· % zc.size]!)) (List.map (fun x => (x.fst, a.eval x.snd)) ps.toList) = some cells →
                  (execOp a.eval o).run P w = .ok (.value (.slice (some ⟨w.heap.size, 0, none⟩) n n)) (w.alloc (.cells cells e)))) → ∃ cs, cs.size = c.size ∧ RR ρ c cs 0 ∧ (execOp a.eval o).run P w = .ok (.value (.slice (some ⟨w.heap.size, 0, none⟩) n n)) (w.alloc (.cells cs e)) := by
              intro zc k2 k3 hrun
              obtain ⟨cells, f1, f2, f3⟩ := fill_sound (a := a) ht _ _ _ _ c _ (partsA_placed s ps.toList) hf k2 k3
              exact ⟨cells, f2, f3, hrun cells f1⟩
            have key : ∃ cs, cs.size = c.size ∧ RR ρ c cs 0 ∧ (execOp a.eval o).run P w = .ok (.value (.slice (some ⟨w.heap.size, 0, none⟩) n n)) (w.alloc (.cells cs e)) := by
              by_cases hn : n * s = 0
              · refine fin #[] (by simp [size_tile, h1]) (fun i hi => ?_) fun cells hf => ?_
                · rw [size_tile, h1, hn] at hi; omega
                · simp only [execOp, ho, Instr.buildSlice, Sem.run_bind, run_und hu, Result.andThen_ok, run_size hs, if_neg hle, if_pos hn, Sem.run_pure, Array.toList_map, hf, newRow, run_newObj]
                  rfl
              · refine fin v.cells (by simp [size_tile, h1]) (RR.tiles g4 (g5 ρ) n (tile z n) (size_tile z n) (fun i hi => get_tile z n i hi) _ (by rw [h1])) fun cells hf => ?_
                simp only [execOp, ho, Instr.buildSlice, Sem.run_bind, run_und hu, Result.andThen_ok, run_size hs, if_neg hle, if_neg hn, Sem.run_pure, Array.toList_map, run_zero g1 g2, hf, newRow, run_newObj]
                rfl
            obtain ⟨cs, k1, k2, k3⟩ := key
            exact ⟨c, cs, e, _, rfl, k3, k1, k2, fun ρ' h => .slice h, fun H1 => ⟨_, by simp only [aop, hf]; rfl⟩⟩
          · cases he
        · cases hc
      · cases hc
    · cases hc
  all_goals
    (simp only [comp] at hc
     (repeat' split at hc) <;> first
       | (cases hc; done)
       | (simp only [Option.some.injEq] at hc; subst hc; simp [makeOp] at hq; done)
       | (simp only [Option.map_eq_some_iff] at hc; obtain ⟨_, _, rfl⟩ := hc; simp [makeOp] at hq; done))

/-- An operation that reckons or reads, where what it reads lies in the heap H of the world w; ρ may know more blocks than H has. -/
theorem quiet_sound (hE : EnvOK P E) {ao : AOp} {v : AVal} {m : Nat} (hq : quietOp ao = true ∨ readOp ao = true) (ht : TR ρ T a.tmps) (hw : WR K ρ ⟨m, H.tree⟩ w) (hc : comp P E o.op = some ao)
    (he : aop E T H ao = some (.val v, H')) : ∃ v', (execOp a.eval o).run P w = .ok (.value v') w ∧ VR ρ v v' := by
  have he' : aop E T ⟨m, H.tree⟩ ao = some (.val v, ⟨m, H.tree⟩) := by
    rcases hq with hq | hq
    · exact (quiet_any hq he).2.2 _
    · exact (read_next hq he).2.2 m
  obtain ⟨x, v', h1, h2, h3, _⟩ := (op_all hE ht hw hc he').1 hq
  cases h1
  exact ⟨v', h2, h3⟩
end
end Go.Sim
