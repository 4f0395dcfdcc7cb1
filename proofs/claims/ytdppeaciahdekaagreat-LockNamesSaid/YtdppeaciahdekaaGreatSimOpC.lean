/- Operations that make values of parts, slices, maps. -/
import Derived.Test.YtdppeaciahdekaaGreatSimOpB
namespace Go.Sim

theorem fold_set (off : Nat) : ∀ (l : List Value) (k : Nat) (cs : Array Value) (q : Nat), off + k + l.length ≤ cs.size →
    (((l.zipIdx k).foldl (fun cs (x : Value × Nat) => cs.setIfInBounds (off + x.2) x.1) cs)[q]? = if off + k ≤ q ∧ q < off + k + l.length then l[q - (off + k)]? else cs[q]?)
  | [], k, cs, q, _ => by
    simp only [List.zipIdx_nil, List.foldl_nil, List.length_nil]
    rw [if_neg (by omega)]
  | v :: l, k, cs, q, h => by
    simp only [List.zipIdx_cons, List.foldl_cons, List.length_cons] at h ⊢
    rw [fold_set off l (k + 1) _ q (by simp; omega)]
    by_cases h1 : off + (k + 1) ≤ q ∧ q < off + (k + 1) + l.length
    · rw [if_pos h1, if_pos (by omega)]
      rw [show q - (off + k) = (q - (off + (k + 1))) + 1 from by omega]
      simp
    · rw [if_neg h1]
      by_cases h2 : q = off + k
      · subst h2
        rw [if_pos (by omega)]
        have : off + k < cs.size := by omega
        simp [this]
      · rw [if_neg (by omega), Array.getElem?_setIfInBounds_ne (by omega)]

theorem fold_size (off : Nat) : ∀ (l : List Value) (k : Nat) (cs : Array Value), ((l.zipIdx k).foldl (fun cs (x : Value × Nat) => cs.setIfInBounds (off + x.2) x.1) cs).size = cs.size
  | [], _, _ => rfl
  | v :: l, k, cs => by
    simp only [List.zipIdx_cons, List.foldl_cons]
    rw [fold_size off l (k + 1)]
    simp

section
variable {P : Program} {E : EnvD} {K : Nat → Prop} {ρ : Ren} {H H' : AHeap} {w : World} {T : Tmps} {a : Act} {out : AOut} {o : Oper}

/-- What the parts of an aggregate are to 'place'. -/
def Placed (place : Nat → Option (Nat × Nat)) : List (Nat × Operand) → List (Nat × Nat × Operand) → Prop
  | [], [] => True
  | (i, x) :: l, (p, s, y) :: m => place i = some (p, s) ∧ x = y ∧ Placed place l m
  | _, _ => False

theorem fill_sound (ht : TR ρ T a.tmps) (place : Nat → Option (Nat × Nat)) : ∀ (l : List (Nat × Operand)) (m : List (Nat × Nat × Operand)) (z c : Rope AVal) (cells : Array Value),
    Placed place l m → fillA T z m = some c → cells.size = z.size → RR ρ z cells 0 →
    ∃ cells', Instr.fill place cells (l.map fun (i, x) => (i, a.eval x)) = some cells' ∧ cells'.size = c.size ∧ RR ρ c cells' 0
  | [], [], z, c, cells, _, h, hs, hr => by
    simp only [fillA, Option.some.injEq] at h; subst h
    exact ⟨cells, rfl, hs, hr⟩
  | [], _ :: _, _, _, _, h, _, _, _ => h.elim
  | _ :: _, [], _, _, _, h, _, _, _ => h.elim
  | (i, x) :: l, (p, s, y) :: m, z, c, cells, hp, h, hs, hr => by
    obtain ⟨h1, rfl, h3⟩ := hp
    simp only [fillA] at h
    split at h
    · rename_i v hv
      split at h
      · rename_i d hd
        split at h
        · rename_i hz
          simp only [Bool.and_eq_true, decide_eq_true_eq] at hz
          obtain ⟨e1, e2⟩ := RR.cells (aev_sound ht hv) hd
          have hput : RR ρ (putAll z p d) (((a.eval x).cells.zipIdx.foldl (fun cs (c, j) => cs.setIfInBounds (p + j) c) cells)) 0 := by
            refine RR.put' hr e2 e1 (by omega) fun q => ?_
            rw [← Array.foldl_toList, Array.toList_zipIdx]
            have := fold_set p (a.eval x).cells.toList 0 cells q (by simp; omega)
            simp only [Nat.add_zero, Nat.zero_add, Array.length_toList, Array.getElem?_toList] at this ⊢
            exact this
          have hsz : ((a.eval x).cells.zipIdx.foldl (fun cs (c, j) => cs.setIfInBounds (p + j) c) cells).size = (putAll z p d).size := by
            rw [← Array.foldl_toList, Array.toList_zipIdx, size_putAll z p d (by omega)]
            have := fold_size p (a.eval x).cells.toList 0 cells
            rw [← hs]
            exact this
          obtain ⟨cells', g1, g2, g3⟩ := fill_sound ht place l m _ c _ h3 h hsz hput
          refine ⟨cells', ?_, g2, g3⟩
          simp only [List.map_cons, Instr.fill, h1]
          rw [if_neg]
          · exact g1
          · simp; omega
        · cases h
      · cases h
    · cases h

theorem partsP_placed (places : List (Nat × Nat)) : ∀ (l : List (Nat × Operand)) (m : List (Nat × Nat × Operand)), partsP places l = some m → Placed (places.toArray[·]?) l m
  | [], m, h => by simp only [partsP, Option.some.injEq] at h; subst h; trivial
  | (i, x) :: l, m, h => by
    simp only [partsP] at h
    split at h
    · rename_i p s hp
      split at h
      · rename_i r hr
        simp only [Option.some.injEq] at h; subst h
        exact ⟨by simpa using hp, rfl, partsP_placed places l r hr⟩
      · cases h
    · cases h

theorem partsA_placed (s : Nat) : ∀ (l : List (Nat × Operand)), Placed (fun i => some (i * s, s)) l (partsA s l)
  | [] => trivial
  | _ :: l => ⟨rfl, rfl, partsA_placed s l⟩

theorem op_build (hE : EnvOK P E) {t : TypeId} {ps : Array (Nat × Operand)} {z : Rope AVal} {l : List (Nat × Nat × Operand)} (ht : TR ρ T a.tmps) (hw : WR K ρ H w) (ho : o.op = .build t ps)
    (hc : comp P E (.build t ps) = some (.build z l)) (he : aop E T H (.build z l) = some (out, H')) : OutS P ρ H w (execOp a.eval o) out H' := by
  simp only [aop] at he
  split at he
  · rename_i c hf
    have key : ∃ cells, P.built t (ps.map fun (i, x) => (i, a.eval x)).toList = some cells ∧ cells.size = c.size ∧ RR ρ c cells 0 := by
      have hmap : (ps.map fun (i, x) => (i, a.eval x)).toList = ps.toList.map fun (i, x) => (i, a.eval x) := by simp
      simp only [comp] at hc
      split at hc
      · rename_i z' fs hz hu
        split at hc
        · rename_i places hp
          split at hc
          · rename_i m hm
            simp only [Option.some.injEq, AOp.build.injEq] at hc
            obtain ⟨rfl, rfl⟩ := hc
            obtain ⟨i, v, h1, h2, h3, h4, h5, _⟩ := hE.zro t _ hz
            obtain ⟨cells, g1, g2, g3⟩ := fill_sound (a := a) ht _ _ _ _ c _ (partsP_placed places ps.toList _ hm) hf h4 (h5 ρ)
            refine ⟨cells, ?_, g2, g3⟩
            simp only [Program.built, h1, hu, h2, hp, hmap]
            exact g1
          · cases hc
        · cases hc
      · rename_i z' n e hz hu
        split at hc
        · rename_i s hs
          simp only [Option.some.injEq, AOp.build.injEq] at hc
          obtain ⟨rfl, rfl⟩ := hc
          obtain ⟨i, v, h1, h2, h3, h4, h5, _⟩ := hE.zro t _ hz
          obtain ⟨cells, g1, g2, g3⟩ := fill_sound (a := a) ht _ _ _ _ c _ (partsA_placed s ps.toList) hf h4 (h5 ρ)
          refine ⟨cells, ?_, g2, g3⟩
          cases hi : P.info? e with
          | none => simp [csize, hi] at hs
          | some ie =>
            simp only [csize, hi, Option.map_some, Option.some.injEq] at hs
            subst hs
            simp only [Program.built, h1, hu, h2, hi, hmap]
            exact g1
        · cases hc
      · cases hc
    obtain ⟨cells, k1, k2, k3⟩ := key
    refine OutR.same hw ?_ (RR.agg k2 k3) he
    have hrun := run_build (P := P) w t _ cells k1
    have hexec : (execOp a.eval o).run P w = ((Instr.build t (ps.map fun (i, x) => (i, a.eval x))).run P w).andThen fun v w' => .ok (.value v) w' := by
      unfold execOp
      rw [ho]
      exact Sem.run_bind P w _ _
    rw [hexec, hrun]
    rfl
  · cases he

theorem size_tile (z : Rope AVal) : ∀ n, (tile z n).size = n * z.size
  | 0 => by simp [tile, Rope.size]
  | n + 1 => by simp only [tile, Rope.size_cat, size_tile z n]; rw [Nat.succ_mul]

theorem get_tile (z : Rope AVal) : ∀ n i, i < n * z.size → (tile z n).get i = z.get (i % z.size)
  | 0, i, h => by omega
  | n + 1, i, h => by
    simp only [tile, Rope.get_cat, size_tile]
    by_cases h1 : i < n * z.size
    · rw [if_pos h1, get_tile z n i h1]
    · rw [if_neg h1]
      rw [Nat.succ_mul] at h
      have : i % z.size = i - n * z.size := by
        have e : i = (i - n * z.size) + n * z.size := by omega
        rw [e, Nat.add_mul_mod_self_right, Nat.mod_eq_of_lt (by omega)]
        omega
      rw [this]

theorem size_tileN (z : Rope AVal) (n : Nat) : (tileN z n).size = n * z.size := by
  unfold tileN
  split
  · simp [Rope.size]
  · exact size_tile z n

theorem get_tileN (z : Rope AVal) (n i : Nat) (h : i < n * z.size) : (tileN z n).get i = z.get (i % z.size) := by
  unfold tileN
  split
  · simp [Rope.size] at h
    simp [Rope.get, Rope.size, h, Nat.mod_one]
  · exact get_tile z n i h

/-- So many zero elements. -/
theorem RR.tiles {z : Rope AVal} {v : Array Value} (hs : v.size = z.size) (hr : RR ρ z v 0) (n : Nat) (r : Rope AVal) (hz : r.size = n * z.size) (hg : ∀ i, i < n * z.size → r.get i = z.get (i % z.size)) (m : Nat) (hm : m = n * z.size) :
    RR ρ r ((Array.range m).map (v[· % v.size]!)) 0 := by
  intro i hi
  subst hm
  rw [hz] at hi
  have hz0 : 0 < z.size := by
    rcases Nat.eq_zero_or_pos z.size with h | h
    · rw [h] at hi; omega
    · exact h
  have hm : i % z.size < z.size := Nat.mod_lt _ hz0
  obtain ⟨x, u, x1, x2, x3, x4⟩ := hr (i % z.size) hm
  refine ⟨x, u, by rw [hg i hi]; exact x1, x2, ?_, x4⟩
  rw [Nat.zero_add] at x3
  rw [Nat.zero_add, Array.getElem?_map, Array.getElem?_range, if_pos hi, Option.map_some, hs]
  have : i % z.size < v.size := by omega
  simp only [getElem!_pos v (i % z.size) this]
  simpa [this] using x3

theorem op_bsl (hE : EnvOK P E) {t e : TypeId} {n s : Nat} {ps : Array (Nat × Operand)} {z : Rope AVal} (ht : TR ρ T a.tmps) (hw : WR K ρ H w) (ho : o.op = .buildSlice t n ps)
    (hu : P.underlying t = some (.slice e)) (hz : E.zro e = some z) (hs : csize P e = some s) (h1 : z.size = s) (h2 : n * s ≤ 2 ^ 24)
    (he : aop E T H (.bsl n (tile z n) (partsA s ps.toList)) = some (out, H')) : OutR P E K ρ H w (execOp a.eval o) out H' := by
  simp only [aop] at he
  split at he
  · rename_i c hf
    obtain ⟨i, v, g1, g2, g3, g4, g5, _⟩ := hE.zro e z hz
    have hle : ¬ (n * s > 2 ^ 24) := by omega
    have fin : ∀ zc : Array Value, ((Array.range (n * s)).map (zc[· % zc.size]!)).size = (tile z n).size → RR ρ (tile z n) ((Array.range (n * s)).map (zc[· % zc.size]!)) 0 →
        ((∀ cells, Instr.fill (fun i => some (i * s, s)) ((Array.range (n * s)).map (zc[· % zc.size]!)) (List.map (fun x => (x.fst, a.eval x.snd)) ps.toList) = some cells →
          (execOp a.eval o).run P w = ((newRow e cells).run P w).andThen fun r w' => .ok (.value (.slice (some r) n n)) w')) → OutR P E K ρ H w (execOp a.eval o) out H' := by
      intro zc k2 k3 hrun
      obtain ⟨cells, f1, f2, f3⟩ := fill_sound (a := a) ht _ _ _ _ c _ (partsA_placed s ps.toList) hf k2 k3
      obtain ⟨ρ', hr, hn, hp⟩ := hw.rowNew (P := P) e f2 f3
      refine OutR.post ?_ (.slice hn) hp he
      rw [hrun cells f1, hr]
      rfl
    by_cases hn : n * s = 0
    · refine fin #[] (by simp [size_tile, h1]) (fun i hi => ?_) fun cells hf => ?_
      · rw [size_tile, h1, hn] at hi; omega
      · simp only [execOp, ho, Instr.buildSlice, Sem.run_bind, run_und hu, Result.andThen_ok, run_size hs, if_neg hle, if_pos hn, Sem.run_pure, Array.toList_map, hf]
        cases (newRow e cells).run P w <;> rfl
    · refine fin v.cells (by simp [size_tile, h1]) (RR.tiles g4 (g5 ρ) n (tile z n) (size_tile z n) (fun i hi => get_tile z n i hi) _ (by rw [h1])) fun cells hf => ?_
      simp only [execOp, ho, Instr.buildSlice, Sem.run_bind, run_und hu, Result.andThen_ok, run_size hs, if_neg hle, if_neg hn, Sem.run_pure, Array.toList_map, run_zero g1 g2, hf]
      cases (newRow e cells).run P w <;> rfl
  · cases he

theorem op_mks (hE : EnvOK P E) {t e : TypeId} {i : TypeInfo} {l c : Operand} {z : Rope AVal} (ht : TR ρ T a.tmps) (hw : WR K ρ H w) (ho : o.op = .makeSlice t l c)
    (hu : P.underlying t = some (.slice e)) (hz : E.zro e = some z) (hi : P.info? e = some i) (h1 : z.size = i.size)
    (he : aop E T H (.mks i.bytes z l c) = some (out, H')) : OutR P E K ρ H w (execOp a.eval o) out H' := by
  simp only [aop] at he
  split at he
  · rename_i p q hl hc
    split at he
    · rename_i hb
      simp only [Bool.and_eq_true, decide_eq_true_eq] at hb
      obtain ⟨⟨⟨b1, b2⟩, b3⟩, b4⟩ := hb
      obtain ⟨i', v, g1, g2, g3, g4, g5, _⟩ := hE.zro e z hz
      rw [hi] at g1; cases g1
      have hq : IntKind.i64.wrap q = q := by unfold IntKind.wrap; simp [IntKind.bits, IntKind.signed]; omega
      have hp : IntKind.i64.wrap p = p := by unfold IntKind.wrap; simp [IntKind.bits, IntKind.signed]; omega
      have hbytes : ¬ ((i.bytes : Int) * q > 2 ^ 48) := by
        have : ((i.bytes * q.toNat : Nat) : Int) ≤ 2 ^ 40 := by exact_mod_cast b3
        rw [Int.natCast_mul, Int.toNat_of_nonneg (by omega)] at this
        omega
      have hq0 : ¬ (q < 0) := by omega
      have hp0 : ¬ (p < 0) := by omega
      have hpq : ¬ (p > q) := by omega
      have fin : ∀ zc : Array Value, ((Array.range (q.toNat * i.size)).map (zc[· % zc.size]!)).size = (tileN z q.toNat).size → RR ρ (tileN z q.toNat) ((Array.range (q.toNat * i.size)).map (zc[· % zc.size]!)) 0 →
          (execOp a.eval o).run P w = ((newRow e ((Array.range (q.toNat * i.size)).map (zc[· % zc.size]!))).run P w).andThen (fun r w' => .ok (.value (.slice (some r) p.toNat q.toNat)) w') → OutR P E K ρ H w (execOp a.eval o) out H' := by
        intro zc k2 k3 hrun
        obtain ⟨ρ', hr, hn, hp⟩ := hw.rowNew (P := P) e k2 k3
        refine OutR.post ?_ (.slice hn) hp he
        rw [hrun, hr]
        rfl
      by_cases hn : q.toNat * i.size = 0
      · refine fin #[] (by simp [size_tileN, h1]) (fun i hi => ?_) ?_
        · rw [size_tileN, h1, hn] at hi; omega
        · simp only [execOp, ho, Instr.makeSlice, Sem.run_bind, run_und hu, Result.andThen_ok, (aev_sound ht hl).int_inv, (aev_sound ht hc).int_inv, asInt, asIntOf, Sem.run_pure, run_info hi, hq, hp,
            decide_eq_false hq0, decide_eq_false hp0, decide_eq_false hpq, decide_eq_false hbytes, Bool.or_false, Bool.false_eq_true, if_false, run_askRoom, run_size (show csize P e = some i.size by simp [csize, hi]), if_pos hn]
          cases (newRow e _).run P w <;> rfl
      · refine fin v.cells (by simp [size_tileN, h1]) (RR.tiles g4 (g5 ρ) q.toNat (tileN z q.toNat) (size_tileN z _) (fun i hi => get_tileN z _ i hi) _ (by rw [h1])) ?_
        simp only [execOp, ho, Instr.makeSlice, Sem.run_bind, run_und hu, Result.andThen_ok, (aev_sound ht hl).int_inv, (aev_sound ht hc).int_inv, asInt, asIntOf, Sem.run_pure, run_info hi, hq, hp,
          decide_eq_false hq0, decide_eq_false hp0, decide_eq_false hpq, decide_eq_false hbytes, Bool.or_false, Bool.false_eq_true, if_false, run_askRoom, run_size (show csize P e = some i.size by simp [csize, hi]), if_neg hn, run_zero hi g2]
        cases (newRow e _).run P w <;> rfl
    · cases he
  · cases he
end
end Go.Sim
