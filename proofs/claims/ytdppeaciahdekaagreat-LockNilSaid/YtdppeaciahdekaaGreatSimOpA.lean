/- Operations that read and write the cells of blocks. -/
import Derived.Test.YtdppeaciahdekaaGreatSimOp
namespace Go.Sim

theorem size_over (r : Rope AVal) (o : Nat) (c : Rope AVal) : ∀ n, (∀ k, k < n → o + k < r.size) → (over r o c n).size = r.size
  | 0, _ => rfl
  | n + 1, h => by
    simp only [over]
    have ih := size_over r o c n fun k hk => h k (by omega)
    split
    · rw [Rope.size_set (by rw [ih]; exact h n (by omega)), ih]
    · exact ih

theorem get_over (r : Rope AVal) (o : Nat) (c : Rope AVal) : ∀ n j, (∀ k, k < n → (r.get (o + k)).isSome) → (∀ k, k < n → (c.get k).isSome) →
    (over r o c n).get j = if o ≤ j ∧ j < o + n then c.get (j - o) else r.get j
  | 0, j, _, _ => by simp only [over]; rw [if_neg (by omega)]
  | n + 1, j, h, hc => by
    simp only [over]
    have ih := fun j => get_over r o c n j (fun k hk => h k (by omega)) (fun k hk => hc k (by omega))
    obtain ⟨x, hx⟩ := Option.isSome_iff_exists.1 (hc n (by omega))
    rw [hx]
    have hs : ((over r o c n).get (o + n)).isSome := by
      rw [ih, if_neg (by omega)]; exact h n (by omega)
    simp only [Rope.get_set hs]
    by_cases e : j = o + n
    · subst e; simp [hx]
    · simp only [e, if_false, ih]
      by_cases h1 : o ≤ j ∧ j < o + n
      · rw [if_pos h1, if_pos (by omega)]
      · rw [if_neg h1, if_neg (by omega)]

theorem size_putAll (r : Rope AVal) (o : Nat) (c : Rope AVal) (h : o + c.size ≤ r.size) : (putAll r o c).size = r.size := by
  unfold putAll
  split
  · rename_i e; simp at e; exact e.2
  · exact size_over r o c _ fun k hk => by omega

/-- Cells put over a row. -/
theorem RR.put' {ρ : Ren} {r c : Rope AVal} {cur cs new : Array Value} {p o : Nat} (h : RR ρ r cur p) (hc : RR ρ c cs 0) (hs : cs.size = c.size) (ho : o + c.size ≤ r.size)
    (hv : ∀ q, new[q]? = if p + o ≤ q ∧ q < p + o + cs.size then cs[q - (p + o)]? else cur[q]?) : RR ρ (putAll r o c) new p := by
  intro j hj
  rw [size_putAll r o c ho] at hj
  have hget : (putAll r o c).get j = if o ≤ j ∧ j < o + c.size then c.get (j - o) else r.get j := by
    unfold putAll
    split
    · rename_i e; simp at e
      obtain ⟨e1, e2⟩ := e
      subst e1
      rw [if_pos (by omega)]; rfl
    · exact get_over r o c c.size j (fun k hk => h.full _ (by omega)) (fun k hk => hc.full _ hk)
  rw [hget, hv]
  by_cases h1 : o ≤ j ∧ j < o + c.size
  · rw [if_pos h1, if_pos (by omega)]
    obtain ⟨x, v, x1, x2, x3, x4⟩ := hc (j - o) (by omega)
    exact ⟨x, v, x1, x2, by rw [show p + j - (p + o) = 0 + (j - o) from by omega]; exact x3, x4⟩
  · rw [if_neg h1, if_neg (by omega)]
    exact h j hj

theorem RR.put {ρ : Ren} {r c : Rope AVal} {cur cs : Array Value} {p o : Nat} (h : RR ρ r cur p) (hc : RR ρ c cs 0) (hs : cs.size = c.size) (ho : o + c.size ≤ r.size) (hz : p + r.size ≤ cur.size) :
    RR ρ (putAll r o c) (cur.toList.take (p + o) ++ cs.toList ++ cur.toList.drop (p + o + cs.toList.length)).toArray p := by
  refine RR.put' h hc hs ho fun q => ?_
  have hl : (cur.toList.take (p + o)).length = p + o := by simp; omega
  simp only [List.getElem?_toArray, List.append_assoc, List.getElem?_append, hl]
  by_cases h1 : q < p + o
  · rw [if_pos h1, if_neg (by omega)]; simp [h1]
  · rw [if_neg h1]
    by_cases h2 : q - (p + o) < cs.toList.length
    · rw [if_pos h2, if_pos (by simp at h2; omega)]; simp
    · rw [if_neg h2, if_neg (by simp at h2; omega)]
      rw [List.getElem?_drop]
      simp at h2
      rw [show p + o + cs.toList.length + (q - (p + o) - cs.toList.length) = q from by simp; omega]
      simp

theorem RR.oneCells {ρ : Ren} {c : Rope AVal} {cs : Array Value} (hc : RR ρ c cs 0) (hs : cs.size = c.size) : ∀ v ∈ cs.toList, v.oneCell' = true := by
  intro v hv
  obtain ⟨i, hi, rfl⟩ := List.getElem_of_mem hv
  obtain ⟨x, u, x1, x2, x3, x4⟩ := hc i (by simp at hi; omega)
  simp at hi
  simp [hi] at x3
  simp [x3]
  exact x4.one x2

/-- Cells are stored into a row. -/
theorem WR.store {K : Nat → Prop} {ρ : Ren} {H H' : AHeap} {w : World} (h : WR K ρ H w) {i o : Nat} {c : Rope AVal} {cs : Array Value} (hst : hstore H i o c = some H')
    (hc : RR ρ c cs 0) (hs : cs.size = c.size) {l : Loc} (hl : ρ i = some l) (P : Program) :
    ∃ w', (storeCells ⟨l.blk, l.off + o, none⟩ cs.toList).run P w = .ok () w' ∧ Post K ρ w ρ H' w' := by
  unfold hstore at hst
  split at hst
  · rename_i r g hb
    split at hst
    · rename_i ho
      simp only [Option.some.injEq] at hst; subst hst
      obtain ⟨cur, t, h1, h2, h3, h4, h5⟩ := h.row hb hl
      have hrun := run_storeCells_at P l.blk (l.off + o) t cs.toList 0 cur w h1 (by simp; omega) (hc.oneCells hs)
      refine ⟨_, hrun, ?_⟩
      refine h.set hb hl rfl (setRow_heap w l.blk cur _ t (0, 0) h1) (fun k hk => setRow_other w l.blk k _ hk) (by simp) ?_ rfl rfl
      refine .cells ?_ h3 ?_
      · rw [size_putAll r o c ho]; simp; omega
      · simpa using RR.put h4 hc hs ho (by omega)
    · cases hst
  · cases hst

section
variable {P : Program} {E : EnvD} {K : Nat → Prop} {ρ : Ren} {H H' : AHeap} {w : World} {T : Tmps} {a : Act} {out : AOut} {o : Oper}

theorem op_mov {x : Operand} (ht : TR ρ T a.tmps) (hw : WR K ρ H w) (ho : o.op = .move x ∨ o.op = .assign x) (he : aop E T H (.mov x) = some (out, H')) :
    OutS P ρ H w (execOp a.eval o) out H' := by
  simp only [aop] at he
  split at he
  · rename_i v hv
    refine OutR.same hw ?_ (aev_sound ht hv) he
    rcases ho with ho | ho <;> simp [execOp, ho]
  · cases he

theorem op_pick {c x y : Operand} (ht : TR ρ T a.tmps) (hw : WR K ρ H w) (ho : o.op = .pick c x y) (he : aop E T H (.pick c x y) = some (out, H')) :
    OutS P ρ H w (execOp a.eval o) out H' := by
  simp only [aop] at he
  split at he
  · rename_i hc
    split at he
    · rename_i v hv
      split at he
      · refine OutR.same hw ?_ (aev_sound ht hv) he
        simp [execOp, ho, (aev_sound ht hc).bool_inv, asBool]
      · cases he
    · cases he
  · rename_i hc
    split at he
    · rename_i v hv
      split at he
      · refine OutR.same hw ?_ (aev_sound ht hv) he
        simp [execOp, ho, (aev_sound ht hc).bool_inv, asBool]
      · cases he
    · cases he
  · cases he

/-- A new row whose cells are known. -/
theorem WR.rowNew (hw : WR K ρ H w) {c : Rope AVal} {cs : Array Value} (e : TypeId) (hs : cs.size = c.size) (hc : RR ρ c cs 0) :
    ∃ ρ', (newRow e cs).run P w = .ok ⟨w.heap.size, 0, none⟩ (w.alloc (.cells cs e)) ∧ ρ' H.next = some ⟨w.heap.size, 0, 0⟩ ∧ Post K ρ w ρ' (H.new (.cells c 0 true)) (w.alloc (.cells cs e)) := by
  have hb : BR ρ ⟨w.heap.size, 0, 0⟩ (.cells c 0 true) (.cells cs e (0, 0)) := .cells (by show 0 + c.size + 0 * 0 ≤ cs.size; omega) (fun _ => rfl) hc
  exact ⟨_, by simp [newRow], if_pos rfl, hw.new _ _ _ rfl hb⟩

theorem op_new {z : Rope AVal} {t : TypeId} (hE : EnvOK P E) (hw : WR K ρ H w) (ho : o.op = .alloc t) (hc : comp P E o.op = some (.new z)) (he : aop E T H (.new z) = some (out, H')) :
    OutR P E K ρ H w (execOp a.eval o) out H' := by
  rw [ho] at hc
  simp only [comp, Option.map_eq_some_iff, AOp.new.injEq] at hc
  obtain ⟨z', hz, rfl⟩ := hc
  obtain ⟨i, v, h1, h2, h3, h4, h5, _⟩ := hE.zro t z' hz
  obtain ⟨ρ', hr, hn, hp⟩ := hw.rowNew (P := P) t h4 (h5 ρ)
  simp only [aop] at he
  refine OutR.post ?_ (.ptr hn) hp he
  simp only [execOp, ho, Instr.alloc, Sem.run_bind, run_zero h1 h2, Result.andThen_ok, newVar, hr, Sem.run_pure]

theorem op_box {x : Operand} {t : TypeId} (ht : TR ρ T a.tmps) (hw : WR K ρ H w) (ho : o.op = .box t x) (he : aop E T H (.box x) = some (out, H')) :
    OutR P E K ρ H w (execOp a.eval o) out H' := by
  simp only [aop] at he
  split at he
  · rename_i v hv
    split at he
    · rename_i c hc
      obtain ⟨hs, hr⟩ := RR.cells (aev_sound ht hv) hc
      obtain ⟨ρ', hrun, hn, hp⟩ := hw.rowNew (P := P) t hs hr
      refine OutR.post ?_ (.ptr hn) hp he
      simp only [execOp, ho, Instr.box, Sem.run_bind, Result.andThen_ok, newVar, hrun, Sem.run_pure]
    · cases he
  · cases he

theorem op_ldc {x : Operand} {t : TypeId} (ht : TR ρ T a.tmps) (hw : WR K ρ H w) (ho : o.op = .load t x) (hg : isAggT P t = some false) (he : aop E T H (.ldc x) = some (out, H')) :
    OutS P ρ H w (execOp a.eval o) out H' := by
  simp only [aop] at he
  split at he
  · rename_i i p hv
    split at he
    · rename_i v hl
      obtain ⟨l, h1, h2⟩ := (aev_sound ht hv).ptr_inv
      obtain ⟨u, h3, h4⟩ := hw.cell hl h1
      refine OutR.same hw ?_ h4 he
      simp [execOp, ho, h2, Instr.loadAt, Instr.sureAddr, loadVar, run_agg hg, h3]
    · cases he
  · cases he

theorem op_ldr {x : Operand} {t : TypeId} {n : Nat} (ht : TR ρ T a.tmps) (hw : WR K ρ H w) (ho : o.op = .load t x) (hg : isAggT P t = some true) (hn : csize P t = some n) (he : aop E T H (.ldr n x) = some (out, H')) :
    OutS P ρ H w (execOp a.eval o) out H' := by
  simp only [aop] at he
  split at he
  · rename_i i p hv
    split at he
    · rename_i c hl
      obtain ⟨l, h1, h2⟩ := (aev_sound ht hv).ptr_inv
      obtain ⟨cs, h3, h4, h5, h6⟩ := hw.loadN hl h1 P
      refine OutR.same hw ?_ (RR.agg (by omega) h6) he
      simp [execOp, ho, h2, Instr.loadAt, Instr.sureAddr, loadVar, run_agg hg, run_size hn, h3]
    · cases he
  · cases he

theorem op_sto {x y : Operand} {t : TypeId} {n : Nat} (ht : TR ρ T a.tmps) (hw : WR K ρ H w) (ho : o.op = .store t x y) (hn : csize P t = some n) (he : aop E T H (.sto n x y) = some (out, H')) :
    OutR P E K ρ H w (execOp a.eval o) out H' := by
  simp only [aop] at he
  split at he
  · rename_i i p v hx hy
    split at he
    · rename_i c hc
      split at he
      · rename_i hcn
        split at he
        · rename_i H1 hst
          obtain ⟨l, h1, h2⟩ := (aev_sound ht hx).ptr_inv
          obtain ⟨hs, hr⟩ := RR.cells (aev_sound ht hy) hc
          obtain ⟨w', h3, h4⟩ := hw.store hst hr hs h1 P
          refine OutR.skip ?_ h4 he
          simp [execOp, ho, h2, Instr.storeAt, Instr.sureAddr, storeVar, run_size hn, h3, hs, hcn]
        · cases he
      · cases he
    · cases he
  · cases he

theorem op_nilc {x : Operand} (ht : TR ρ T a.tmps) (hw : WR K ρ H w) (ho : o.op = .nilCheck x) (he : aop E T H (.nilc x) = some (out, H')) :
    OutS P ρ H w (execOp a.eval o) out H' := by
  simp only [aop] at he
  split at he
  · rename_i p hx
    obtain ⟨i, q⟩ := p
    obtain ⟨l, h1, h2⟩ := (aev_sound ht hx).ptr_inv
    refine OutR.same hw ?_ (.ptr h1) he
    simp [execOp, ho, h2]
  · rename_i f p q hx
    obtain ⟨p', q', h1, h2, h3⟩ := (aev_sound ht hx).func_inv
    refine OutR.same hw ?_ (.func h2.1 h3.1 h2.2 h3.2) he
    simp [execOp, ho, h1]
  · rename_i t v hx
    obtain ⟨u, h1, h2⟩ := (aev_sound ht hx).iface_inv
    refine OutR.same hw ?_ (.iface t h2) he
    simp [execOp, ho, h1]
  · cases he

theorem op_una {x : Operand} {op : UnOp} {t : TypeId} (ht : TR ρ T a.tmps) (hw : WR K ρ H w) (ho : o.op = .unOp op t x) (he : aop E T H (.una op x) = some (out, H')) :
    OutS P ρ H w (execOp a.eval o) out H' := by
  simp only [aop] at he
  split at he
  · rename_i v hx
    split at he
    · rename_i u hu
      have hv := aev_sound ht hx
      unfold aun at hu
      split at hu <;> simp only [Option.some.injEq, reduceCtorEq] at hu <;> subst hu
      · refine OutR.same hw ?_ (.int _ _) he
        simp [execOp, ho, hv.int_inv, Op.unary, Op.intArith]
      · refine OutR.same hw ?_ (.int _ _) he
        simp [execOp, ho, hv.int_inv, Op.unary, Op.intBits]
      · refine OutR.same hw ?_ (.bool _) he
        simp [execOp, ho, hv.bool_inv, Op.unary]
    · cases he
  · cases he

theorem op_cvt {x : Operand} {s t : TypeId} {k j : IntKind} (ht : TR ρ T a.tmps) (hw : WR K ρ H w) (ho : o.op = .convert s t x) (h1 : P.underlying s = some (.int j)) (h2 : P.underlying t = some (.int k))
    (he : aop E T H (.cvt k x) = some (out, H')) : OutS P ρ H w (execOp a.eval o) out H' := by
  simp only [aop] at he
  split at he
  · rename_i k' n hx
    refine OutR.same hw ?_ (.int _ _) he
    simp [execOp, ho, (aev_sound ht hx).int_inv, convert, run_und h1, run_und h2, Conv.intToInt]
  · cases he

theorem op_mki {x : Operand} {t : TypeId} {d : TypeDesc} (ht : TR ρ T a.tmps) (hw : WR K ρ H w) (ho : o.op = .makeInterface t x) (h1 : P.underlying t = some d) (h2 : ∀ m, d ≠ .interface m)
    (he : aop E T H (.mki t x) = some (out, H')) : OutS P ρ H w (execOp a.eval o) out H' := by
  simp only [aop] at he
  split at he
  · rename_i v hx
    refine OutR.same hw ?_ (.iface t (aev_sound ht hx)) he
    simp only [execOp, ho, Instr.makeInterface, Sem.run_bind, run_und h1, Result.andThen_ok]
    cases d <;> first | rfl | exact absurd rfl (h2 _)
  · cases he

theorem op_mkf {fn : Fn} {x y : Array Operand} (ht : TR ρ T a.tmps) (hw : WR K ρ H w) (ho : o.op = .makeFunc fn x y) (he : aop E T H (.mkf fn x.toList y.toList) = some (out, H')) :
    OutS P ρ H w (execOp a.eval o) out H' := by
  simp only [aop] at he
  split at he
  · rename_i p q hx hy
    have h1 := aevs_sound' ht hx
    have h2 := aevs_sound' ht hy
    refine OutR.same hw ?_ (.func h1.1 h2.1 h1.2 h2.2) he
    simp [execOp, ho, Instr.makeFunc]
  · cases he

theorem op_mkm {t : TypeId} (hw : WR K ρ H w) (ho : o.op = .makeMap t none) (he : aop E T H .mkm = some (out, H')) : OutR P E K ρ H w (execOp a.eval o) out H' := by
  simp only [aop] at he
  have hp := hw.new (.map []) (.map #[] 0) ⟨w.heap.size, 0, 0⟩ rfl (.map rfl (by intro i e e' h; simp at h))
  refine OutR.post (v := .map (some w.heap.size)) ?_ (.map (l := ⟨w.heap.size, 0, 0⟩) (by simp)) hp he
  simp [execOp, ho, Instr.makeMap]

theorem op_fa {x : Operand} {s : TypeId} {f : Nat} {fs : Array Field} {fd : Field} {n : Nat} (ht : TR ρ T a.tmps) (hw : WR K ρ H w) (ho : o.op = .fieldAddr s x f) (h1 : P.underlying s = some (.struct fs)) (h2 : fs[f]? = some fd)
    (h3 : csize P fd.type = some (n + 1)) (he : aop E T H (.fa fd.offset x) = some (out, H')) : OutS P ρ H w (execOp a.eval o) out H' := by
  simp only [aop] at he
  split at he
  · rename_i i p hx
    obtain ⟨l, e1, e2⟩ := (aev_sound ht hx).ptr_inv
    refine OutR.same hw ?_ (.ptr e1) he
    have : (⟨l.blk, l.off + p, none⟩ : Addr).add fd.offset = ⟨l.blk, l.off + (p + fd.offset), none⟩ := by
      unfold Addr.add; split <;> simp_all [Nat.add_assoc]
    simp [execOp, ho, Instr.fieldAt, run_und h1, h2, Instr.sureAddr, e2, fieldPlace, run_size h3, this]
  · cases he

theorem run_part {t : TypeId} {g : Bool} {s off : Nat} {cs : Array Value} {r : Rope AVal} (hg : isAggT P t = some g) (hs : csize P t = some s) (hz : cs.size = r.size) (hr : RR ρ r cs 0)
    {y : AVal} (h : (if g then (if off + s ≤ r.size then some (.agg (r.ext off s)) else none) else r.get off) = some y) : ∃ v, (part t cs off).run P w = .ok v w ∧ VR ρ y v := by
  cases g with
  | true =>
    simp only [if_true] at h
    split at h
    · rename_i hn
      simp only [Option.some.injEq] at h; subst h
      obtain ⟨e1, e2⟩ := hr.ext off s hn
      refine ⟨.agg (cs.extract off (off + s)), by simp [part, run_agg hg, run_size hs], RR.agg (by simp; omega) fun i hi => ?_⟩
      obtain ⟨x, v, x1, x2, x3, x4⟩ := e2 i hi
      refine ⟨x, v, x1, x2, ?_, x4⟩
      rw [e1] at hi
      rw [Array.getElem?_extract, if_pos (by omega)]
      simpa using x3
    · cases h
  | false =>
    simp only [Bool.false_eq_true, if_false] at h
    obtain ⟨x, v, x1, x2, x3, x4⟩ := hr off (Rope.get_lt h)
    rw [h] at x1; cases x1
    refine ⟨v, ?_, x4⟩
    rw [Nat.zero_add] at x3
    simp [part, run_agg hg, x3]

theorem op_fld {x : Operand} {t : TypeId} {f : Nat} {fs : Array Field} {fd : Field} {g : Bool} {s : Nat} (ht : TR ρ T a.tmps) (hw : WR K ρ H w) (ho : o.op = .field t x f) (h1 : P.underlying t = some (.struct fs)) (h2 : fs[f]? = some fd)
    (hg : isAggT P fd.type = some g) (hs : csize P fd.type = some s) (he : aop E T H (.fld g fd.offset s x) = some (out, H')) : OutS P ρ H w (execOp a.eval o) out H' := by
  simp only [aop] at he
  split at he
  · rename_i r hx
    obtain ⟨cs, e1, e2, e3⟩ := (aev_sound ht hx).agg_inv
    have key : ∀ y, (if g then (if fd.offset + s ≤ r.size then some (AVal.agg (r.ext fd.offset s)) else none) else r.get fd.offset) = some y → ret y H = some (out, H') → OutS P ρ H w (execOp a.eval o) out H' := by
      intro y hy hr
      obtain ⟨v, h3, h4⟩ := run_part (P := P) (w := w) hg hs e2 e3 hy
      refine OutR.same hw ?_ h4 hr
      simp [execOp, ho, Instr.field, run_und h1, h2, e1, asAgg, h3]
    cases g with
    | true =>
      simp only [if_true] at he
      split at he
      · rename_i hn; exact key _ (by simp [hn]) he
      · cases he
    | false =>
      simp only [Bool.false_eq_true, if_false] at he
      split at he
      · rename_i v hv; exact key _ (by simp [hv]) he
      · cases he
  · cases he

theorem anat_inv {x : AVal} {n : Nat} {v : Value} (hv : VR ρ x v) (h : anat x = some n) : ∃ k, v = .int k n := by
  unfold anat at h
  split at h
  · rename_i k m
    split at h
    · rename_i h0
      simp only [Option.some.injEq] at h; subst h
      refine ⟨k, ?_⟩
      rw [hv.int_inv, Int.toNat_of_nonneg h0]
    · cases h
  · cases h

theorem op_iaa {x i : Operand} {t e : TypeId} {n s : Nat} (ht : TR ρ T a.tmps) (hw : WR K ρ H w) (ho : o.op = .indexAddr t x i) (h1 : P.underlying t = some (.array n e)) (h2 : csize P e = some s)
    (he : aop E T H (.iaa n s x i) = some (out, H')) : OutS P ρ H w (execOp a.eval o) out H' := by
  simp only [aop] at he
  split at he
  · rename_i b p v hx hi
    split at he
    · rename_i k hk
      split at he
      · rename_i hlt
        obtain ⟨l, e1, e2⟩ := (aev_sound ht hx).ptr_inv
        obtain ⟨kk, e3⟩ := anat_inv (aev_sound ht hi) hk
        refine OutR.same hw ?_ (.ptr e1) he
        have : (⟨l.blk, l.off + p, none⟩ : Addr).add (k * s) = ⟨l.blk, l.off + (p + k * s), none⟩ := by
          unfold Addr.add; split <;> simp_all [Nat.add_assoc]
        simp [execOp, ho, Instr.indexAt, run_und h1, run_size h2, Instr.sureAddr, e2, e3, asIntOf, hlt, this]
      · cases he
    · cases he
  · cases he

theorem op_ias {x i : Operand} {t e : TypeId} {s : Nat} (ht : TR ρ T a.tmps) (hw : WR K ρ H w) (ho : o.op = .indexAddr t x i) (h1 : P.underlying t = some (.slice e)) (h2 : csize P e = some s)
    (he : aop E T H (.ias s x i) = some (out, H')) : OutS P ρ H w (execOp a.eval o) out H' := by
  simp only [aop] at he
  split at he
  · rename_i b p n c v hx hi
    split at he
    · rename_i k hk
      split at he
      · rename_i hlt
        obtain ⟨l, e1, e2⟩ := (aev_sound ht hx).slice_inv
        obtain ⟨kk, e3⟩ := anat_inv (aev_sound ht hi) hk
        refine OutR.same hw ?_ (.ptr e1) he
        have : (⟨l.blk, l.off + p, none⟩ : Addr).add (k * s) = ⟨l.blk, l.off + (p + k * s), none⟩ := by
          unfold Addr.add; split <;> simp_all [Nat.add_assoc]
        simp [execOp, ho, Instr.indexAt, run_und h1, run_size h2, e2, e3, asIntOf, hlt, this]
      · cases he
    · cases he
  · cases he

theorem op_ixa {x i : Operand} {t e : TypeId} {n s : Nat} {g : Bool} (ht : TR ρ T a.tmps) (hw : WR K ρ H w) (ho : o.op = .index t x i) (h1 : P.underlying t = some (.array n e)) (hg : isAggT P e = some g) (h2 : csize P e = some s)
    (he : aop E T H (.ixa n g s x i) = some (out, H')) : OutS P ρ H w (execOp a.eval o) out H' := by
  simp only [aop] at he
  split at he
  · rename_i r v hx hi
    split at he
    · rename_i k hk
      split at he
      · rename_i hlt
        obtain ⟨cs, e1, e2, e3⟩ := (aev_sound ht hx).agg_inv
        obtain ⟨kk, e4⟩ := anat_inv (aev_sound ht hi) hk
        have key : ∀ y, (if g then (if k * s + s ≤ r.size then some (AVal.agg (r.ext (k * s) s)) else none) else r.get (k * s)) = some y → ret y H = some (out, H') → OutS P ρ H w (execOp a.eval o) out H' := by
          intro y hy hr
          obtain ⟨v, h3, h4⟩ := run_part (P := P) (w := w) hg h2 e2 e3 hy
          refine OutR.same hw ?_ h4 hr
          simp [execOp, ho, Instr.index, run_und h1, run_size h2, e1, e4, asIntOf, hlt, h3]
        cases g with
        | true =>
          simp only [if_true] at he
          split at he
          · rename_i hn; exact key _ (by simp [hn]) he
          · cases he
        | false =>
          simp only [Bool.false_eq_true, if_false] at he
          split at he
          · rename_i v hv; exact key _ (by simp [hv]) he
          · cases he
      · cases he
    · cases he
  · cases he

theorem op_ixs {x i : Operand} {t : TypeId} (ht : TR ρ T a.tmps) (hw : WR K ρ H w) (ho : o.op = .index t x i) (h1 : P.underlying t = some .string) (he : aop E T H (.ixs x i) = some (out, H')) :
    OutS P ρ H w (execOp a.eval o) out H' := by
  simp only [aop] at he
  split at he
  · rename_i s v hx hi
    split at he
    · rename_i k hk
      split at he
      · rename_i b hb
        have e1 : a.eval x = .string s := by
          have := aev_sound ht hx
          generalize a.eval x = q at *
          cases this; rfl
        obtain ⟨kk, e4⟩ := anat_inv (aev_sound ht hi) hk
        refine OutR.same hw ?_ (.int _ _) he
        simp [execOp, ho, Instr.index, run_und h1, e1, e4, asIntOf, hb]
      · cases he
    · cases he
  · cases he

theorem op_ext {x : Operand} {i : Nat} (ht : TR ρ T a.tmps) (hw : WR K ρ H w) (ho : o.op = .extract x i) (he : aop E T H (.ext x i) = some (out, H')) :
    OutS P ρ H w (execOp a.eval o) out H' := by
  simp only [aop] at he
  split at he
  · rename_i l hx
    split at he
    · rename_i v hv
      obtain ⟨l', e1, e2⟩ := (aev_sound ht hx).tup_inv
      have hi : i < l'.size := by rw [e2.1]; exact (List.getElem?_eq_some_iff.1 hv).1
      refine OutR.same hw (v := l'[i]) ?_ (e2.2 i v _ hv (by simp [hi])) he
      simp [execOp, ho, e1, Instr.extract, hi]
    · cases he
  · cases he
end
end Go.Sim
