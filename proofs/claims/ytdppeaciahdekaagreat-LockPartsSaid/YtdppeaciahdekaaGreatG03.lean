/- A part of the proof that LockParts returns true for every input. No condition. -/
import Derived.Test.YtdppeaciahdekaaGreatG02
import Derived.Laws.StructEq
import Derived.Laws.Append
set_option linter.all false
section
namespace Go.Sim
variable [RO]
theorem size_over (r : Rope AVal) (o : Nat) (c : Rope AVal) : ∀ n, (∀ k, k < n → o + k < r.size) → (over r o c n).size = r.size
 | 0, _ => rfl
 | n + 1, h => by
  simp only [over]
  have ih := size_over r o c n fun k hk => h k (by omega)
  split
  ·rw [Rope.size_set (by rw [ih]; exact h n (by omega)), ih]
  ·exact ih
theorem get_over (r : Rope AVal) (o : Nat) (c : Rope AVal) : ∀ n j, (∀ k, k < n → (r.get (o + k)).isSome) → (∀ k, k < n → (c.get k).isSome) →
  (over r o c n).get j = if o ≤ j ∧ j < o + n then c.get (j - o) else r.get j
 | 0, j, _, _ => by simp only [over]; rw [if_neg (by omega)]
 | n + 1, j, h, hc => by
  simp only [over]
  have ih := fun j => get_over r o c n j (fun k hk => h k (by omega)) (fun k hk => hc k (by omega))
  obtain ⟨x, hx⟩ := Option.isSome_iff_exists.1 (hc n (by omega))
  rw [hx]
  have hs : ((over r o c n).get (o + n)).isSome := by
   rw [ih, if_neg (by omega)]; exact h n (by omega)
  simp only [Rope.get_set hs]
  by_cases e : j = o + n
  ·subst e; simp [hx]
  ·simp only [e, if_false, ih]
   by_cases h1 : o ≤ j ∧ j < o + n
   ·rw [if_pos h1, if_pos (by omega)]
   ·rw [if_neg h1, if_neg (by omega)]
theorem size_putAll (r : Rope AVal) (o : Nat) (c : Rope AVal) (h : o + c.size ≤ r.size) : (putAll r o c).size = r.size := by
 unfold putAll
 split
 ·rename_i e; simp at e; exact e.2
 ·exact size_over r o c _ fun k hk => by omega
theorem RR.put' {ρ : Ren} {r c : Rope AVal} {cur cs new : Array Value} {p o : Nat} (h : RR ρ r cur p) (hc : RR ρ c cs 0) (hs : cs.size = c.size) (ho : o + c.size ≤ r.size)
  (hv : ∀ q, new[q]? = if p + o ≤ q ∧ q < p + o + cs.size then cs[q - (p + o)]? else cur[q]?) : RR ρ (putAll r o c) new p := by
 intro j hj
 rw [size_putAll r o c ho] at hj
 have hget : (putAll r o c).get j = if o ≤ j ∧ j < o + c.size then c.get (j - o) else r.get j := by
  unfold putAll
  split
  ·rename_i e; simp at e
   obtain ⟨e1, e2⟩ := e
   subst e1
   rw [if_pos (by omega)]; rfl
  ·exact get_over r o c c.size j (fun k hk => h.full _ (by omega)) (fun k hk => hc.full _ hk)
 rw [hget, hv]
 by_cases h1 : o ≤ j ∧ j < o + c.size
 ·rw [if_pos h1, if_pos (by omega)]
  obtain ⟨x, v, x1, x2, x3, x4⟩ := hc (j - o) (by omega)
  exact ⟨x, v, x1, x2, by rw [show p + j - (p + o) = 0 + (j - o) from by omega]; exact x3, x4⟩
 ·rw [if_neg h1, if_neg (by omega)]
  exact h j hj
theorem RR.put {ρ : Ren} {r c : Rope AVal} {cur cs : Array Value} {p o : Nat} (h : RR ρ r cur p) (hc : RR ρ c cs 0) (hs : cs.size = c.size) (ho : o + c.size ≤ r.size) (hz : p + r.size ≤ cur.size) :
  RR ρ (putAll r o c) (cur.toList.take (p + o) ++ cs.toList ++ cur.toList.drop (p + o + cs.toList.length)).toArray p := by
 refine RR.put' h hc hs ho fun q => ?_
 have hl : (cur.toList.take (p + o)).length = p + o := by simp; omega
 simp only [List.getElem?_toArray, List.append_assoc, List.getElem?_append, hl]
 by_cases h1 : q < p + o
 ·rw [if_pos h1, if_neg (by omega)]; simp [h1]
 ·rw [if_neg h1]
  by_cases h2 : q - (p + o) < cs.toList.length
  ·rw [if_pos h2, if_pos (by simp at h2; omega)]; simp
  ·rw [if_neg h2, if_neg (by simp at h2; omega)]
   rw [List.getElem?_drop]
   simp at h2
   rw [show p + o + cs.toList.length + (q - (p + o) - cs.toList.length) = q from by simp; omega]
   simp
theorem RR.oneCells {ρ : Ren} {c : Rope AVal} {cs : Array Value} (hc : RR ρ c cs 0) (hs : cs.size = c.size) : ∀ v ∈ cs.toList, v.oneCell' = true := by
 intro v hv
 obtain ⟨i, hi, rfl⟩ := List.getElem_of_mem hv
 obtain ⟨x, u, x1, x2, x3, x4⟩ := hc i (by simp at hi; omega)
 simp at hi
 simp [hi] at x3
 simp [x3]
 exact x4.one x2
theorem WR.store {K : Nat → Prop} {ρ : Ren} {H H' : AHeap} {w : World} (h : WR K ρ H w) {i o : Nat} {c : Rope AVal} {cs : Array Value} (hst : hstore H i o c = some H')
  (hc : RR ρ c cs 0) (hs : cs.size = c.size) {l : Loc} (hl : ρ i = some l) (P : Program) :
  ∃ w', (storeCells ⟨l.blk, l.off + o, none⟩ cs.toList).run P w = .ok () w' ∧ Post K ρ w ρ H' w' := by
 unfold hstore at hst
 split at hst
 ·rename_i r g hb
  split at hst
  ·rename_i ho
   simp only [Option.some.injEq] at hst; subst hst
   obtain ⟨cur, t, fr, h1, h2, h3, h4, h5, h6⟩ := h.row hb hl
   have h6 := h6 rfl; subst h6
   have hrun := run_storeCells_at P l.blk (l.off + o) t cs.toList 0 cur w h1 (by simp; omega) (hc.oneCells hs)
   refine ⟨_, hrun, ?_⟩
   refine h.set hb hl rfl rfl (setRow_heap w l.blk cur _ t (0, 0) h1) (fun k hk => setRow_other w l.blk k _ hk) (by simp) ?_ rfl rfl rfl
   refine .cells (fun _ => rfl) ?_ h3 ?_
   ·rw [size_putAll r o c ho]; simp; omega
   ·simpa using RR.put h4 hc hs ho (by omega)
  ·cases hst
 ·cases hst
section
variable {P : Program} {E : EnvD} {K : Nat → Prop} {ρ : Ren} {H H' : AHeap} {w : World} {T : Tmps} {a : Act} {out : AOut} {o : Oper}
theorem op_mov {x : Operand} (ht : TR ρ T a.tmps) (hw : WR K ρ H w) (ho : o.op = .move x ∨ o.op = .assign x) (he : aop E T H (.mov x) = some (out, H')) :
  OutS P ρ H w (execOp a.eval o) out H' := by
 simp only [aop] at he
 split at he
 ·rename_i v hv
  refine OutR.same hw ?_ (aev_sound ht hv) he
  rcases ho with ho | ho <;> simp [execOp, ho]
 ·cases he
theorem op_pick {c x y : Operand} (ht : TR ρ T a.tmps) (hw : WR K ρ H w) (ho : o.op = .pick c x y) (he : aop E T H (.pick c x y) = some (out, H')) :
  OutS P ρ H w (execOp a.eval o) out H' := by
 simp only [aop] at he
 split at he
 ·rename_i hc
  split at he
  ·rename_i v hv
   split at he
   ·refine OutR.same hw ?_ (aev_sound ht hv) he
    simp [execOp, ho, (aev_sound ht hc).bool_inv, asBool]
   ·cases he
  ·cases he
 ·rename_i hc
  split at he
  ·rename_i v hv
   split at he
   ·refine OutR.same hw ?_ (aev_sound ht hv) he
    simp [execOp, ho, (aev_sound ht hc).bool_inv, asBool]
   ·cases he
  ·cases he
 ·cases he
theorem WR.rowNew (hw : WR K ρ H w) {c : Rope AVal} {cs : Array Value} (e : TypeId) (hs : cs.size = c.size) (hc : RR ρ c cs 0) :
  ∃ ρ', (newRow e cs).run P w = .ok ⟨w.heap.size, 0, none⟩ (w.alloc (.cells cs e)) ∧ ρ' H.next = some ⟨w.heap.size, 0, 0⟩ ∧ Post K ρ w ρ' (H.new (.cells c 0 true)) (w.alloc (.cells cs e)) := by
 have hb : BR ρ ⟨w.heap.size, 0, 0⟩ (.cells c 0 true) (.cells cs e (0, 0)) := .cells (fun _ => rfl) (by show 0 + c.size + 0 * 0 ≤ cs.size; omega) (fun _ => rfl) hc
 exact ⟨_, by simp [newRow], if_pos rfl, hw.new _ _ _ rfl rfl hb⟩
theorem op_new {z : Rope AVal} {t : TypeId} (hE : EnvOK P E) (hw : WR K ρ H w) (ho : o.op = .alloc t) (hc : comp P E o.op = some (.new z)) (he : aop E T H (.new z) = some (out, H')) :
  OutR P E K ρ H w (execOp a.eval o) out H' := by
 rw [ho] at hc
 simp only [comp, Option.map_eq_some_iff, AOp.new.injEq] at hc
 obtain ⟨z', hz, rfl⟩ := hc
 obtain ⟨i, v, h1, h2, h3, h4, h5, _⟩ := hE.zro t z' hz
 obtain ⟨ρ', hr, hn, hp⟩ := hw.rowNew (P := P) t h4 (h5 ρ)
 simp only [aop] at he
 refine OutR.post ?_ (.ptr hn) hp he
 simp only [execOp, ho, Instr.alloc, Sem.run_bind, run_zero h1 h2, Result.andThen_ok, newVar, hr, Sem.run_pure]
theorem op_box {x : Operand} {t : TypeId} (ht : TR ρ T a.tmps) (hw : WR K ρ H w) (ho : o.op = .box t x) (he : aop E T H (.box x) = some (out, H')) :
  OutR P E K ρ H w (execOp a.eval o) out H' := by
 simp only [aop] at he
 split at he
 ·rename_i v hv
  split at he
  ·rename_i c hc
   obtain ⟨hs, hr⟩ := RR.cells (aev_sound ht hv) hc
   obtain ⟨ρ', hrun, hn, hp⟩ := hw.rowNew (P := P) t hs hr
   refine OutR.post ?_ (.ptr hn) hp he
   simp only [execOp, ho, Instr.box, Sem.run_bind, Result.andThen_ok, newVar, hrun, Sem.run_pure]
  ·cases he
 ·cases he
theorem op_ldc {x : Operand} {t : TypeId} (ht : TR ρ T a.tmps) (hw : WR K ρ H w) (ho : o.op = .load t x) (hg : isAggT P t = some false) (he : aop E T H (.ldc x) = some (out, H')) :
  OutS P ρ H w (execOp a.eval o) out H' := by
 simp only [aop] at he
 split at he
 ·rename_i i p hv
  split at he
  ·rename_i v hl
   obtain ⟨l, h1, h2⟩ := (aev_sound ht hv).ptr_inv
   obtain ⟨u, h3, h4⟩ := hw.cell hl h1
   refine OutR.same hw ?_ h4 he
   simp [execOp, ho, h2, Instr.loadAt, Instr.sureAddr, loadVar, run_agg hg, h3]
  ·cases he
 ·cases he
theorem op_ldr {x : Operand} {t : TypeId} {n : Nat} (ht : TR ρ T a.tmps) (hw : WR K ρ H w) (ho : o.op = .load t x) (hg : isAggT P t = some true) (hn : csize P t = some n) (he : aop E T H (.ldr n x) = some (out, H')) :
  OutS P ρ H w (execOp a.eval o) out H' := by
 simp only [aop] at he
 split at he
 ·rename_i i p hv
  split at he
  ·rename_i c hl
   obtain ⟨l, h1, h2⟩ := (aev_sound ht hv).ptr_inv
   obtain ⟨cs, h3, h4, h5, h6⟩ := hw.loadN hl h1 P
   refine OutR.same hw ?_ (RR.agg (by omega) h6) he
   simp [execOp, ho, h2, Instr.loadAt, Instr.sureAddr, loadVar, run_agg hg, run_size hn, h3]
  ·cases he
 ·cases he
theorem op_sto {x y : Operand} {t : TypeId} {n : Nat} (ht : TR ρ T a.tmps) (hw : WR K ρ H w) (ho : o.op = .store t x y) (hn : csize P t = some n) (he : aop E T H (.sto n x y) = some (out, H')) :
  OutR P E K ρ H w (execOp a.eval o) out H' := by
 simp only [aop] at he
 split at he
 ·rename_i i p v hx hy
  split at he
  ·rename_i c hc
   split at he
   ·rename_i hcn
    split at he
    ·rename_i H1 hst
     obtain ⟨l, h1, h2⟩ := (aev_sound ht hx).ptr_inv
     obtain ⟨hs, hr⟩ := RR.cells (aev_sound ht hy) hc
     obtain ⟨w', h3, h4⟩ := hw.store hst hr hs h1 P
     refine OutR.skip ?_ h4 he
     simp [execOp, ho, h2, Instr.storeAt, Instr.sureAddr, storeVar, run_size hn, h3, hs, hcn]
    ·cases he
   ·cases he
  ·cases he
 ·cases he
theorem op_nilc {x : Operand} (ht : TR ρ T a.tmps) (hw : WR K ρ H w) (ho : o.op = .nilCheck x) (he : aop E T H (.nilc x) = some (out, H')) :
  OutS P ρ H w (execOp a.eval o) out H' := by
 simp only [aop] at he
 split at he
 ·rename_i p hx
  obtain ⟨i, q⟩ := p
  obtain ⟨l, h1, h2⟩ := (aev_sound ht hx).ptr_inv
  refine OutR.same hw ?_ (.ptr h1) he
  simp [execOp, ho, h2]
 ·rename_i f p q hx
  obtain ⟨p', q', h1, h2, h3⟩ := (aev_sound ht hx).func_inv
  refine OutR.same hw ?_ (.func h2.1 h3.1 h2.2 h3.2) he
  simp [execOp, ho, h1]
 ·rename_i t v hx
  obtain ⟨u, h1, h2⟩ := (aev_sound ht hx).iface_inv
  refine OutR.same hw ?_ (.iface t h2) he
  simp [execOp, ho, h1]
 ·cases he
theorem op_una {x : Operand} {op : UnOp} {t : TypeId} (ht : TR ρ T a.tmps) (hw : WR K ρ H w) (ho : o.op = .unOp op t x) (he : aop E T H (.una op x) = some (out, H')) :
  OutS P ρ H w (execOp a.eval o) out H' := by
 simp only [aop] at he
 split at he
 ·rename_i v hx
  split at he
  ·rename_i u hu
   have hv := aev_sound ht hx
   unfold aun at hu
   split at hu <;> simp only [Option.some.injEq, reduceCtorEq] at hu <;> subst hu
   ·refine OutR.same hw ?_ (.int _ _) he
    simp [execOp, ho, hv.int_inv, Op.unary, Op.intArith]
   ·refine OutR.same hw ?_ (.int _ _) he
    simp [execOp, ho, hv.int_inv, Op.unary, Op.intBits]
   ·refine OutR.same hw ?_ (.bool _) he
    simp [execOp, ho, hv.bool_inv, Op.unary]
  ·cases he
 ·cases he
theorem op_cvt {x : Operand} {s t : TypeId} {k j : IntKind} (ht : TR ρ T a.tmps) (hw : WR K ρ H w) (ho : o.op = .convert s t x) (h1 : P.underlying s = some (.int j)) (h2 : P.underlying t = some (.int k))
  (he : aop E T H (.cvt k x) = some (out, H')) : OutS P ρ H w (execOp a.eval o) out H' := by
 simp only [aop] at he
 split at he
 ·rename_i k' n hx
  refine OutR.same hw ?_ (.int _ _) he
  simp [execOp, ho, (aev_sound ht hx).int_inv, convert, run_und h1, run_und h2, Conv.intToInt]
 ·cases he
theorem op_mki {x : Operand} {t : TypeId} {d : TypeDesc} (ht : TR ρ T a.tmps) (hw : WR K ρ H w) (ho : o.op = .makeInterface t x) (h1 : P.underlying t = some d) (h2 : ∀ m, d ≠ .interface m)
  (he : aop E T H (.mki t x) = some (out, H')) : OutS P ρ H w (execOp a.eval o) out H' := by
 simp only [aop] at he
 split at he
 ·rename_i v hx
  refine OutR.same hw ?_ (.iface t (aev_sound ht hx)) he
  simp only [execOp, ho, Instr.makeInterface, Sem.run_bind, run_und h1, Result.andThen_ok]
  cases d <;> first | rfl | exact absurd rfl (h2 _)
 ·cases he
theorem op_mkf {fn : Fn} {x y : Array Operand} (ht : TR ρ T a.tmps) (hw : WR K ρ H w) (ho : o.op = .makeFunc fn x y) (he : aop E T H (.mkf fn x.toList y.toList) = some (out, H')) :
  OutS P ρ H w (execOp a.eval o) out H' := by
 simp only [aop] at he
 split at he
 ·rename_i p q hx hy
  have h1 := aevs_sound' ht hx
  have h2 := aevs_sound' ht hy
  refine OutR.same hw ?_ (.func h1.1 h2.1 h1.2 h2.2) he
  simp [execOp, ho, Instr.makeFunc]
 ·cases he
theorem op_mkm {t : TypeId} (hw : WR K ρ H w) (ho : o.op = .makeMap t none) (he : aop E T H .mkm = some (out, H')) : OutR P E K ρ H w (execOp a.eval o) out H' := by
 simp only [aop] at he
 have hp := hw.new (.map []) (.map #[] 0) ⟨w.heap.size, 0, 0⟩ rfl rfl (.map rfl (by intro i e e' h; simp at h))
 refine OutR.post (v := .map (some w.heap.size)) ?_ (.map (l := ⟨w.heap.size, 0, 0⟩) (by simp)) hp he
 simp [execOp, ho, Instr.makeMap]
theorem op_fa {x : Operand} {s : TypeId} {f : Nat} {fs : Array Field} {fd : Field} {n : Nat} (ht : TR ρ T a.tmps) (hw : WR K ρ H w) (ho : o.op = .fieldAddr s x f) (h1 : P.underlying s = some (.struct fs)) (h2 : fs[f]? = some fd)
  (h3 : csize P fd.type = some (n + 1)) (he : aop E T H (.fa fd.offset x) = some (out, H')) : OutS P ρ H w (execOp a.eval o) out H' := by
 simp only [aop] at he
 split at he
 ·rename_i i p hx
  obtain ⟨l, e1, e2⟩ := (aev_sound ht hx).ptr_inv
  refine OutR.same hw ?_ (.ptr e1) he
  have : (⟨l.blk, l.off + p, none⟩ : Addr).add fd.offset = ⟨l.blk, l.off + (p + fd.offset), none⟩ := by
   unfold Addr.add; split <;> simp_all [Nat.add_assoc]
  simp [execOp, ho, Instr.fieldAt, run_und h1, h2, Instr.sureAddr, e2, fieldPlace, run_size h3, this]
 ·cases he
theorem run_part {t : TypeId} {g : Bool} {s off : Nat} {cs : Array Value} {r : Rope AVal} (hg : isAggT P t = some g) (hs : csize P t = some s) (hz : cs.size = r.size) (hr : RR ρ r cs 0)
  {y : AVal} (h : (if g then (if off + s ≤ r.size then some (.agg (r.ext off s)) else none) else r.get off) = some y) : ∃ v, (part t cs off).run P w = .ok v w ∧ VR ρ y v := by
 cases g with
 | true =>
  simp only [if_true] at h
  split at h
  ·rename_i hn
   simp only [Option.some.injEq] at h; subst h
   obtain ⟨e1, e2⟩ := hr.ext off s hn
   refine ⟨.agg (cs.extract off (off + s)), by simp [part, run_agg hg, run_size hs], RR.agg (by simp; omega) fun i hi => ?_⟩
   obtain ⟨x, v, x1, x2, x3, x4⟩ := e2 i hi
   refine ⟨x, v, x1, x2, ?_, x4⟩
   rw [e1] at hi
   rw [Array.getElem?_extract, if_pos (by omega)]
   simpa using x3
  ·cases h
 | false =>
  simp only [Bool.false_eq_true, if_false] at h
  obtain ⟨x, v, x1, x2, x3, x4⟩ := hr off (Rope.get_lt h)
  rw [h] at x1; cases x1
  refine ⟨v, ?_, x4⟩
  rw [Nat.zero_add] at x3
  simp [part, run_agg hg, x3]
theorem op_fld {x : Operand} {t : TypeId} {f : Nat} {fs : Array Field} {fd : Field} {g : Bool} {s : Nat} (ht : TR ρ T a.tmps) (hw : WR K ρ H w) (ho : o.op = .field t x f) (h1 : P.underlying t = some (.struct fs)) (h2 : fs[f]? = some fd)
  (hg : isAggT P fd.type = some g) (hs : csize P fd.type = some s) (he : aop E T H (.fld g fd.offset s x) = some (out, H')) : OutS P ρ H w (execOp a.eval o) out H' := by
 simp only [aop] at he
 split at he
 ·rename_i r hx
  obtain ⟨cs, e1, e2, e3⟩ := (aev_sound ht hx).agg_inv
  have key : ∀ y, (if g then (if fd.offset + s ≤ r.size then some (AVal.agg (r.ext fd.offset s)) else none) else r.get fd.offset) = some y → ret y H = some (out, H') → OutS P ρ H w (execOp a.eval o) out H' := by
   intro y hy hr
   obtain ⟨v, h3, h4⟩ := run_part (P := P) (w := w) hg hs e2 e3 hy
   refine OutR.same hw ?_ h4 hr
   simp [execOp, ho, Instr.field, run_und h1, h2, e1, asAgg, h3]
  cases g with
  | true =>
   simp only [if_true] at he
   split at he
   ·rename_i hn; exact key _ (by simp [hn]) he
   ·cases he
  | false =>
   simp only [Bool.false_eq_true, if_false] at he
   split at he
   ·rename_i v hv; exact key _ (by simp [hv]) he
   ·cases he
 ·cases he
theorem anat_inv {x : AVal} {n : Nat} {v : Value} (hv : VR ρ x v) (h : anat x = some n) : ∃ k, v = .int k n := by
 unfold anat at h
 split at h
 ·rename_i k m
  split at h
  ·rename_i h0
   simp only [Option.some.injEq] at h; subst h
   refine ⟨k, ?_⟩
   rw [hv.int_inv, Int.toNat_of_nonneg h0]
  ·cases h
 ·cases h
theorem op_iaa {x i : Operand} {t e : TypeId} {n s : Nat} (ht : TR ρ T a.tmps) (hw : WR K ρ H w) (ho : o.op = .indexAddr t x i) (h1 : P.underlying t = some (.array n e)) (h2 : csize P e = some s)
  (he : aop E T H (.iaa n s x i) = some (out, H')) : OutS P ρ H w (execOp a.eval o) out H' := by
 simp only [aop] at he
 split at he
 ·rename_i b p v hx hi
  split at he
  ·rename_i k hk
   split at he
   ·rename_i hlt
    obtain ⟨l, e1, e2⟩ := (aev_sound ht hx).ptr_inv
    obtain ⟨kk, e3⟩ := anat_inv (aev_sound ht hi) hk
    refine OutR.same hw ?_ (.ptr e1) he
    have : (⟨l.blk, l.off + p, none⟩ : Addr).add (k * s) = ⟨l.blk, l.off + (p + k * s), none⟩ := by
     unfold Addr.add; split <;> simp_all [Nat.add_assoc]
    simp [execOp, ho, Instr.indexAt, run_und h1, run_size h2, Instr.sureAddr, e2, e3, asIntOf, hlt, this]
   ·cases he
  ·cases he
 ·cases he
theorem op_ias {x i : Operand} {t e : TypeId} {s : Nat} (ht : TR ρ T a.tmps) (hw : WR K ρ H w) (ho : o.op = .indexAddr t x i) (h1 : P.underlying t = some (.slice e)) (h2 : csize P e = some s)
  (he : aop E T H (.ias s x i) = some (out, H')) : OutS P ρ H w (execOp a.eval o) out H' := by
 simp only [aop] at he
 split at he
 ·rename_i b p n c v hx hi
  split at he
  ·rename_i k hk
   split at he
   ·rename_i hlt
    obtain ⟨l, e1, e2⟩ := (aev_sound ht hx).slice_inv
    obtain ⟨kk, e3⟩ := anat_inv (aev_sound ht hi) hk
    refine OutR.same hw ?_ (.ptr e1) he
    have : (⟨l.blk, l.off + p, none⟩ : Addr).add (k * s) = ⟨l.blk, l.off + (p + k * s), none⟩ := by
     unfold Addr.add; split <;> simp_all [Nat.add_assoc]
    simp [execOp, ho, Instr.indexAt, run_und h1, run_size h2, e2, e3, asIntOf, hlt, this]
   ·cases he
  ·cases he
 ·cases he
theorem op_ixa {x i : Operand} {t e : TypeId} {n s : Nat} {g : Bool} (ht : TR ρ T a.tmps) (hw : WR K ρ H w) (ho : o.op = .index t x i) (h1 : P.underlying t = some (.array n e)) (hg : isAggT P e = some g) (h2 : csize P e = some s)
  (he : aop E T H (.ixa n g s x i) = some (out, H')) : OutS P ρ H w (execOp a.eval o) out H' := by
 simp only [aop] at he
 split at he
 ·rename_i r v hx hi
  split at he
  ·rename_i k hk
   split at he
   ·rename_i hlt
    obtain ⟨cs, e1, e2, e3⟩ := (aev_sound ht hx).agg_inv
    obtain ⟨kk, e4⟩ := anat_inv (aev_sound ht hi) hk
    have key : ∀ y, (if g then (if k * s + s ≤ r.size then some (AVal.agg (r.ext (k * s) s)) else none) else r.get (k * s)) = some y → ret y H = some (out, H') → OutS P ρ H w (execOp a.eval o) out H' := by
     intro y hy hr
     obtain ⟨v, h3, h4⟩ := run_part (P := P) (w := w) hg h2 e2 e3 hy
     refine OutR.same hw ?_ h4 hr
     simp [execOp, ho, Instr.index, run_und h1, run_size h2, e1, e4, asIntOf, hlt, h3]
    cases g with
    | true =>
     simp only [if_true] at he
     split at he
     ·rename_i hn; exact key _ (by simp [hn]) he
     ·cases he
    | false =>
     simp only [Bool.false_eq_true, if_false] at he
     split at he
     ·rename_i v hv; exact key _ (by simp [hv]) he
     ·cases he
   ·cases he
  ·cases he
 ·cases he
theorem op_ixs {x i : Operand} {t : TypeId} (ht : TR ρ T a.tmps) (hw : WR K ρ H w) (ho : o.op = .index t x i) (h1 : P.underlying t = some .string) (he : aop E T H (.ixs x i) = some (out, H')) :
  OutS P ρ H w (execOp a.eval o) out H' := by
 simp only [aop] at he
 split at he
 ·rename_i s v hx hi
  split at he
  ·rename_i k hk
   split at he
   ·rename_i b hb
    have e1 : a.eval x = .string s := by
     have := aev_sound ht hx
     generalize a.eval x = q at *
     cases this; rfl
    obtain ⟨kk, e4⟩ := anat_inv (aev_sound ht hi) hk
    refine OutR.same hw ?_ (.int _ _) he
    simp [execOp, ho, Instr.index, run_und h1, e1, e4, asIntOf, hb]
   ·cases he
  ·cases he
 ·cases he
theorem op_ext {x : Operand} {i : Nat} (ht : TR ρ T a.tmps) (hw : WR K ρ H w) (ho : o.op = .extract x i) (he : aop E T H (.ext x i) = some (out, H')) :
  OutS P ρ H w (execOp a.eval o) out H' := by
 simp only [aop] at he
 split at he
 ·rename_i l hx
  split at he
  ·rename_i v hv
   obtain ⟨l', e1, e2⟩ := (aev_sound ht hx).tup_inv
   have hi : i < l'.size := by rw [e2.1]; exact (List.getElem?_eq_some_iff.1 hv).1
   refine OutR.same hw (v := l'[i]) ?_ (e2.2 i v _ hv (by simp [hi])) he
   simp [execOp, ho, e1, Instr.extract, hi]
  ·cases he
 ·cases he
end
end Go.Sim
end
section
namespace Go.Sim
variable [RO]
theorem VR.part_inv {ρ : Ren} {k : IntKind} {m v : Nat} {lo hi : Int} {u : Value} (h : VR ρ (.part k m v lo hi) u) : ∃ n, u = .int k n ∧ lo ≤ n ∧ n ≤ hi ∧ (BitVec.ofInt k.bits n).toNat &&& m = v := by
 cases h with
 | part h1 h2 h3 => exact ⟨_, rfl, h1, h2, h3⟩
theorem ofInt_nat {b : Int} {k : Nat} (h0 : 0 ≤ b) (h1 : b.toNat < 2 ^ k) : (BitVec.ofInt k b).toNat = b.toNat := by
 have : b = ((b.toNat : Nat) : Int) := (Int.toNat_of_nonneg h0).symm
 rw [this]
 simp only [BitVec.ofInt_natCast, BitVec.toNat_ofNat, Int.toNat_natCast]
 exact Nat.mod_eq_of_lt h1
theorem ofInt_mod (n : Int) (k j : Nat) (hj : j ≤ k) : ((BitVec.ofInt k n).toNat % 2 ^ j : Nat) = (n % (2 ^ j : Int)).toNat := by
 rw [BitVec.toNat_ofInt]
 have hd : (2 ^ j : Int) ∣ (2 ^ k : Int) := by
  have := Int.natCast_dvd_natCast.2 (Nat.pow_dvd_pow 2 hj)
  simpa using this
 have h1 : 0 ≤ n % ((2 ^ k : Nat) : Int) := Int.emod_nonneg _ (by have : 0 < 2 ^ k := Nat.two_pow_pos k; omega)
 have h2 : n % ((2 ^ k : Nat) : Int) % (2 ^ j : Int) = n % (2 ^ j : Int) := by
  have : ((2 ^ k : Nat) : Int) = (2 ^ k : Int) := by simp
  rw [this]; exact Int.emod_emod_of_dvd n hd
 rw [← h2]
 have h3 : (n % ((2 ^ k : Nat) : Int)) = (((n % ((2 ^ k : Nat) : Int)).toNat : Nat) : Int) := (Int.toNat_of_nonneg h1).symm
 generalize (n % ((2 ^ k : Nat) : Int)).toNat = z at h3
 rw [h3]
 have : (2 ^ j : Int) = ((2 ^ j : Nat) : Int) := by simp
 rw [this, ← Int.natCast_emod, Int.toNat_natCast]
theorem wrap_max (k : IntKind) {z : Int} (h0 : 0 ≤ z) (h : z ≤ k.max) : k.wrap z = z := by
 cases k <;> simp only [IntKind.max, IntKind.bits, IntKind.signed] at h <;> simp only [IntKind.wrap, IntKind.bits, IntKind.signed] <;> simp at h ⊢ <;> omega
theorem ne_mask {k : IntKind} {n b : Int} {m v : Nat} (h3 : (BitVec.ofInt k.bits n).toNat &&& m = v) (h0 : 0 ≤ b) (h1 : b.toNat < 2 ^ k.bits) (h : ¬ b.toNat &&& m = v) : n ≠ b := by
 rintro rfl
 rw [ofInt_nat h0 h1] at h3
 exact h h3
theorem partBin_sound {ρ : Ren} {op : BinOp} {k : IntKind} {m v : Nat} {lo hi n b : Int} {r : AVal} (h1 : lo ≤ n) (h2 : n ≤ hi) (h3 : (BitVec.ofInt k.bits n).toNat &&& m = v) (h : partBin op k m v lo hi b = some r) :
  ∃ r', intBin op k n b = some r' ∧ (∀ u, VR ρ r' u → VR ρ r u) ∧ op ≠ .shl ∧ op ≠ .shr := by
 unfold partBin at h
 split at h
 ·split at h
  ·rename_i hc
   simp only [Bool.and_eq_true, decide_eq_true_eq, beq_iff_eq] at hc
   obtain ⟨⟨c1, c2⟩, c3⟩ := hc
   simp only [Option.some.injEq] at h
   subst h
   refine ⟨_, rfl, fun u hu => ?_, by simp, by simp⟩
   have e : (BitVec.ofInt k.bits n &&& BitVec.ofInt k.bits b).toNat = v &&& b.toNat := by
    rw [BitVec.toNat_and, ofInt_nat c1 c2, ← h3, Nat.and_assoc, Nat.and_comm m, c3]
   rw [e] at hu
   exact hu
  ·split at h
   ·rename_i hc
    simp only [Bool.and_eq_true, decide_eq_true_eq] at hc
    obtain ⟨⟨c1, c2⟩, c3⟩ := hc
    simp only [Option.some.injEq] at h
    subst h
    refine ⟨_, rfl, fun u hu => ?_, by simp, by simp⟩
    cases hu
    have e : (BitVec.ofInt k.bits n &&& BitVec.ofInt k.bits b).toNat = (BitVec.ofInt k.bits n).toNat &&& b.toNat := by
     rw [BitVec.toNat_and, ofInt_nat c1 c2]
    have hle : (BitVec.ofInt k.bits n &&& BitVec.ofInt k.bits b).toNat ≤ b.toNat := by rw [e]; exact Nat.and_le_right
    generalize (BitVec.ofInt k.bits n &&& BitVec.ofInt k.bits b).toNat = z at e hle
    have hw : k.wrap (z : Int) = z := wrap_max k (by omega) (by omega)
    rw [hw]
    refine .part (by omega) (by omega) ?_
    rw [ofInt_nat (by omega) (by simp only [Int.toNat_natCast]; omega)]
    simp only [Int.toNat_natCast]
    rw [e, ← h3, Nat.and_comm m, ← Nat.and_assoc, Nat.and_assoc _ b.toNat b.toNat, Nat.and_self, Nat.and_assoc, Nat.and_comm b.toNat m, Nat.and_assoc]
   ·cases h
 ·split at h
  ·rename_i hc
   simp only [Bool.and_eq_true, decide_eq_true_eq, Bool.not_eq_true'] at hc
   obtain ⟨⟨c1, c2⟩, c3⟩ := hc
   simp only [Option.some.injEq] at h
   subst h
   refine ⟨_, rfl, fun u hu => ?_, by simp, by simp⟩
   cases hu
   have e : (BitVec.ofInt k.bits n ^^^ BitVec.ofInt k.bits b).toNat = (BitVec.ofInt k.bits n).toNat ^^^ b.toNat := by
    rw [BitVec.toNat_xor, ofInt_nat c1 c2]
   have hlt : (BitVec.ofInt k.bits n ^^^ BitVec.ofInt k.bits b).toNat < 2 ^ k.bits := BitVec.isLt _
   generalize (BitVec.ofInt k.bits n ^^^ BitVec.ofInt k.bits b).toNat = z at e hlt
   have hz : (z : Int) % (2 ^ k.bits : Int) = z := by
    refine Int.emod_eq_of_lt (by omega) ?_
    have : (2 ^ k.bits : Int) = ((2 ^ k.bits : Nat) : Int) := by simp
    rw [this]; exact Int.ofNat_lt.2 hlt
   have hw : k.wrap (z : Int) = z := by
    simp only [IntKind.wrap, c3, Bool.false_and, Bool.false_eq_true, if_false, hz]
   rw [hw]
   refine .part (by omega) ?_ ?_
   ·have : (2 ^ k.bits : Int) = ((2 ^ k.bits : Nat) : Int) := by simp
    rw [this]; omega
   ·rw [ofInt_nat (by omega) (by simpa using hlt)]
    simp only [Int.toNat_natCast]
    rw [e, ← h3, Nat.and_xor_distrib_right]
  ·cases h
 ·simp only at h
  split at h
  ·rename_i hc
   simp only [Bool.and_eq_true, decide_eq_true_eq, beq_iff_eq] at hc
   obtain ⟨⟨c1, c2⟩, c3⟩ := hc
   generalize Nat.log2 b.toNat = j at h c1 c2 c3
   subst c1
   have hpos : (0 : Int) < 2 ^ j := Int.pow_pos (by omega)
   have hr : v &&& (2 ^ j - 1) = (n % (2 ^ j : Int)).toNat := by
    rw [← h3, Nat.and_assoc, Nat.and_comm m, c3, Nat.and_two_pow_sub_one_eq_mod, ofInt_mod n k.bits j c2]
   have hnn := Int.emod_nonneg n (b := (2 ^ j : Int)) (by omega)
   have hib : intBin .rem k n (2 ^ j : Int) = some (.int k (n.tmod (2 ^ j : Int))) := by
    simp only [intBin]; rw [if_neg (by omega)]
   refine ⟨_, hib, ?_, by simp, by simp⟩
   split at h
   ·rename_i hlo
    simp only [Option.some.injEq] at h
    subst h
    rw [hr, Int.toNat_of_nonneg hnn, Int.tmod_eq_emod_of_nonneg (by omega)]
    exact fun u hu => hu
   ·split at h
    ·rename_i hlo hhi
     simp only [Option.some.injEq] at h
     subst h
     rw [hr]
     have : n.tmod (2 ^ j : Int) = if (n % (2 ^ j : Int)).toNat = 0 then 0 else (((n % (2 ^ j : Int)).toNat : Nat) : Int) - 2 ^ j := by
      rw [Int.tmod_eq_emod, Int.toNat_of_nonneg hnn]
      by_cases e : n % (2 ^ j : Int) = 0
      ·have hd : (2 ^ j : Int) ∣ n := Int.dvd_of_emod_eq_zero e
       simp [e, hd]
      ·have hd : ¬ (2 ^ j : Int) ∣ n := fun hd => e (Int.emod_eq_zero_of_dvd hd)
       have : ¬ (n % (2 ^ j : Int)).toNat = 0 := by omega
       rw [if_neg this, if_neg (by simp [hd]; omega)]
       omega
     rw [this]
     exact fun u hu => hu
    ·cases h
  ·cases h
 ·split at h
  ·rename_i hc
   simp only [Bool.or_eq_true, decide_eq_true_eq] at hc
   simp only [Option.some.injEq] at h
   subst h
   have hne : n ≠ b := by
    rcases hc with hc | hc
    ·omega
    ·simp only [Bool.and_eq_true, decide_eq_true_eq, Bool.not_eq_true', beq_eq_false_iff_ne] at hc
     exact ne_mask h3 hc.1.1 hc.1.2 hc.2
   exact ⟨.bool (n == b), rfl, by rw [show (n == b) = false by simpa using hne]; exact fun u hu => hu, by simp, by simp⟩
  ·cases h
 ·split at h
  ·rename_i hc
   simp only [Bool.or_eq_true, decide_eq_true_eq] at hc
   simp only [Option.some.injEq] at h
   subst h
   have hne : n ≠ b := by
    rcases hc with hc | hc
    ·omega
    ·simp only [Bool.and_eq_true, decide_eq_true_eq, Bool.not_eq_true', beq_eq_false_iff_ne] at hc
     exact ne_mask h3 hc.1.1 hc.1.2 hc.2
   exact ⟨.bool (n != b), rfl, by rw [show (n != b) = true by simpa using hne]; exact fun u hu => hu, by simp, by simp⟩
  ·cases h
 ·refine ⟨.bool (decide (n < b)), rfl, ?_, by simp, by simp⟩
  split at h
  ·simp only [Option.some.injEq] at h
   subst h
   rw [show decide (n < b) = true by simp; omega]; exact fun u hu => hu
  ·split at h
   ·simp only [Option.some.injEq] at h
    subst h
    rw [show decide (n < b) = false by simp; omega]; exact fun u hu => hu
   ·cases h
 ·refine ⟨.bool (decide (n ≤ b)), rfl, ?_, by simp, by simp⟩
  split at h
  ·simp only [Option.some.injEq] at h
   subst h
   rw [show decide (n ≤ b) = true by simp; omega]; exact fun u hu => hu
  ·split at h
   ·simp only [Option.some.injEq] at h
    subst h
    rw [show decide (n ≤ b) = false by simp; omega]; exact fun u hu => hu
   ·cases h
 ·refine ⟨.bool (decide (n > b)), rfl, ?_, by simp, by simp⟩
  split at h
  ·simp only [Option.some.injEq] at h
   subst h
   rw [show decide (n > b) = true by simp; omega]; exact fun u hu => hu
  ·split at h
   ·simp only [Option.some.injEq] at h
    subst h
    rw [show decide (n > b) = false by simp; omega]; exact fun u hu => hu
   ·cases h
 ·refine ⟨.bool (decide (n ≥ b)), rfl, ?_, by simp, by simp⟩
  split at h
  ·simp only [Option.some.injEq] at h
   subst h
   rw [show decide (n ≥ b) = true by simp; omega]; exact fun u hu => hu
  ·split at h
   ·simp only [Option.some.injEq] at h
    subst h
    rw [show decide (n ≥ b) = false by simp; omega]; exact fun u hu => hu
   ·cases h
 ·cases h
end Go.Sim
end
section
namespace Go.Sim
variable [RO]
section
variable {P : Program} {E : EnvD} {K : Nat → Prop} {ρ : Ren} {H H' : AHeap} {w : World} {T : Tmps} {a : Act} {out : AOut} {o : Oper}
theorem eqGuard_plain (op : BinOp) (t : TypeId) (x y : Operand) (u v : Value) (h1 : u = .nilIface → v = .nilIface → False) (h2 : ∀ p q, u = .agg p → v = .agg q → False) :
  (eqGuard op t x y u v).run P w = .ok () w := by
 cases op <;> first
  | rfl
  | (cases u <;> cases v <;> first | rfl | exact (h1 rfl rfl).elim | exact (h2 _ _ rfl rfl).elim)
theorem eqGuard_const (op : BinOp) (t : TypeId) (x y : Operand) (h : (isConstO x || isConstO y) = true) :
  (eqGuard op t x y .nilIface .nilIface).run P w = .ok () w := by
 cases x <;> cases y <;> first
  | (cases op <;> rfl)
  | (simp [isConstO] at h; done)
theorem VR.str_inv {ρ : Ren} {s : ByteArray} {v : Value} (h : VR ρ (.str s) v) : v = .string s := by cases h; rfl
theorem sameCell_sound {x y : AVal} {u v : Value} (hx : VR ρ x u) (hy : VR ρ y v) {b : Bool} (h : sameCell x y = some b) : vsame u v = some b := by
 unfold sameCell at h
 split at h
 ·cases hx; cases hy; exact h
 ·cases h
theorem sameRow_sound {x y : Rope AVal} {u v : Array Value} (hx : RR ρ x u 0) (hy : RR ρ y v 0) : ∀ n b, n ≤ x.size → n ≤ y.size → sameRow x y n = some b → vrow u v n = some b
 | 0, b, _, _, h => h
 | n + 1, b, h1, h2, h => by
  simp only [sameRow] at h
  split at h
  ·rename_i r hr
   have ih := sameRow_sound hx hy n r (by omega) (by omega) hr
   split at h
   ·rename_i p q hp hq
    split at h
    ·rename_i s hs
     simp only [Option.some.injEq] at h; subst h
     obtain ⟨p', u', a1, a2, a3, a4⟩ := hx n (by omega)
     obtain ⟨q', v', b1, b2, b3, b4⟩ := hy n (by omega)
     rw [hp] at a1; cases a1
     rw [hq] at b1; cases b1
     rw [Nat.zero_add] at a3 b3
     simp only [vrow, ih, a3, b3, sameCell_sound a4 b4 hs]
    ·cases h
   ·cases h
  ·cases h
theorem kind_und {t : TypeId} (k : Kd) (h : kindOf P E t = k) : match k with
  | .bool => P.underlying t = some .bool
  | .ptr => ∃ e, P.underlying t = some (.pointer e)
  | .slice => ∃ e, P.underlying t = some (.slice e)
  | .func => ∃ x y z, P.underlying t = some (.func x y z)
  | .iface => ∃ m, P.underlying t = some (.interface m)
  | .agg n => E.eqt t = some n
  | .scal => True := by
 unfold kindOf at h
 split at h
 ·subst h; assumption
 ·subst h; exact ⟨_, by assumption⟩
 ·subst h; exact ⟨_, by assumption⟩
 ·subst h; exact ⟨_, _, _, by assumption⟩
 ·subst h; exact ⟨_, by assumption⟩
 ·split at h
  ·subst h; assumption
  ·subst h; trivial
 ·subst h; trivial
theorem eqIn_bool (d : Nat) {t : TypeId} (hu : P.underlying t = some .bool) (x y : Bool) : (Op.equalIn (d + 1) t (.bool x) (.bool y)).run P w = .ok (x == y) w := by simp [Op.equalIn, run_und hu]
theorem eqIn_ptr (d : Nat) {t e : TypeId} (hu : P.underlying t = some (.pointer e)) (x : Option Addr) : (Op.equalIn (d + 1) t (.pointer none) (.pointer x)).run P w = .ok x.isNone w := by
 cases x <;> simp [Op.equalIn, run_und hu]
theorem eqIn_ptr' (d : Nat) {t e : TypeId} (hu : P.underlying t = some (.pointer e)) (x : Addr) : (Op.equalIn (d + 1) t (.pointer (some x)) (.pointer none)).run P w = .ok false w := by
 simp [Op.equalIn, run_und hu]
theorem eqIn_slice (d : Nat) {t e : TypeId} (hu : P.underlying t = some (.slice e)) (x : Option Addr) (n c n' c' : Nat) : (Op.equalIn (d + 1) t (.slice none n c) (.slice x n' c')).run P w = .ok x.isNone w := by
 cases x <;> simp [Op.equalIn, run_und hu]
theorem eqIn_slice' (d : Nat) {t e : TypeId} (hu : P.underlying t = some (.slice e)) (x : Addr) (n c n' c' : Nat) : (Op.equalIn (d + 1) t (.slice (some x) n c) (.slice none n' c')).run P w = .ok false w := by
 simp [Op.equalIn, run_und hu]
theorem eqIn_func (d : Nat) {t : TypeId} {e1 e2 : Array TypeId} {e3 : Bool} (hu : P.underlying t = some (.func e1 e2 e3)) : (Op.equalIn (d + 1) t .nilFunc .nilFunc).run P w = .ok true w := by
 simp [Op.equalIn, run_und hu]
theorem eqIn_func1 (d : Nat) {t : TypeId} {e1 e2 : Array TypeId} {e3 : Bool} (hu : P.underlying t = some (.func e1 e2 e3)) (f : Fn) (x y : Array Value) : (Op.equalIn (d + 1) t .nilFunc (.func f x y)).run P w = .ok false w := by
 simp [Op.equalIn, run_und hu]
theorem eqIn_func2 (d : Nat) {t : TypeId} {e1 e2 : Array TypeId} {e3 : Bool} (hu : P.underlying t = some (.func e1 e2 e3)) (f : Fn) (x y : Array Value) : (Op.equalIn (d + 1) t (.func f x y) .nilFunc).run P w = .ok false w := by
 simp [Op.equalIn, run_und hu]
theorem eqIn_if (d : Nat) {t : TypeId} {m : Array (String × TypeId)} (hu : P.underlying t = some (.interface m)) : (Op.equalIn (d + 1) t .nilIface .nilIface).run P w = .ok true w := by
 simp [Op.equalIn, run_und hu]
theorem eqIn_if1 (d : Nat) {t : TypeId} {m : Array (String × TypeId)} (hu : P.underlying t = some (.interface m)) (u : TypeId) (v : Value) : (Op.equalIn (d + 1) t .nilIface (.iface u v)).run P w = .ok false w := by
 simp [Op.equalIn, run_und hu]
theorem eqIn_if2 (d : Nat) {t : TypeId} {m : Array (String × TypeId)} (hu : P.underlying t = some (.interface m)) (u : TypeId) (v : Value) : (Op.equalIn (d + 1) t (.iface u v) .nilIface).run P w = .ok false w := by
 simp [Op.equalIn, run_und hu]
theorem aeq_sound (hE : EnvOK P E) {k : Kd} {c : Bool} {t : TypeId} (hk : kindOf P E t = k) {x y : AVal} {u v : Value} (hx : VR ρ x u) (hy : VR ρ y v) {b : Bool} (h : aeq k c x y = some b)
  (op : BinOp) (p q : Operand) (hc : c = (isConstO p || isConstO q)) : (eqGuard op t p q u v).run P w = .ok () w ∧ (Op.equal t u v).run P w = .ok b w := by
 have hu := kind_und k hk
 cases k with
 | scal => cases h
 | bool =>
  simp only [aeq] at h
  split at h
  ·cases hx; cases hy
   simp only [Option.some.injEq] at h; subst h
   exact ⟨eqGuard_plain op t p q _ _ (by simp) (by simp), eqIn_bool 9999 hu _ _⟩
  ·cases h
 | ptr =>
  obtain ⟨e, hu⟩ := hu
  simp only [aeq] at h
  split at h
  ·cases hx; cases hy; simp only [Option.some.injEq] at h; subst h
   exact ⟨eqGuard_plain op t p q _ _ (by simp) (by simp), eqIn_ptr 9999 hu none⟩
  ·cases hx; cases hy; simp only [Option.some.injEq] at h; subst h
   exact ⟨eqGuard_plain op t p q _ _ (by simp) (by simp), eqIn_ptr 9999 hu (some _)⟩
  ·cases hx; cases hy; simp only [Option.some.injEq] at h; subst h
   exact ⟨eqGuard_plain op t p q _ _ (by simp) (by simp), eqIn_ptr' 9999 hu _⟩
  ·cases h
 | slice =>
  obtain ⟨e, hu⟩ := hu
  simp only [aeq] at h
  split at h
  ·cases hx; cases hy; simp only [Option.some.injEq] at h; subst h
   exact ⟨eqGuard_plain op t p q _ _ (by simp) (by simp), eqIn_slice 9999 hu none _ _ _ _⟩
  ·cases hx; cases hy; simp only [Option.some.injEq] at h; subst h
   exact ⟨eqGuard_plain op t p q _ _ (by simp) (by simp), eqIn_slice 9999 hu (some _) _ _ _ _⟩
  ·cases hx; cases hy; simp only [Option.some.injEq] at h; subst h
   exact ⟨eqGuard_plain op t p q _ _ (by simp) (by simp), eqIn_slice' 9999 hu _ _ _ _ _⟩
  ·cases hx; cases hy; simp only [Option.some.injEq] at h; subst h
   exact ⟨eqGuard_plain op t p q _ _ (by simp) (by simp), eqIn_slice 9999 hu (some _) _ _ _ _⟩
  ·cases hx; cases hy; simp only [Option.some.injEq] at h; subst h
   exact ⟨eqGuard_plain op t p q _ _ (by simp) (by simp), eqIn_slice' 9999 hu _ _ _ _ _⟩
  ·cases h
 | func =>
  obtain ⟨e1, e2, e3, hu⟩ := hu
  simp only [aeq] at h
  split at h
  ·cases hx; cases hy; simp only [Option.some.injEq] at h; subst h
   exact ⟨eqGuard_plain op t p q _ _ (by simp) (by simp), eqIn_func 9999 hu⟩
  ·cases hx; cases hy; simp only [Option.some.injEq] at h; subst h
   exact ⟨eqGuard_plain op t p q _ _ (by simp) (by simp), eqIn_func1 9999 hu _ _ _⟩
  ·cases hx; cases hy; simp only [Option.some.injEq] at h; subst h
   exact ⟨eqGuard_plain op t p q _ _ (by simp) (by simp), eqIn_func2 9999 hu _ _ _⟩
  ·cases h
 | iface =>
  obtain ⟨e, hu⟩ := hu
  simp only [aeq] at h
  split at h
  ·split at h
   ·rename_i hcc
    cases hx; cases hy; simp only [Option.some.injEq] at h; subst h
    exact ⟨eqGuard_const op t p q (by rw [← hc]; exact hcc), eqIn_if 9999 hu⟩
   ·cases h
  ·cases hx; cases hy; simp only [Option.some.injEq] at h; subst h
   exact ⟨eqGuard_plain op t p q _ _ (by simp) (by simp), eqIn_if1 9999 hu _ _⟩
  ·cases hx; cases hy; simp only [Option.some.injEq] at h; subst h
   exact ⟨eqGuard_plain op t p q _ _ (by simp) (by simp), eqIn_if2 9999 hu _ _⟩
  ·cases h
 | agg n =>
  simp only [aeq] at h
  simp only at hu
  split at h
  ·rename_i r s
   split at h
   ·rename_i hz
    simp only [Bool.and_eq_true, decide_eq_true_eq] at hz
    obtain ⟨xs, rfl, x1, x2⟩ := hx.agg_inv
    obtain ⟨ys, rfl, y1, y2⟩ := hy.agg_inv
    obtain ⟨g, heq⟩ := hE.eqt t n hu
    refine ⟨run_eqGuard_agg w op t p q xs ys g, heq xs ys b (by omega) (by omega) (sameRow_sound x2 y2 n b (by omega) (by omega) h) w⟩
   ·cases h
  ·cases h
theorem binOp_int {op : BinOp} {t : TypeId} {k : IntKind} {x y : Int} {v : AVal} (hs : op ≠ .shl) (hs' : op ≠ .shr) (h : intBin op k x y = some v) : ∃ u, (binOp op t (.int k x) (.int k y)).run P w = .ok u w ∧ VR ρ v u := by
 have key : ∀ (s : Sem Value) (u : Value), s = pure u → s.run P w = .ok u w := fun s u e => by rw [e]; rfl
 cases op <;> simp only [intBin] at h <;> first
  | (exact (hs rfl).elim)
  | (exact (hs' rfl).elim)
  | (cases h; done)
  | (simp only [Option.some.injEq] at h; subst h
     exact ⟨_, key _ _ (by simp only [binOp, ne_eq, not_true_eq_false, if_false, Op.intArith] <;> rfl), .int _ _⟩)
  | (simp only [Option.some.injEq] at h; subst h
     exact ⟨_, key _ _ (by simp only [binOp, ne_eq, not_true_eq_false, if_false] <;> rfl), .int _ _⟩)
  | (simp only [Option.some.injEq] at h; subst h
     exact ⟨_, key _ _ (by simp only [binOp, ne_eq, not_true_eq_false, if_false, Op.intCmp] <;> rfl), .bool _⟩)
  | (split at h
     · cases h
     · rename_i h0
       simp only [Option.some.injEq] at h; subst h
       exact ⟨_, key _ _ (by simp only [binOp, ne_eq, not_true_eq_false, if_false, Op.intDiv, h0] <;> rfl), .int _ _⟩)
theorem binOp_eq {t : TypeId} {x y : AVal} {u v : Value} (hx : VR ρ x u) (hy : VR ρ y v) (n1 : ∀ k m k' n, x = .int k m → y = .int k' n → False) (n2 : ∀ s s', x = .str s → y = .str s' → False)
  {k : Kd} {c b : Bool} (hb : aeq k c x y = some b) : binOp .eql t u v = (do pure (.bool (← Op.equal t u v))) ∧ binOp .neq t u v = (do pure (.bool (!(← Op.equal t u v)))) := by
 have j1 : x ≠ .junk := by rintro rfl; cases k <;> simp [aeq] at hb
 have j2 : y ≠ .junk := by rintro rfl; cases k <;> simp [aeq] at hb
 have j3 : ∀ k m v lo hi, x ≠ .part k m v lo hi := by rintro a1 a2 a3 a4 a5 rfl; cases k <;> simp [aeq] at hb
 have j4 : ∀ k m v lo hi, y ≠ .part k m v lo hi := by rintro a1 a2 a3 a4 a5 rfl; cases k <;> simp [aeq] at hb
 clear hb
 cases hx <;> cases hy <;> first
  | exact (j1 rfl).elim
  | exact (j2 rfl).elim
  | exact (j3 _ _ _ _ _ rfl).elim
  | exact (j4 _ _ _ _ _ rfl).elim
  | exact (n1 _ _ _ _ rfl rfl).elim
  | exact (n2 _ _ rfl rfl).elim
  | exact ⟨rfl, rfl⟩
theorem op_bin (hE : EnvOK P E) {x y : Operand} {op : BinOp} {t yt : TypeId} (ht : TR ρ T a.tmps) (hw : WR K ρ H w) (ho : o.op = .binOp op t x y yt)
  (he : aop E T H (.bin op (kindOf P E t) (isConstO x || isConstO y) x y) = some (out, H')) : OutS P ρ H w (execOp a.eval o) out H' := by
 simp only [aop] at he
 split at he
 ·rename_i p q hx hy
  split at he
  ·rename_i v hv
   have vx := aev_sound ht hx
   have vy := aev_sound ht hy
   have hrun : ∃ u, (eqGuard op t x y (a.eval x) (a.eval y)).run P w = .ok () w ∧ (binOp op t (a.eval x) (a.eval y)).run P w = .ok u w ∧ VR ρ v u := by
    unfold abin at hv
    split at hv
    ·rename_i k m q lo hi k' b
     split at hv
     ·rename_i hk
      subst hk
      rw [vy.int_inv]
      obtain ⟨n, e, h1, h2, h3⟩ := vx.part_inv
      rw [e]
      obtain ⟨r, hr, hpr, hs1, hs2⟩ := partBin_sound (ρ := ρ) h1 h2 h3 hv
      obtain ⟨u, g1, g2⟩ := binOp_int (P := P) (w := w) (ρ := ρ) (t := t) hs1 hs2 hr
      exact ⟨u, eqGuard_plain _ t x y _ _ (by simp) (by simp), g1, hpr u g2⟩
     ·cases hv
    ·rename_i k m k' n
     rw [vx.int_inv, vy.int_inv]
     split at hv
     ·split at hv
      ·cases hv
      ·rename_i h0
       cases hv
       exact ⟨_, eqGuard_plain _ t x y _ _ (by simp) (by simp), by simp only [binOp, Op.shift, h0, if_false]; rfl, .int _ _⟩
     ·split at hv
      ·cases hv
      ·rename_i h0
       cases hv
       exact ⟨_, eqGuard_plain _ t x y _ _ (by simp) (by simp), by simp only [binOp, Op.shift, h0, if_false]; rfl, .int _ _⟩
     ·rename_i n1 n2
      split at hv
      ·rename_i hk
       subst hk
       obtain ⟨u, h1, h2⟩ := binOp_int (P := P) (w := w) (ρ := ρ) (t := t) (fun e => n1 e) (fun e => n2 e) hv
       exact ⟨u, eqGuard_plain _ t x y _ _ (by simp) (by simp), h1, h2⟩
      ·cases hv
    ·rename_i s s'
     rw [vx.str_inv, vy.str_inv]
     split at hv
     ·cases hv
      exact ⟨_, eqGuard_plain _ t x y _ _ (by simp) (by simp), by simp only [binOp, Op.stringOp]; rfl, .bool _⟩
     ·cases hv
      exact ⟨_, eqGuard_plain _ t x y _ _ (by simp) (by simp), by simp only [binOp, Op.stringOp]; rfl, .bool _⟩
     ·cases hv
    ·rename_i n1 n2
     split at hv
     ·split at hv
      ·rename_i b hb'
       cases hv
       obtain ⟨b1, b2⟩ := binOp_eq (t := t) vx vy n1 n2 hb'
       obtain ⟨g1, g2⟩ := aeq_sound (w := w) hE rfl vx vy hb' .eql x y rfl
       exact ⟨.bool b, g1, by rw [b1]; simp [g2], .bool _⟩
      ·cases hv
     ·split at hv
      ·rename_i b hb'
       cases hv
       obtain ⟨b1, b2⟩ := binOp_eq (t := t) vx vy n1 n2 hb'
       obtain ⟨g1, g2⟩ := aeq_sound (w := w) hE rfl vx vy hb' .neq x y rfl
       exact ⟨.bool (!b), g1, by rw [b2]; simp [g2], .bool _⟩
      ·cases hv
     ·cases hv
   obtain ⟨u, h1, h2, h3⟩ := hrun
   refine OutR.same hw ?_ h3 he
   simp [execOp, ho, h1, h2]
  ·cases he
 ·cases he
end
end Go.Sim
end
section
namespace Go.Sim
variable [RO]
theorem fold_set (off : Nat) : ∀ (l : List Value) (k : Nat) (cs : Array Value) (q : Nat), off + k + l.length ≤ cs.size →
  (((l.zipIdx k).foldl (fun cs (x : Value × Nat) => cs.setIfInBounds (off + x.2) x.1) cs)[q]? = if off + k ≤ q ∧ q < off + k + l.length then l[q - (off + k)]? else cs[q]?)
 | [], k, cs, q, _ => by
  simp only [List.zipIdx_nil, List.foldl_nil, List.length_nil]
  rw [if_neg (by omega)]
 | v :: l, k, cs, q, h => by
  simp only [List.zipIdx_cons, List.foldl_cons, List.length_cons] at h ⊢
  rw [fold_set off l (k + 1) _ q (by simp; omega)]
  by_cases h1 : off + (k + 1) ≤ q ∧ q < off + (k + 1) + l.length
  ·rw [if_pos h1, if_pos (by omega)]
   rw [show q - (off + k) = (q - (off + (k + 1))) + 1 from by omega]
   simp
  ·rw [if_neg h1]
   by_cases h2 : q = off + k
   ·subst h2
    rw [if_pos (by omega)]
    have : off + k < cs.size := by omega
    simp [this]
   ·rw [if_neg (by omega), Array.getElem?_setIfInBounds_ne (by omega)]
theorem fold_size (off : Nat) : ∀ (l : List Value) (k : Nat) (cs : Array Value), ((l.zipIdx k).foldl (fun cs (x : Value × Nat) => cs.setIfInBounds (off + x.2) x.1) cs).size = cs.size
 | [], _, _ => rfl
 | v :: l, k, cs => by
  simp only [List.zipIdx_cons, List.foldl_cons]
  rw [fold_size off l (k + 1)]
  simp
section
variable {P : Program} {E : EnvD} {K : Nat → Prop} {ρ : Ren} {H H' : AHeap} {w : World} {T : Tmps} {a : Act} {out : AOut} {o : Oper}
def Placed (place : Nat → Option (Nat × Nat)) : List (Nat × Operand) → List (Nat × Nat × Operand) → Prop
 | [], [] => True
 | (i, x) :: l, (p, s, y) :: m => place i = some (p, s) ∧ x = y ∧ Placed place l m
 | _, _ => False
theorem fill_sound (ht : TR ρ T a.tmps) (place : Nat → Option (Nat × Nat)) : ∀ (l : List (Nat × Operand)) (m : List (Nat × Nat × Operand)) (z c : Rope AVal) (cells : Array Value),
  Placed place l m → fillA T z m = some c → cells.size = z.size → RR ρ z cells 0 →
  ∃ cells', Instr.fill place cells (l.map fun (i, x) => (i, a.eval x)) = some cells' ∧ cells'.size = c.size ∧ RR ρ c cells' 0
 | [], [], z, c, cells, _, h, hs, hr => by
  simp only [fillA, Option.some.injEq] at h; subst h
  exact ⟨cells, rfl, hs, hr⟩
 | [], _ :: _, _, _, _, h, _, _, _ => h.elim
 | _ :: _, [], _, _, _, h, _, _, _ => h.elim
 | (i, x) :: l, (p, s, y) :: m, z, c, cells, hp, h, hs, hr => by
  obtain ⟨h1, rfl, h3⟩ := hp
  simp only [fillA] at h
  split at h
  ·rename_i v hv
   split at h
   ·rename_i d hd
    split at h
    ·rename_i hz
     simp only [Bool.and_eq_true, decide_eq_true_eq] at hz
     obtain ⟨e1, e2⟩ := RR.cells (aev_sound ht hv) hd
     have hput : RR ρ (putAll z p d) (((a.eval x).cells.zipIdx.foldl (fun cs (c, j) => cs.setIfInBounds (p + j) c) cells)) 0 := by
      refine RR.put' hr e2 e1 (by omega) fun q => ?_
      rw [← Array.foldl_toList, Array.toList_zipIdx]
      have := fold_set p (a.eval x).cells.toList 0 cells q (by simp; omega)
      simp only [Nat.add_zero, Nat.zero_add, Array.length_toList, Array.getElem?_toList] at this ⊢
      exact this
     have hsz : ((a.eval x).cells.zipIdx.foldl (fun cs (c, j) => cs.setIfInBounds (p + j) c) cells).size = (putAll z p d).size := by
      rw [← Array.foldl_toList, Array.toList_zipIdx, size_putAll z p d (by omega)]
      have := fold_size p (a.eval x).cells.toList 0 cells
      rw [← hs]
      exact this
     obtain ⟨cells', g1, g2, g3⟩ := fill_sound ht place l m _ c _ h3 h hsz hput
     refine ⟨cells', ?_, g2, g3⟩
     simp only [List.map_cons, Instr.fill, h1]
     rw [if_neg]
     ·exact g1
     ·simp; omega
    ·cases h
   ·cases h
  ·cases h
theorem partsP_placed (places : List (Nat × Nat)) : ∀ (l : List (Nat × Operand)) (m : List (Nat × Nat × Operand)), partsP places l = some m → Placed (places.toArray[·]?) l m
 | [], m, h => by simp only [partsP, Option.some.injEq] at h; subst h; trivial
 | (i, x) :: l, m, h => by
  simp only [partsP] at h
  split at h
  ·rename_i p s hp
   split at h
   ·rename_i r hr
    simp only [Option.some.injEq] at h; subst h
    exact ⟨by simpa using hp, rfl, partsP_placed places l r hr⟩
   ·cases h
  ·cases h
theorem partsA_placed (s : Nat) : ∀ (l : List (Nat × Operand)), Placed (fun i => some (i * s, s)) l (partsA s l)
 | [] => trivial
 | _ :: l => ⟨rfl, rfl, partsA_placed s l⟩
theorem op_build (hE : EnvOK P E) {t : TypeId} {ps : Array (Nat × Operand)} {z : Rope AVal} {l : List (Nat × Nat × Operand)} (ht : TR ρ T a.tmps) (hw : WR K ρ H w) (ho : o.op = .build t ps)
  (hc : comp P E (.build t ps) = some (.build z l)) (he : aop E T H (.build z l) = some (out, H')) : OutS P ρ H w (execOp a.eval o) out H' := by
 simp only [aop] at he
 split at he
 ·rename_i c hf
  have key : ∃ cells, P.built t (ps.map fun (i, x) => (i, a.eval x)).toList = some cells ∧ cells.size = c.size ∧ RR ρ c cells 0 := by
   have hmap : (ps.map fun (i, x) => (i, a.eval x)).toList = ps.toList.map fun (i, x) => (i, a.eval x) := by simp
   simp only [comp] at hc
   split at hc
   ·rename_i z' fs hz hu
    split at hc
    ·rename_i places hp
     split at hc
     ·rename_i m hm
      simp only [Option.some.injEq, AOp.build.injEq] at hc
      obtain ⟨rfl, rfl⟩ := hc
      obtain ⟨i, v, h1, h2, h3, h4, h5, _⟩ := hE.zro t _ hz
      obtain ⟨cells, g1, g2, g3⟩ := fill_sound (a := a) ht _ _ _ _ c _ (partsP_placed places ps.toList _ hm) hf h4 (h5 ρ)
      refine ⟨cells, ?_, g2, g3⟩
      simp only [Program.built, h1, hu, h2, hp, hmap]
      exact g1
     ·cases hc
    ·cases hc
   ·rename_i z' n e hz hu
    split at hc
    ·rename_i s hs
     simp only [Option.some.injEq, AOp.build.injEq] at hc
     obtain ⟨rfl, rfl⟩ := hc
     obtain ⟨i, v, h1, h2, h3, h4, h5, _⟩ := hE.zro t _ hz
     obtain ⟨cells, g1, g2, g3⟩ := fill_sound (a := a) ht _ _ _ _ c _ (partsA_placed s ps.toList) hf h4 (h5 ρ)
     refine ⟨cells, ?_, g2, g3⟩
     cases hi : P.info? e with
     | none => simp [csize, hi] at hs
     | some ie =>
      simp only [csize, hi, Option.map_some, Option.some.injEq] at hs
      subst hs
      simp only [Program.built, h1, hu, h2, hi, hmap]
      exact g1
    ·cases hc
   ·cases hc
  obtain ⟨cells, k1, k2, k3⟩ := key
  refine OutR.same hw ?_ (RR.agg k2 k3) he
  have hrun := run_build (P := P) w t _ cells k1
  have hexec : (execOp a.eval o).run P w = ((Instr.build t (ps.map fun (i, x) => (i, a.eval x))).run P w).andThen fun v w' => .ok (.value v) w' := by
   unfold execOp
   rw [ho]
   exact Sem.run_bind P w _ _
  rw [hexec, hrun]
  rfl
 ·cases he
theorem size_tile (z : Rope AVal) : ∀ n, (tile z n).size = n * z.size
 | 0 => by simp [tile, Rope.size]
 | n + 1 => by simp only [tile, Rope.size_cat, size_tile z n]; rw [Nat.succ_mul]
theorem get_tile (z : Rope AVal) : ∀ n i, i < n * z.size → (tile z n).get i = z.get (i % z.size)
 | 0, i, h => by omega
 | n + 1, i, h => by
  simp only [tile, Rope.get_cat, size_tile]
  by_cases h1 : i < n * z.size
  ·rw [if_pos h1, get_tile z n i h1]
  ·rw [if_neg h1]
   rw [Nat.succ_mul] at h
   have : i % z.size = i - n * z.size := by
    have e : i = (i - n * z.size) + n * z.size := by omega
    rw [e, Nat.add_mul_mod_self_right, Nat.mod_eq_of_lt (by omega)]
    omega
   rw [this]
theorem size_tileN (z : Rope AVal) (n : Nat) : (tileN z n).size = n * z.size := by
 unfold tileN
 split
 ·simp [Rope.size]
 ·exact size_tile z n
theorem get_tileN (z : Rope AVal) (n i : Nat) (h : i < n * z.size) : (tileN z n).get i = z.get (i % z.size) := by
 unfold tileN
 split
 ·simp [Rope.size] at h
  simp [Rope.get, Rope.size, h, Nat.mod_one]
 ·exact get_tile z n i h
theorem RR.tiles {z : Rope AVal} {v : Array Value} (hs : v.size = z.size) (hr : RR ρ z v 0) (n : Nat) (r : Rope AVal) (hz : r.size = n * z.size) (hg : ∀ i, i < n * z.size → r.get i = z.get (i % z.size)) (m : Nat) (hm : m = n * z.size) :
  RR ρ r ((Array.range m).map (v[· % v.size]!)) 0 := by
 intro i hi
 subst hm
 rw [hz] at hi
 have hz0 : 0 < z.size := by
  rcases Nat.eq_zero_or_pos z.size with h | h
  ·rw [h] at hi; omega
  ·exact h
 have hm : i % z.size < z.size := Nat.mod_lt _ hz0
 obtain ⟨x, u, x1, x2, x3, x4⟩ := hr (i % z.size) hm
 refine ⟨x, u, by rw [hg i hi]; exact x1, x2, ?_, x4⟩
 rw [Nat.zero_add] at x3
 rw [Nat.zero_add, Array.getElem?_map, Array.getElem?_range, if_pos hi, Option.map_some, hs]
 have : i % z.size < v.size := by omega
 simp only [getElem!_pos v (i % z.size) this]
 simpa [this] using x3
theorem op_bsl (hE : EnvOK P E) {t e : TypeId} {n s : Nat} {ps : Array (Nat × Operand)} {z : Rope AVal} (ht : TR ρ T a.tmps) (hw : WR K ρ H w) (ho : o.op = .buildSlice t n ps)
  (hu : P.underlying t = some (.slice e)) (hz : E.zro e = some z) (hs : csize P e = some s) (h1 : z.size = s) (h2 : n * s ≤ 2 ^ 24)
  (he : aop E T H (.bsl n (tile z n) (partsA s ps.toList)) = some (out, H')) : OutR P E K ρ H w (execOp a.eval o) out H' := by
 simp only [aop] at he
 split at he
 ·rename_i c hf
  obtain ⟨i, v, g1, g2, g3, g4, g5, _⟩ := hE.zro e z hz
  have hle : ¬ (n * s > 2 ^ 24) := by omega
  have fin : ∀ zc : Array Value, ((Array.range (n * s)).map (zc[· % zc.size]!)).size = (tile z n).size → RR ρ (tile z n) ((Array.range (n * s)).map (zc[· % zc.size]!)) 0 →
    ((∀ cells, Instr.fill (fun i => some (i * s, s)) ((Array.range (n * s)).map (zc[· % zc.size]!)) (List.map (fun x => (x.fst, a.eval x.snd)) ps.toList) = some cells →
     (execOp a.eval o).run P w = ((newRow e cells).run P w).andThen fun r w' => .ok (.value (.slice (some r) n n)) w')) → OutR P E K ρ H w (execOp a.eval o) out H' := by
   intro zc k2 k3 hrun
   obtain ⟨cells, f1, f2, f3⟩ := fill_sound (a := a) ht _ _ _ _ c _ (partsA_placed s ps.toList) hf k2 k3
   obtain ⟨ρ', hr, hn, hp⟩ := hw.rowNew (P := P) e f2 f3
   refine OutR.post ?_ (.slice hn) hp he
   rw [hrun cells f1, hr]
   rfl
  by_cases hn : n * s = 0
  ·refine fin #[] (by simp [size_tile, h1]) (fun i hi => ?_) fun cells hf => ?_
   ·rw [size_tile, h1, hn] at hi; omega
   ·simp only [execOp, ho, Instr.buildSlice, Sem.run_bind, run_und hu, Result.andThen_ok, run_size hs, if_neg hle, if_pos hn, Sem.run_pure, Array.toList_map, hf]
    cases (newRow e cells).run P w <;> rfl
  ·refine fin v.cells (by simp [size_tile, h1]) (RR.tiles g4 (g5 ρ) n (tile z n) (size_tile z n) (fun i hi => get_tile z n i hi) _ (by rw [h1])) fun cells hf => ?_
   simp only [execOp, ho, Instr.buildSlice, Sem.run_bind, run_und hu, Result.andThen_ok, run_size hs, if_neg hle, if_neg hn, Sem.run_pure, Array.toList_map, run_zero g1 g2, hf]
   cases (newRow e cells).run P w <;> rfl
 ·cases he
theorem op_mks (hE : EnvOK P E) {t e : TypeId} {i : TypeInfo} {l c : Operand} {z : Rope AVal} (ht : TR ρ T a.tmps) (hw : WR K ρ H w) (ho : o.op = .makeSlice t l c)
  (hu : P.underlying t = some (.slice e)) (hz : E.zro e = some z) (hi : P.info? e = some i) (h1 : z.size = i.size)
  (he : aop E T H (.mks i.bytes z l c) = some (out, H')) : OutR P E K ρ H w (execOp a.eval o) out H' := by
 simp only [aop] at he
 split at he
 ·rename_i p q hl hc
  split at he
  ·rename_i hb
   simp only [Bool.and_eq_true, decide_eq_true_eq] at hb
   obtain ⟨⟨⟨b1, b2⟩, b3⟩, b4⟩ := hb
   obtain ⟨i', v, g1, g2, g3, g4, g5, _⟩ := hE.zro e z hz
   rw [hi] at g1; cases g1
   have hq : IntKind.i64.wrap q = q := by unfold IntKind.wrap; simp [IntKind.bits, IntKind.signed]; omega
   have hp : IntKind.i64.wrap p = p := by unfold IntKind.wrap; simp [IntKind.bits, IntKind.signed]; omega
   have hbytes : ¬ ((i.bytes : Int) * q > 2 ^ 48) := by
    have : ((i.bytes * q.toNat : Nat) : Int) ≤ 2 ^ 40 := by exact_mod_cast b3
    rw [Int.natCast_mul, Int.toNat_of_nonneg (by omega)] at this
    omega
   have hq0 : ¬ (q < 0) := by omega
   have hp0 : ¬ (p < 0) := by omega
   have hpq : ¬ (p > q) := by omega
   have fin : ∀ zc : Array Value, ((Array.range (q.toNat * i.size)).map (zc[· % zc.size]!)).size = (tileN z q.toNat).size → RR ρ (tileN z q.toNat) ((Array.range (q.toNat * i.size)).map (zc[· % zc.size]!)) 0 →
     (execOp a.eval o).run P w = ((newRow e ((Array.range (q.toNat * i.size)).map (zc[· % zc.size]!))).run P w).andThen (fun r w' => .ok (.value (.slice (some r) p.toNat q.toNat)) w') → OutR P E K ρ H w (execOp a.eval o) out H' := by
    intro zc k2 k3 hrun
    obtain ⟨ρ', hr, hn, hp⟩ := hw.rowNew (P := P) e k2 k3
    refine OutR.post ?_ (.slice hn) hp he
    rw [hrun, hr]
    rfl
   by_cases hn : q.toNat * i.size = 0
   ·refine fin #[] (by simp [size_tileN, h1]) (fun i hi => ?_) ?_
    ·rw [size_tileN, h1, hn] at hi; omega
    ·simp only [execOp, ho, Instr.makeSlice, Sem.run_bind, run_und hu, Result.andThen_ok, (aev_sound ht hl).int_inv, (aev_sound ht hc).int_inv, asInt, asIntOf, Sem.run_pure, run_info hi, hq, hp,
      decide_eq_false hq0, decide_eq_false hp0, decide_eq_false hpq, decide_eq_false hbytes, Bool.or_false, Bool.false_eq_true, if_false, run_askRoom, run_size (show csize P e = some i.size by simp [csize, hi]), if_pos hn]
     cases (newRow e _).run P w <;> rfl
   ·refine fin v.cells (by simp [size_tileN, h1]) (RR.tiles g4 (g5 ρ) q.toNat (tileN z q.toNat) (size_tileN z _) (fun i hi => get_tileN z _ i hi) _ (by rw [h1])) ?_
    simp only [execOp, ho, Instr.makeSlice, Sem.run_bind, run_und hu, Result.andThen_ok, (aev_sound ht hl).int_inv, (aev_sound ht hc).int_inv, asInt, asIntOf, Sem.run_pure, run_info hi, hq, hp,
     decide_eq_false hq0, decide_eq_false hp0, decide_eq_false hpq, decide_eq_false hbytes, Bool.or_false, Bool.false_eq_true, if_false, run_askRoom, run_size (show csize P e = some i.size by simp [csize, hi]), if_neg hn, run_zero hi g2]
    cases (newRow e _).run P w <;> rfl
  ·cases he
 ·cases he
end
end Go.Sim
end
section
namespace Go.Sim
variable [RO]
section
variable {P : Program} {E : EnvD} {K : Nat → Prop} {ρ : Ren} {H H' : AHeap} {w : World} {T : Tmps} {a : Act} {out : AOut} {o : Oper}
theorem addr_add (b p n : Nat) : (⟨b, p, none⟩ : Addr).add n = ⟨b, p + n, none⟩ := by unfold Addr.add; split <;> simp_all
theorem run_bound {x : Operand} {v : AVal} {n y : Nat} {c : BoundsCode} (ht : TR ρ T a.tmps) (hv : aev T x = some v) (hn : anat v = some n) (hy : n ≤ y) :
  (Instr.sliceBound (a.eval x) y c).run P w = .ok n w := by
 obtain ⟨k, e⟩ := anat_inv (aev_sound ht hv) hn
 rw [e]
 simp [Instr.sliceBound, asIntOf, hy]
theorem run_bounds {lo hi : Option Operand} {isS : Bool} {n c c' l h : Nat} (ht : TR ρ T a.tmps) (hh : abound T hi n = some h) (hl : abound T lo 0 = some l) (h1 : l ≤ h) (h2 : h ≤ c) (h3 : c ≤ c') :
  (Instr.sliceBounds isS n c' (lo.map a.eval) (hi.map a.eval) none).run P w = .ok (l, h, c') w := by
 have hH : (match hi.map a.eval, (none : Option Value) with
   | some v, some _ => Instr.sliceBound v c' .slice3B
   | some v, none => Instr.sliceBound v c' (if isS then .sliceAcap else .sliceAlen)
   | none, none => pure n
   | none, some _ => stuck "Slice: max without high" : Sem Nat).run P w = .ok h w := by
  cases hi with
  | none => simp only [abound, Option.some.injEq] at hh; subst hh; rfl
  | some x =>
   simp only [abound] at hh
   split at hh
   ·rename_i v hv
    exact run_bound ht hv hh (by omega)
   ·cases hh
 have hL : (match lo.map a.eval with
   | some v => Instr.sliceBound v h (if (none : Option Value).isSome then .slice3C else .sliceB)
   | none => pure 0 : Sem Nat).run P w = .ok l w := by
  cases lo with
  | none => simp only [abound, Option.some.injEq] at hl; subst hl; rfl
  | some x =>
   simp only [abound] at hl
   split at hl
   ·rename_i v hv
    exact run_bound ht hv hl h1
   ·cases hl
 unfold Instr.sliceBounds
 cases hi with
 | none =>
  simp only [abound, Option.some.injEq] at hh; subst hh
  cases lo with
  | none =>
   simp only [abound, Option.some.injEq] at hl; subst hl
   rfl
  | some y =>
   simp only [Option.map_none, Option.map_some] at hL ⊢
   simp only [Sem.run_bind, Sem.run_pure, Result.andThen_ok]
   simp only [Option.isSome_none, Bool.false_eq_true, if_false] at hL ⊢
   rw [hL]
   rfl
 | some x =>
  simp only [Option.map_some] at hH
  cases lo with
  | none =>
   simp only [abound, Option.some.injEq] at hl; subst hl
   simp only [Option.map_none, Option.map_some, Sem.run_bind, Sem.run_pure, Result.andThen_ok]
   rw [hH]
   rfl
  | some y =>
   simp only [Option.map_some] at hL
   simp only [Option.map_some, Sem.run_bind, Sem.run_pure, Result.andThen_ok]
   rw [hH]
   simp only [Result.andThen_ok]
   simp only [Option.isSome_none, Bool.false_eq_true, if_false] at hL ⊢
   rw [hL]
   rfl
theorem op_sls {t e : TypeId} {s : Nat} {x : Operand} {lo hi : Option Operand} (ht : TR ρ T a.tmps) (hw : WR K ρ H w) (ho : o.op = .slice t x lo hi none)
  (hu : P.underlying t = some (.slice e)) (hs : csize P e = some s) (he : aop E T H (.sls s x lo hi) = some (out, H')) : OutS P ρ H w (execOp a.eval o) out H' := by
 simp only [aop] at he
 split at he
 ·rename_i p n c hx
  split at he
  ·rename_i h hh
   split at he
   ·rename_i l hl
    split at he
    ·rename_i hb
     simp only [Bool.and_eq_true, decide_eq_true_eq] at hb
     have hexec : ∀ v n' c', a.eval x = .slice v n' c' → ∀ q, (Instr.slice t (.slice v n' c') (lo.map a.eval) (hi.map a.eval) none).run P w = .ok q w → (execOp a.eval o).run P w = .ok (.value q) w := by
      intro v n' c' hv q hq
      simp only [execOp, ho, hv, Option.map_none, Instr.sliceAt, Sem.run_bind, run_und hu, Result.andThen_ok, hq, Sem.run_pure]
     cases p with
     | none =>
      obtain ⟨rfl, rfl, e1⟩ := (aev_sound ht hx).sliceN_inv
      refine OutR.same hw ?_ .sliceNil he
      refine hexec _ _ _ e1 _ ?_
      simp only [Instr.slice, Sem.run_bind, run_und hu, Result.andThen_ok, run_bounds (P := P) (w := w) (isS := true) ht hh hl hb.1 hb.2 (Nat.le_refl _), run_size hs, Sem.run_pure]
      have : h = 0 := by omega
      have : l = 0 := by omega
      subst_vars
      rfl
     | some p =>
      obtain ⟨i, q⟩ := p
      obtain ⟨loc, e1, e2⟩ := (aev_sound ht hx).slice_inv
      simp only at he
      have hrun0 : (Instr.slice t (.slice (some ⟨loc.blk, loc.off + q, none⟩) n (c + loc.sp)) (lo.map a.eval) (hi.map a.eval) none).run P w =
         .ok (.slice (if c + loc.sp = l then some ⟨loc.blk, loc.off + q, none⟩ else some ⟨loc.blk, loc.off + (q + l * s), none⟩) (h - l) (c + loc.sp - l)) w := by
        simp only [Instr.slice, Sem.run_bind, run_und hu, Result.andThen_ok, run_bounds (P := P) (w := w) (isS := true) ht hh hl hb.1 hb.2 (Nat.le_add_right c loc.sp), run_size hs, Sem.run_pure,
         Option.map_some, addr_add, Nat.add_assoc]
      have hcap0 : c + loc.sp - l = (c - l) + loc.sp := by omega
      split at he
      ·rename_i h0
       subst h0
       have hz := hexec _ _ _ e2 _ hrun0
       rw [hcap0] at hz
       refine OutR.same hw hz ?_ he
       split
       ·exact .slice e1
       ·rw [Nat.zero_mul, Nat.add_zero]; exact .slice e1
      split at he
      ·rename_i r g wr hget
       obtain ⟨cur, tt, fr, r1, r2, r3, r4, r5, r6⟩ := hw.row hget e1
       have hrun : (Instr.slice t (.slice (some ⟨loc.blk, loc.off + q, none⟩) n (c + loc.sp)) (lo.map a.eval) (hi.map a.eval) none).run P w =
         .ok (.slice (if c + loc.sp = l then some ⟨loc.blk, loc.off + q, none⟩ else some ⟨loc.blk, loc.off + (q + l * s), none⟩) (h - l) (c + loc.sp - l)) w := by
        simp only [Instr.slice, Sem.run_bind, run_und hu, Result.andThen_ok, run_bounds (P := P) (w := w) (isS := true) ht hh hl hb.1 hb.2 (Nat.le_add_right c loc.sp), run_size hs, Sem.run_pure,
         Option.map_some, addr_add, Nat.add_assoc]
       have hz := hexec _ _ _ e2 _ hrun
       have hcap : c + loc.sp - l = (c - l) + loc.sp := by omega
       rw [hcap] at hz
       split at he
       ·rename_i hlt
        rw [if_neg (by omega)] at hz
        exact OutR.same hw hz (.slice e1) he
       ·split at he
        ·rename_i hg
         rw [if_pos (by have := r3 hg; omega)] at hz
         exact OutR.same hw hz (.slice e1) he
        ·cases he
      ·cases he
    ·cases he
   ·cases he
  ·cases he
 ·cases he
theorem op_sla {t e : TypeId} {n s : Nat} {x : Operand} {lo hi : Option Operand} (ht : TR ρ T a.tmps) (hw : WR K ρ H w) (ho : o.op = .slice t x lo hi none)
  (hu : P.underlying t = some (.array n e)) (hs : csize P e = some s) (he : aop E T H (.sla n s x lo hi) = some (out, H')) : OutS P ρ H w (execOp a.eval o) out H' := by
 simp only [aop] at he
 split at he
 ·rename_i i q hx
  split at he
  ·rename_i r wr hget
   split at he
   ·rename_i h hh
    split at he
    ·rename_i l hl
     split at he
     ·rename_i hb
      simp only [Bool.and_eq_true, decide_eq_true_eq] at hb
      obtain ⟨loc, e1, e2⟩ := (aev_sound ht hx).ptr_inv
      obtain ⟨cur, tt, fr, r1, r2, r3, r4, r5, r6⟩ := hw.row hget e1
      have hsp := r3 rfl
      have hrun : (execOp a.eval o).run P w = .ok (.value (.slice (some ⟨loc.blk, loc.off + (if n = l then q else q + l * s), none⟩) (h - l) ((n - l) + loc.sp))) w := by
       simp only [execOp, ho, e2, Option.map_none, Instr.sliceAt, Sem.run_bind, run_und hu, Result.andThen_ok, Instr.sureAddr, Sem.run_pure,
        run_bounds (P := P) (w := w) (isS := false) ht hh hl hb.1 hb.2 (Nat.le_refl _), run_size hs, addr_add, Nat.add_assoc, hsp, Nat.add_zero]
       split <;> rfl
      exact OutR.same hw hrun (.slice e1) he
     ·cases he
    ·cases he
   ·cases he
  ·cases he
 ·cases he
theorem run_src {q : Option (Nat × Nat)} {m d n : Nat} {c : Rope AVal} {v : Value} (hw : WR K ρ H w) (hv : VR ρ (.slice q m d) v) (hs : hsrc H q n = some c) (s k : Nat) (hn : n = k * s) (h0 : q = none → n = 0) :
  ∃ cs, (Builtin.firstCells s k v).run P w = .ok cs w ∧ cs.size = c.size ∧ c.size = n ∧ RR ρ c cs 0 := by
 cases q with
 | none =>
  obtain ⟨rfl, rfl, rfl⟩ := hv.sliceN_inv
  simp only [hsrc, Option.some.injEq] at hs; subst hs
  refine ⟨#[], rfl, rfl, by simp [Rope.size, h0 rfl], fun i hi => ?_⟩
  simp [Rope.size] at hi
 | some p =>
  obtain ⟨i, o⟩ := p
  obtain ⟨l, e1, rfl⟩ := hv.slice_inv
  simp only [hsrc] at hs
  split at hs
  ·rename_i h0
   simp only [Option.some.injEq] at hs; subst hs
   refine ⟨#[], ?_, rfl, by simp [Rope.size, h0], fun i hi => by simp [Rope.size] at hi⟩
   simp only [Builtin.firstCells, ← hn, h0]
   exact run_loadCells (P := P) w _ 0 (fun _ => Go.undef) (fun j hj => by omega)
  obtain ⟨cs, g1, g2, g3, g4⟩ := hw.loadN (P := P) hs e1
  refine ⟨cs, ?_, by omega, g3, g4⟩
  simp only [Builtin.firstCells, ← hn]
  exact g1
end
end Go.Sim
end
section
namespace Go.Sim
variable [RO]
theorem size_zeroCells (z : Array Value) (n : Nat) : (Builtin.zeroCells z n).size = n * z.size := by simp [Builtin.zeroCells]
section
variable {P : Program} {E : EnvD} {K : Nat → Prop} {ρ : Ren} {H H' : AHeap} {w : World} {T : Tmps} {a : Act} {out : AOut} {o : Oper}
theorem op_cpy {x y : Operand} {c : Call} {t u e : TypeId} {s : Nat} (ht : TR ρ T a.tmps) (hw : WR K ρ H w) (ho : o.op = .call c) (hc : c.callee = .builtin .copy) (ha : c.args.toList = [x, y]) (hta : c.argTypes.toList = [t, u])
  (hu : P.underlying t = some (.slice e)) (hs : csize P e = some s) (he : aop E T H (.cpy s x y) = some (out, H')) : OutR P E K ρ H w (execOp a.eval o) out H' := by
 have ha' : c.args = #[x, y] := by rw [← Array.toArray_toList (xs := c.args), ha]
 have hta' : c.argTypes = #[t, u] := by rw [← Array.toArray_toList (xs := c.argTypes), hta]
 simp only [aop] at he
 split at he
 ·rename_i p n d q m f hx hy
  have hexec : (execOp a.eval o).run P w = ((Builtin.copy_ #[t, u] o.type #[a.eval x, a.eval y]).run P w).andThen fun v w' => .ok (.value v) w' := by
   simp only [execOp, ho, resolve, hc, ha', hta', Sem.run_bind, Sem.run_pure, Result.andThen_ok, invoke, builtin, List.map_toArray, List.map_cons, List.map_nil]
  split at he
  ·cases he
  ·rename_i new hnew
   have hlen : (Builtin.lenOf (a.eval y)).run P w = .ok m w := by
    have := aev_sound ht hy
    cases q with
    | none => obtain ⟨rfl, _, e1⟩ := this.sliceN_inv; rw [e1]; rfl
    | some q => obtain ⟨l, _, e1⟩ := VR.slice_inv (i := q.1) (o := q.2) this; rw [e1]; rfl
   have h0 : q = none → min m n * s = 0 := by
    rintro rfl
    obtain ⟨rfl, _, _⟩ := (aev_sound ht hy).sliceN_inv
    simp
   obtain ⟨cs, g1, g2, g3, g4⟩ := run_src (P := P) hw (aev_sound ht hy) hnew s (min m n) rfl h0
   cases p with
   | none =>
    obtain ⟨rfl, rfl, e1⟩ := (aev_sound ht hx).sliceN_inv
    refine OutS.loud hw (OutR.same hw ?_ (.int _ _) he)
    rw [hexec, e1]
    simp only [Builtin.copy_, List.getElem?_toArray, List.getElem?_cons_zero, List.getElem?_cons_succ, Sem.run_bind, run_und hu, Result.andThen_ok, hlen, run_size hs, Sem.run_pure]
    have : Nat.min m 0 = min m 0 := rfl
    rw [this, g1]
    rfl
   | some p =>
    obtain ⟨i, q'⟩ := p
    obtain ⟨l, e1, e2⟩ := (aev_sound ht hx).slice_inv
    simp only at he
    split at he
    ·rename_i H1 hst
     obtain ⟨w', s1, s2⟩ := hw.store hst g4 g2 e1 P
     refine OutR.post ?_ (.int _ _) s2 he
     rw [hexec, e2]
     simp only [Builtin.copy_, List.getElem?_toArray, List.getElem?_cons_zero, List.getElem?_cons_succ, Sem.run_bind, run_und hu, Result.andThen_ok, hlen, run_size hs, Sem.run_pure]
     have : Nat.min m n = min m n := rfl
     rw [this, g1]
     simp only [Result.andThen_ok, s1]
     rfl
    ·cases he
 ·rename_i p n d hx hy
  have hexec : (execOp a.eval o).run P w = ((Builtin.copy_ #[t, u] o.type #[a.eval x, a.eval y]).run P w).andThen fun v w' => .ok (.value v) w' := by
   simp only [execOp, ho, resolve, hc, ha', hta', Sem.run_bind, Sem.run_pure, Result.andThen_ok, invoke, builtin, List.map_toArray, List.map_cons, List.map_nil]
  obtain ⟨ad, ey⟩ := (aev_sound ht hy).es_inv
  have hlen : (Builtin.lenOf (a.eval y)).run P w = .ok 0 w := by rw [ey]; rfl
  have hf : ∀ k : Nat, (Builtin.firstCells s (Nat.min 0 k) (a.eval y)).run P w = .ok #[] w := by
   intro k
   rw [ey, show Nat.min 0 k = 0 from Nat.zero_min k]
   simp only [Builtin.firstCells, Nat.zero_mul]
   exact run_loadCells (P := P) w _ 0 (fun _ => Go.undef) (fun j hj => by omega)
  cases p with
  | none =>
   obtain ⟨rfl, rfl, e1⟩ := (aev_sound ht hx).sliceN_inv
   refine OutS.loud hw (OutR.same hw ?_ (.int _ _) he)
   rw [hexec, e1]
   simp only [Builtin.copy_, List.getElem?_toArray, List.getElem?_cons_zero, List.getElem?_cons_succ, Sem.run_bind, run_und hu, Result.andThen_ok, hlen, run_size hs, Sem.run_pure, hf]
   rfl
  | some p =>
   obtain ⟨i, q'⟩ := p
   obtain ⟨l, e1, e2⟩ := (aev_sound ht hx).slice_inv
   refine OutS.loud hw (OutR.same hw ?_ (.int _ _) he)
   rw [hexec, e2]
   simp only [Builtin.copy_, List.getElem?_toArray, List.getElem?_cons_zero, List.getElem?_cons_succ, Sem.run_bind, run_und hu, Result.andThen_ok, hlen, run_size hs, Sem.run_pure, hf]
   rw [show (Nat.min 0 n) = 0 from Nat.zero_min n]
   rfl
 ·cases he
theorem WR.grown (hw : WR K ρ H w) {c : Rope AVal} {cs z : Array Value} (e : TypeId) (s k : Nat) (hs : cs.size = c.size) (hc : RR ρ c cs 0) (hz : z.size = k * s) (h0 : s = 0 → k = 0) :
  ∃ ρ', ρ' H.next = some ⟨w.heap.size, 0, k⟩ ∧ Post K ρ w ρ' (H.new (.cells c s true)) (w.alloc (.cells (cs ++ z) e)) := by
 have hb : BR ρ ⟨w.heap.size, 0, k⟩ (.cells c s true) (.cells (cs ++ z) e (0, 0)) := by
  refine .cells (fun _ => rfl) ?_ h0 fun i hi => ?_
  ·show 0 + c.size + k * s ≤ (cs ++ z).size
   simp only [Array.size_append]; omega
  ·obtain ⟨x, v, x1, x2, x3, x4⟩ := hc i hi
   refine ⟨x, v, x1, x2, ?_, x4⟩
   rw [Nat.zero_add] at x3
   show (cs ++ z)[0 + i]? = some v
   rw [Nat.zero_add, Array.getElem?_append, if_pos (by omega)]
   exact x3
 exact ⟨_, if_pos rfl, hw.new _ _ _ rfl rfl hb⟩
theorem WR.lengthened (hw : WR K ρ H w) {i : Nat} {r new : Rope AVal} {s p n m : Nat} {cs : Array Value} (hb : H.get i = some (.cells r s true)) {l : Loc} (hl : ρ i = some l) (hend : p + n * s = r.size)
  (hc : RR ρ new cs 0) (hs : cs.size = new.size) (hn : new.size = m * s) (hsp : m ≤ l.sp) (P : Program) (hs0 : s ≠ 0) :
  ∃ w' ρ', (storeCells ⟨l.blk, l.off + (p + n * s), none⟩ cs.toList).run P w = .ok () w' ∧ ρ' H.next = some ⟨l.blk, l.off + p, l.sp - m⟩ ∧
   Post K ρ w ρ' ((H.kill i).new (.cells ((r.ext p (n * s)).cat new) s true)) w' := by
 obtain ⟨cur, t, fr, h1, h2, h3, h4, h5, h6⟩ := hw.row hb hl
 have h6 := h6 rfl; subst h6
 have hmul : l.sp * s = (l.sp - m) * s + m * s := by rw [← Nat.add_mul]; congr 1; omega
 have hrun := run_storeCells_at P l.blk (l.off + (p + n * s)) t cs.toList 0 cur w h1 (by simp; omega) (hc.oneCells hs)
 have hnK : ¬ K l.blk := h5 rfl
 have hlt : l.blk < w.heap.size := hw.lt hb hl
 generalize hnew : (cur.toList.take (l.off + (p + n * s) + 0) ++ cs.toList ++ cur.toList.drop (l.off + (p + n * s) + 0 + cs.toList.length)).toArray = arr at hrun
 have harr : ∀ q, arr[q]? = if l.off + (p + n * s) ≤ q ∧ q < l.off + (p + n * s) + cs.size then cs[q - (l.off + (p + n * s))]? else cur[q]? := by
  intro q
  rw [← hnew]
  have hlen : (cur.toList.take (l.off + (p + n * s) + 0)).length = l.off + (p + n * s) := by simp; omega
  simp only [List.getElem?_toArray, List.append_assoc, List.getElem?_append, hlen]
  by_cases h1 : q < l.off + (p + n * s)
  ·rw [if_pos h1, if_neg (by omega)]; simp [h1]
  ·rw [if_neg h1]
   by_cases h2 : q - (l.off + (p + n * s)) < cs.toList.length
   ·rw [if_pos h2, if_pos (by simp at h2; omega)]; simp
   ·rw [if_neg h2, if_neg (by simp at h2; omega)]
    rw [List.getElem?_drop]
    simp at h2
    rw [show l.off + (p + n * s) + 0 + cs.toList.length + (q - (l.off + (p + n * s)) - cs.toList.length) = q from by simp; omega]
    simp
 have hasz : arr.size = cur.size := by rw [← hnew]; simp; omega
 obtain ⟨x1, x2⟩ := h4.ext p (n * s) (by omega)
 let l' : Loc := ⟨l.blk, l.off + p, l.sp - m⟩
 let ρ' : Ren := fun j => if j = H.next then some l' else ρ j
 have hle : ρ.le ρ' := by
  intro j lj e
  have := hw.dom j lj e
  show (if j = H.next then some l' else ρ j) = some lj
  rw [if_neg (by omega)]; exact e
 have hcell : RR ρ ((r.ext p (n * s)).cat new) arr (l.off + p) := by
  intro j hj
  rw [Rope.size_cat, x1] at hj
  rw [Rope.get_cat, x1]
  by_cases hj1 : j < n * s
  ·rw [if_pos hj1]
   obtain ⟨x, v, y1, y2, y3, y4⟩ := x2 j (by omega)
   refine ⟨x, v, y1, y2, ?_, y4⟩
   rw [harr, if_neg (by omega)]; exact y3
  ·rw [if_neg hj1]
   obtain ⟨x, v, y1, y2, y3, y4⟩ := hc (j - n * s) (by omega)
   refine ⟨x, v, y1, y2, ?_, y4⟩
   rw [harr, if_pos (by omega), ← y3]
   congr 1; omega
 refine ⟨_, ρ', hrun, if_pos rfl, hle, ⟨?_, ?_, hw.ro, ?_, ?_, fun b hb => (setRow_other w l.blk b arr (fun e => hnK (e ▸ hw.ro b hb))).trans (hw.same b hb)⟩, fun k hk => ?_, ⟨by simp, rfl, rfl, rfl⟩⟩
 ·intro j bj hj
  rw [AHeap.get_new] at hj
  split at hj
  ·rename_i e
   have e' : H.next = j := e
   subst e'
   cases hj
   refine ⟨l', _, if_pos rfl, setRow_heap w l.blk cur arr t (0, 0) h1, ?_, fun _ => hnK, fun hf => Bool.noConfusion hf⟩
   refine .cells (fun _ => rfl) ?_ (fun e => absurd e hs0) (hcell.mono hle)
   show l.off + p + ((r.ext p (n * s)).cat new).size + (l.sp - m) * s ≤ arr.size
   rw [Rope.size_cat, x1, hasz]; omega
  ·rw [AHeap.get_kill] at hj
   split at hj
   ·cases hj
   ·rename_i hne
    obtain ⟨lj, oj, y1, y2, y3, y4⟩ := hw.live j bj hj
    refine ⟨lj, oj, hle _ _ y1, ?_, y3.mono hle, y4⟩
    rw [setRow_other w l.blk lj.blk arr (hw.ne hb hj rfl hl y1 hne)]
    exact y2
 ·intro j k bj bk lj lk hj hk hwj hwk hlj hlk e
  have inv : ∀ j bj lj, ((H.kill i).new (.cells ((r.ext p (n * s)).cat new) s true)).get j = some bj → ρ' j = some lj →
    (j = H.next ∧ lj = l') ∨ (j ≠ H.next ∧ i ≠ j ∧ H.get j = some bj ∧ ρ j = some lj) := by
   intro j bj lj hj hlj
   rw [AHeap.get_new] at hj
   split at hj
   ·rename_i e
    have e' : H.next = j := e
    subst e'
    have : ρ' H.next = some l' := if_pos rfl
    rw [this] at hlj; cases hlj
    exact .inl ⟨rfl, rfl⟩
   ·rename_i hne
    have hne' : ¬ H.next = j := hne
    rw [AHeap.get_kill] at hj
    split at hj
    ·cases hj
    ·rename_i hne2
     refine .inr ⟨fun e => hne' e.symm, hne2, hj, ?_⟩
     have : ρ' j = ρ j := if_neg (fun e => hne' e.symm)
     rw [this] at hlj; exact hlj
  rcases inv j bj lj hj hlj with ⟨rfl, rfl⟩ | ⟨a1, a2, a3, a4⟩
  ·rcases inv k bk lk hk hlk with ⟨rfl, rfl⟩ | ⟨b1, b2, b3, b4⟩
   ·rfl
   ·exact (hw.ne (li := l) hb b3 rfl hl b4 b2 e.symm).elim
  ·rcases inv k bk lk hk hlk with ⟨rfl, rfl⟩ | ⟨b1, b2, b3, b4⟩
   ·exact (hw.ne (li := l) hb a3 rfl hl a4 a2 e).elim
   ·exact hw.inj j k bj bk lj lk a3 b3 hwj hwk a4 b4 e
 ·intro j lj e
  show j < H.next + 1
  by_cases hj : j = H.next
  ·omega
  ·have : ρ' j = ρ j := if_neg hj
   rw [this] at e
   have := hw.dom j lj e; omega
 ·intro b hb'; have := hw.kb b hb'; simpa using this
 ·exact setRow_other w l.blk k arr (fun e => hnK (e ▸ hk))
theorem run_app_room {t u e eu ty : TypeId} {i : TypeInfo} {v y : Value} {base : Option Addr} {n m cap : Nat} {cs : Array Value} {w w' : World} (hu : P.underlying t = some (.slice e)) (hu' : P.underlying u = some (.slice eu)) (hi : P.info? e = some i)
  (hv : v = .slice base n cap) (hy : (Builtin.lenOf y).run P w = .ok m w) (hr : n + m ≤ cap) (hf : (Builtin.firstCells i.size m y).run P w = .ok cs w)
  (hs : match base with | some A => (storeCells (A.add (n * i.size)) cs.toList).run P w = .ok () w' | none => w' = w) :
  (Builtin.append_ #[t, u] ty #[v, y]).run P w = .ok (.slice base (n + m) cap) w' := by
 subst hv
 cases base with
 | none =>
  simp only at hs; subst hs
  simp [Builtin.append_, run_und hu, run_und hu', sizeOf, typeInfo, hi, hy, hr, hf]
 | some A =>
  simp only at hs
  simp [Builtin.append_, run_und hu, run_und hu', sizeOf, typeInfo, hi, hy, hr, hf, hs]
theorem run_app_grow {t u e eu ty : TypeId} {i : TypeInfo} {z v y : Value} {base : Option Addr} {n m cap : Nat} {old new : Array Value} {w : World} (hu : P.underlying t = some (.slice e)) (hu' : P.underlying u = some (.slice eu)) (hi : P.info? e = some i)
  (hz : i.zero = some z) (hv : v = .slice base n cap) (hy : (Builtin.lenOf y).run P w = .ok m w) (hr : ¬ (n + m ≤ cap)) (h63 : n + m ≤ 2 ^ 40) (hb : (n + m) * i.bytes ≤ 2 ^ 40)
  (ho : (Builtin.firstCells i.size n v).run P w.drew = .ok old w.drew) (hf : (Builtin.firstCells i.size m y).run P w.drew = .ok new w.drew) :
  (Builtin.append_ #[t, u] ty #[v, y]).run P w = .ok (.slice (some ⟨w.heap.size, 0, none⟩) (n + m) (grownCap w (n + m) cap e))
   (w.drew.alloc (.cells (old ++ new ++ Builtin.zeroCells z.cells (grownCap w (n + m) cap e - (n + m))) e)) := by
 subst hv
 have h63' : ¬ ((9223372036854775807 : Int) < (n : Int) + (m : Int)) := by omega
 have h48' : ¬ (281474976710656 < Builtin.nextslicecap (n + m) cap * i.bytes) := by
  have := growslice_fits (need := n + m) (old := cap) (bytes := i.bytes) (by omega) (by omega)
  omega
 simp [Builtin.append_, run_und hu, run_und hu', sizeOf, typeInfo, zeroValue, hi, hz, hy, hr, h63', h48', Question.forced, ho, hf, newRow, grownCap]
theorem le_grownCap (w : World) (need old : Nat) (e : TypeId) : need ≤ grownCap w need old e := by
 unfold grownCap Question.cut
 exact Nat.le_add_right _ _
theorem op_app (hE : EnvOK P E) {x y : Operand} {c : Call} {t u e : TypeId} {z : Rope AVal} {i : TypeInfo} {eu : TypeId} (ht : TR ρ T a.tmps) (hw : WR K ρ H w) (ho : o.op = .call c) (hc : c.callee = .builtin .append)
  (ha : c.args.toList = [x, y]) (hta : c.argTypes.toList = [t, u]) (hu : P.underlying t = some (.slice e)) (hu' : P.underlying u = some (.slice eu)) (hz : E.zro e = some z) (hi : P.info? e = some i)
  (he : aop E T H (.app i.size i.bytes x y) = some (out, H')) : OutR P E K ρ H w (execOp a.eval o) out H' := by
 have ha' : c.args = #[x, y] := by rw [← Array.toArray_toList (xs := c.args), ha]
 have hta' : c.argTypes = #[t, u] := by rw [← Array.toArray_toList (xs := c.argTypes), hta]
 obtain ⟨i', zv, g1, g2, g3, g4, g5, _⟩ := hE.zro e z hz
 rw [hi] at g1; cases g1
 simp only [aop] at he
 split at he
 ·rename_i p n cp q m d hx hy
  have hexec : (execOp a.eval o).run P w = ((Builtin.append_ #[t, u] o.type #[a.eval x, a.eval y]).run P w).andThen fun v w' => .ok (.value v) w' := by
   simp only [execOp, ho, resolve, hc, ha', hta', Sem.run_bind, Sem.run_pure, Result.andThen_ok, invoke, builtin, List.map_toArray, List.map_cons, List.map_nil]
  have hlen : (Builtin.lenOf (a.eval y)).run P w = .ok m w := by
   have := aev_sound ht hy
   cases q with
   | none => obtain ⟨rfl, _, e1⟩ := this.sliceN_inv; rw [e1]; rfl
   | some q => obtain ⟨l, _, e1⟩ := VR.slice_inv (i := q.1) (o := q.2) this; rw [e1]; rfl
  have h0 : q = none → m * i.size = 0 := by
   rintro rfl
   obtain ⟨rfl, _, _⟩ := (aev_sound ht hy).sliceN_inv
   simp
  split at he
  ·cases he
  ·rename_i new hnew
   obtain ⟨cs, f1, f2, f3, f4⟩ := run_src (P := P) hw (aev_sound ht hy) hnew i.size m rfl h0
   have hwd : WR K ρ H w.drew := hw.of_heap rfl
   obtain ⟨cs', f1', f2', f3', f4'⟩ := run_src (P := P) hwd (aev_sound ht hy) hnew i.size m rfl h0
   split at he
   ·rename_i hm
    subst hm
    -- nothing is appended
    have hcs : cs.toList = [] := by
     have : cs.size = 0 := by omega
     simpa using this
    split at he
    ·rename_i hle
     cases p with
     | none =>
      obtain ⟨rfl, rfl, e1⟩ := (aev_sound ht hx).sliceN_inv
      refine OutS.loud hw (OutR.same hw ?_ .sliceNil he)
      rw [hexec, run_app_room hu hu' hi e1 hlen (by omega) f1 rfl]
      rfl
     | some p =>
      obtain ⟨b, q'⟩ := p
      obtain ⟨l, e1, e2⟩ := (aev_sound ht hx).slice_inv
      refine OutS.loud hw (OutR.same hw ?_ (.slice e1) he)
      rw [hexec, run_app_room hu hu' hi e2 hlen (by omega) f1 (by rw [hcs]; rfl)]
      rfl
    ·cases he
   ·rename_i hm
    split at he
    ·rename_i hb
     simp only [Bool.and_eq_true, decide_eq_true_eq] at hb
     obtain ⟨⟨⟨b1, b2⟩, b3⟩, b4⟩ := hb
     have hb4 : i.size ≠ 0 := by simpa using b4
     cases p with
     | none =>
      obtain ⟨rfl, rfl, e1⟩ := (aev_sound ht hx).sliceN_inv
      have hrun := run_app_grow (ty := o.type) hu hu' hi g2 e1 hlen (by omega) (by omega) (by omega) (old := #[]) (by rw [e1]; rfl) f1'
      obtain ⟨ρ', k1, k2⟩ := hwd.grown e i.size (grownCap w (0 + m) 0 e - (0 + m)) f2' f4' (z := Builtin.zeroCells zv.cells (grownCap w (0 + m) 0 e - (0 + m))) (by rw [size_zeroCells, g4, ← g3]) (fun h => absurd h hb4)
      have hle := le_grownCap w (0 + m) 0 e
      have hv : VR ρ' (.slice (some (H.next, 0)) m m) (.slice (some ⟨w.heap.size, 0, none⟩) (0 + m) (grownCap w (0 + m) 0 e)) := by
       have := VR.slice (o := 0) (n := m) (c := m) k1
       rw [show grownCap w (0 + m) 0 e = m + (grownCap w (0 + m) 0 e - (0 + m)) from by omega, Nat.zero_add]
       rw [Nat.zero_add] at this
       exact this
      refine OutR.post ?_ hv ⟨k2.le, k2.wr, k2.keep, ⟨k2.size.size, k2.size.os, k2.size.out, k2.size.tape⟩⟩ he
      rw [hexec, hrun]
      simp only [Result.andThen_ok, Array.empty_append]
     | some p =>
      obtain ⟨b, q'⟩ := p
      obtain ⟨l, e1, e2⟩ := (aev_sound ht hx).slice_inv
      simp only at he
      split at he
      ·rename_i r g wr hget
       split at he
       ·rename_i hroom
        split at he
        ·rename_i H1 hst
         obtain ⟨w', s1, s2⟩ := hw.store hst f4 f2 e1 P
         refine OutR.post ?_ (.slice e1) s2 he
         rw [hexec, run_app_room hu hu' hi e2 hlen (by omega) f1 (w' := w') (by show (storeCells ((⟨l.blk, l.off + q', none⟩ : Addr).add (n * i.size)) cs.toList).run P w = .ok () w'; rw [addr_add]; simpa [Nat.add_assoc] using s1)]
         rfl
        ·cases he
       ·rename_i hroom
        split at he
        ·cases he
        ·rename_i old hold
         obtain ⟨cur, tt, fr, r1, r2, r3, r4, r5, r6⟩ := hw.row hget e1
         obtain ⟨os, o1, o2, o3, o4⟩ := hwd.loadN hold e1 P
         have hcat : ∀ (c1 c2 : Rope AVal) (a1 a2 : Array Value), a1.size = c1.size → RR ρ c1 a1 0 → RR ρ c2 a2 0 → RR ρ (c1.cat c2) (a1 ++ a2) 0 := by
          intro c1 c2 a1 a2 hs h1 h2 j hj
          rw [Rope.size_cat] at hj
          rw [Rope.get_cat, Nat.zero_add, Array.getElem?_append, hs]
          by_cases hj1 : j < c1.size
          ·rw [if_pos hj1, if_pos hj1]
           have := h1 j hj1
           rwa [Nat.zero_add] at this
          ·rw [if_neg hj1, if_neg hj1]
           have := h2 (j - c1.size) (by omega)
           rwa [Nat.zero_add] at this
         -- a new array
         have hgrow : l.sp < n + m - cp ∨ g = 0 → ∃ ρ' w', (Builtin.append_ #[t, u] o.type #[a.eval x, a.eval y]).run P w = .ok (.slice (some ⟨w.heap.size, 0, none⟩) (n + m) (grownCap w (n + m) (cp + l.sp) e)) w' ∧
           ρ' H.next = some ⟨w.heap.size, 0, grownCap w (n + m) (cp + l.sp) e - (n + m)⟩ ∧ Post K ρ w ρ' (H.new (.cells (old.cat new) i.size true)) w' ∧ n + m ≤ grownCap w (n + m) (cp + l.sp) e := by
          intro hsp
          have hsp' : ¬ (n + m ≤ cp + l.sp) := by
           rcases hsp with h | h
           ·omega
           ·have := r3 h; omega
          have hrun := run_app_grow (ty := o.type) hu hu' hi g2 e2 hlen hsp' (by omega) (by omega) (old := os) (by rw [e2]; exact o1) f1'
          obtain ⟨ρ', k1, k2⟩ := hwd.grown e i.size (grownCap w (n + m) (cp + l.sp) e - (n + m)) (c := old.cat new) (cs := os ++ cs') (by rw [Rope.size_cat, Array.size_append]; omega) (hcat _ _ _ _ (by omega) o4 f4')
           (z := Builtin.zeroCells zv.cells (grownCap w (n + m) (cp + l.sp) e - (n + m))) (by rw [size_zeroCells, g4, ← g3]) (fun h => absurd h hb4)
          exact ⟨ρ', _, hrun, k1, ⟨k2.le, k2.wr, k2.keep, ⟨k2.size.size, k2.size.os, k2.size.out, k2.size.tape⟩⟩, le_grownCap _ _ _ _⟩
         have hval : ∀ (ρ' : Ren), ρ' H.next = some ⟨w.heap.size, 0, grownCap w (n + m) (cp + l.sp) e - (n + m)⟩ → n + m ≤ grownCap w (n + m) (cp + l.sp) e →
           VR ρ' (.slice (some (H.next, 0)) (n + m) (n + m)) (.slice (some ⟨w.heap.size, 0, none⟩) (n + m) (grownCap w (n + m) (cp + l.sp) e)) := by
          intro ρ' k1 hle
          have := VR.slice (o := 0) (n := n + m) (c := n + m) k1
          rw [show n + m + (grownCap w (n + m) (cp + l.sp) e - (n + m)) = grownCap w (n + m) (cp + l.sp) e from by omega] at this
          exact this
         split at he
         ·rename_i hg0
          obtain ⟨ρ', w', k0, k1, k2, k3⟩ := hgrow (.inr hg0)
          refine OutR.post ?_ (hval ρ' k1 k3) k2 he
          rw [hexec, k0]
          rfl
         ·split at he
          ·rename_i hcond
           simp only [Bool.and_eq_true, beq_iff_eq] at hcond
           obtain ⟨⟨⟨c1, c2⟩, c3⟩, c4⟩ := hcond
           subst c1 c2 c4
           have hoe : old = r.ext q' (cp * i.size) := by
            simp only [hloadN, hget] at hold
            split at hold
            ·simpa using hold.symm
            ·cases hold
           by_cases hsp : m ≤ l.sp
           ·-- in its place
            obtain ⟨w', ρ', s1, s2, s3⟩ := hw.lengthened hget e1 c3 f4 f2 f3 hsp P hb4
            refine OutR.post (v := .slice (some ⟨l.blk, l.off + q', none⟩) (cp + m) (cp + l.sp)) ?_ ?_ (by rw [hoe]; exact s3) he
            ·rw [hexec, run_app_room hu hu' hi e2 hlen (by omega) f1 (w' := w') (by show (storeCells ((⟨l.blk, l.off + q', none⟩ : Addr).add (cp * i.size)) cs.toList).run P w = .ok () w'; rw [addr_add]; simpa [Nat.add_assoc] using s1)]
             rfl
            ·have := VR.slice (o := 0) (n := cp + m) (c := cp + m) s2
             rw [show cp + m + (l.sp - m) = cp + l.sp from by omega] at this
             exact this
           ·obtain ⟨ρ', w', k0, k1, k2, k3⟩ := hgrow (.inl (by omega))
            have hk := k2.wr.kill b
            refine OutR.post ?_ (hval ρ' k1 k3) (H1 := (H.kill b).new (.cells (old.cat new) i.size true)) ⟨k2.le, ?_, k2.keep, k2.size⟩ he
            ·rw [hexec, k0]
             rfl
            ·-- killing and making anew commute
             have hb' : b < H.next := hw.dom b l e1
             have hge : ∀ j, ((H.kill b).new (.cells (old.cat new) i.size true)).get j = ((H.new (.cells (old.cat new) i.size true)).kill b).get j := by
              intro j
              rw [AHeap.get_new, AHeap.get_kill, AHeap.get_kill, AHeap.get_new]
              show (if H.next = j then _ else _) = _
              by_cases hj : H.next = j
              ·rw [if_pos hj, if_pos hj, if_neg (by omega)]
              ·rw [if_neg hj, if_neg hj]
             exact ⟨fun j bj hj => hk.live j bj (by rw [← hge]; exact hj), fun j k bj bk lj lk hj hk' => hk.inj j k bj bk lj lk (by rw [← hge]; exact hj) (by rw [← hge]; exact hk'), hk.ro, hk.dom, hk.kb, hk.same⟩
          ·cases he
      ·cases he
    ·cases he
 ·rename_i p n cp hx hy
  have hexec : (execOp a.eval o).run P w = ((Builtin.append_ #[t, u] o.type #[a.eval x, a.eval y]).run P w).andThen fun v w' => .ok (.value v) w' := by
   simp only [execOp, ho, resolve, hc, ha', hta', Sem.run_bind, Sem.run_pure, Result.andThen_ok, invoke, builtin, List.map_toArray, List.map_cons, List.map_nil]
  obtain ⟨ad, ey⟩ := (aev_sound ht hy).es_inv
  have hlen : (Builtin.lenOf (a.eval y)).run P w = .ok 0 w := by rw [ey]; rfl
  have f1 : (Builtin.firstCells i.size 0 (a.eval y)).run P w = .ok #[] w := by
   rw [ey]
   simp only [Builtin.firstCells, Nat.zero_mul]
   exact run_loadCells (P := P) w _ 0 (fun _ => Go.undef) (fun j hj => by omega)
  split at he
  ·rename_i hle
   cases p with
   | none =>
    obtain ⟨rfl, rfl, e1⟩ := (aev_sound ht hx).sliceN_inv
    refine OutS.loud hw (OutR.same hw ?_ .sliceNil he)
    rw [hexec, run_app_room hu hu' hi e1 hlen (by omega) f1 rfl]
    rfl
   | some p =>
    obtain ⟨b, q'⟩ := p
    obtain ⟨l, e1, e2⟩ := (aev_sound ht hx).slice_inv
    refine OutS.loud hw (OutR.same hw ?_ (.slice e1) he)
    rw [hexec, run_app_room hu hu' hi e2 hlen (by omega) f1 rfl]
    rfl
  ·cases he
 ·cases he
end
end Go.Sim
end
