/- append and copy. -/
import Derived.Test.YtdppeaciahdekaaGreatSimOpD
namespace Go.Sim

theorem size_zeroCells (z : Array Value) (n : Nat) : (Builtin.zeroCells z n).size = n * z.size := by simp [Builtin.zeroCells]

section
variable {P : Program} {E : EnvD} {K : Nat → Prop} {ρ : Ren} {H H' : AHeap} {w : World} {T : Tmps} {a : Act} {out : AOut} {o : Oper}

theorem op_cpy {x y : Operand} {c : Call} {t u e : TypeId} {s : Nat} (ht : TR ρ T a.tmps) (hw : WR K ρ H w) (ho : o.op = .call c) (hc : c.callee = .builtin .copy) (ha : c.args.toList = [x, y]) (hta : c.argTypes.toList = [t, u])
    (hu : P.underlying t = some (.slice e)) (hs : csize P e = some s) (he : aop E T H (.cpy s x y) = some (out, H')) : OutR P E K ρ H w (execOp a.eval o) out H' := by
  have ha' : c.args = #[x, y] := by rw [← Array.toArray_toList (xs := c.args), ha]
  have hta' : c.argTypes = #[t, u] := by rw [← Array.toArray_toList (xs := c.argTypes), hta]
  simp only [aop] at he
  split at he
  · rename_i p n d q m f hx hy
    have hexec : (execOp a.eval o).run P w = ((Builtin.copy_ #[t, u] o.type #[a.eval x, a.eval y]).run P w).andThen fun v w' => .ok (.value v) w' := by
      simp only [execOp, ho, resolve, hc, ha', hta', Sem.run_bind, Sem.run_pure, Result.andThen_ok, invoke, builtin, List.map_toArray, List.map_cons, List.map_nil]
    split at he
    · cases he
    · rename_i new hnew
      have hlen : (Builtin.lenOf (a.eval y)).run P w = .ok m w := by
        have := aev_sound ht hy
        cases q with
        | none => obtain ⟨rfl, _, e1⟩ := this.sliceN_inv; rw [e1]; rfl
        | some q => obtain ⟨l, _, e1⟩ := VR.slice_inv (i := q.1) (o := q.2) this; rw [e1]; rfl
      have h0 : q = none → min m n * s = 0 := by
        rintro rfl
        obtain ⟨rfl, _, _⟩ := (aev_sound ht hy).sliceN_inv
        simp
      obtain ⟨cs, g1, g2, g3, g4⟩ := run_src (P := P) hw (aev_sound ht hy) hnew s (min m n) rfl h0
      cases p with
      | none =>
        obtain ⟨rfl, rfl, e1⟩ := (aev_sound ht hx).sliceN_inv
        refine OutS.loud hw (OutR.same hw ?_ (.int _ _) he)
        rw [hexec, e1]
        simp only [Builtin.copy_, List.getElem?_toArray, List.getElem?_cons_zero, List.getElem?_cons_succ, Sem.run_bind, run_und hu, Result.andThen_ok, hlen, run_size hs, Sem.run_pure]
        have : Nat.min m 0 = min m 0 := rfl
        rw [this, g1]
        rfl
      | some p =>
        obtain ⟨i, q'⟩ := p
        obtain ⟨l, e1, e2⟩ := (aev_sound ht hx).slice_inv
        simp only at he
        split at he
        · rename_i H1 hst
          obtain ⟨w', s1, s2⟩ := hw.store hst g4 g2 e1 P
          refine OutR.post ?_ (.int _ _) s2 he
          rw [hexec, e2]
          simp only [Builtin.copy_, List.getElem?_toArray, List.getElem?_cons_zero, List.getElem?_cons_succ, Sem.run_bind, run_und hu, Result.andThen_ok, hlen, run_size hs, Sem.run_pure]
          have : Nat.min m n = min m n := rfl
          rw [this, g1]
          simp only [Result.andThen_ok, s1]
          rfl
        · cases he
  · cases he

/-- A new row with some room behind it. -/
theorem WR.grown (hw : WR K ρ H w) {c : Rope AVal} {cs z : Array Value} (e : TypeId) (s k : Nat) (hs : cs.size = c.size) (hc : RR ρ c cs 0) (hz : z.size = k * s) (h0 : s = 0 → k = 0) :
    ∃ ρ', ρ' H.next = some ⟨w.heap.size, 0, k⟩ ∧ Post K ρ w ρ' (H.new (.cells c s true)) (w.alloc (.cells (cs ++ z) e)) := by
  have hb : BR ρ ⟨w.heap.size, 0, k⟩ (.cells c s true) (.cells (cs ++ z) e (0, 0)) := by
    refine .cells ?_ h0 fun i hi => ?_
    · show 0 + c.size + k * s ≤ (cs ++ z).size
      simp only [Array.size_append]; omega
    · obtain ⟨x, v, x1, x2, x3, x4⟩ := hc i hi
      refine ⟨x, v, x1, x2, ?_, x4⟩
      rw [Nat.zero_add] at x3
      show (cs ++ z)[0 + i]? = some v
      rw [Nat.zero_add, Array.getElem?_append, if_pos (by omega)]
      exact x3
  exact ⟨_, if_pos rfl, hw.new _ _ _ rfl hb⟩

/-- A row that has room behind it is lengthened in its place, under a new number. -/
theorem WR.lengthened (hw : WR K ρ H w) {i : Nat} {r new : Rope AVal} {s p n m : Nat} {cs : Array Value} (hb : H.get i = some (.cells r s true)) {l : Loc} (hl : ρ i = some l) (hend : p + n * s = r.size)
    (hc : RR ρ new cs 0) (hs : cs.size = new.size) (hn : new.size = m * s) (hsp : m ≤ l.sp) (P : Program) (hs0 : s ≠ 0) :
    ∃ w' ρ', (storeCells ⟨l.blk, l.off + (p + n * s), none⟩ cs.toList).run P w = .ok () w' ∧ ρ' H.next = some ⟨l.blk, l.off + p, l.sp - m⟩ ∧
      Post K ρ w ρ' ((H.kill i).new (.cells ((r.ext p (n * s)).cat new) s true)) w' := by
  obtain ⟨cur, t, h1, h2, h3, h4, h5⟩ := hw.row hb hl
  have hmul : l.sp * s = (l.sp - m) * s + m * s := by rw [← Nat.add_mul]; congr 1; omega
  have hrun := run_storeCells_at P l.blk (l.off + (p + n * s)) t cs.toList 0 cur w h1 (by simp; omega) (hc.oneCells hs)
  have hnK : ¬ K l.blk := h5
  have hlt : l.blk < w.heap.size := hw.lt hb hl
  generalize hnew : (cur.toList.take (l.off + (p + n * s) + 0) ++ cs.toList ++ cur.toList.drop (l.off + (p + n * s) + 0 + cs.toList.length)).toArray = arr at hrun
  have harr : ∀ q, arr[q]? = if l.off + (p + n * s) ≤ q ∧ q < l.off + (p + n * s) + cs.size then cs[q - (l.off + (p + n * s))]? else cur[q]? := by
    intro q
    rw [← hnew]
    have hlen : (cur.toList.take (l.off + (p + n * s) + 0)).length = l.off + (p + n * s) := by simp; omega
    simp only [List.getElem?_toArray, List.append_assoc, List.getElem?_append, hlen]
    by_cases h1 : q < l.off + (p + n * s)
    · rw [if_pos h1, if_neg (by omega)]; simp [h1]
    · rw [if_neg h1]
      by_cases h2 : q - (l.off + (p + n * s)) < cs.toList.length
      · rw [if_pos h2, if_pos (by simp at h2; omega)]; simp
      · rw [if_neg h2, if_neg (by simp at h2; omega)]
        rw [List.getElem?_drop]
        simp at h2
        rw [show l.off + (p + n * s) + 0 + cs.toList.length + (q - (l.off + (p + n * s)) - cs.toList.length) = q from by simp; omega]
        simp
  have hasz : arr.size = cur.size := by rw [← hnew]; simp; omega
  obtain ⟨x1, x2⟩ := h4.ext p (n * s) (by omega)
  let l' : Loc := ⟨l.blk, l.off + p, l.sp - m⟩
  let ρ' : Ren := fun j => if j = H.next then some l' else ρ j
  have hle : ρ.le ρ' := by
    intro j lj e
    have := hw.dom j lj e
    show (if j = H.next then some l' else ρ j) = some lj
    rw [if_neg (by omega)]; exact e
  have hcell : RR ρ ((r.ext p (n * s)).cat new) arr (l.off + p) := by
    intro j hj
    rw [Rope.size_cat, x1] at hj
    rw [Rope.get_cat, x1]
    by_cases hj1 : j < n * s
    · rw [if_pos hj1]
      obtain ⟨x, v, y1, y2, y3, y4⟩ := x2 j (by omega)
      refine ⟨x, v, y1, y2, ?_, y4⟩
      rw [harr, if_neg (by omega)]; exact y3
    · rw [if_neg hj1]
      obtain ⟨x, v, y1, y2, y3, y4⟩ := hc (j - n * s) (by omega)
      refine ⟨x, v, y1, y2, ?_, y4⟩
      rw [harr, if_pos (by omega), ← y3]
      congr 1; omega
  have hfrz : ∀ q, (w.setRow l.blk arr).frozen? q = w.frozen? q := by
    intro q
    by_cases e : q.block = l.blk
    · have e1 : (w.setRow l.blk arr).heap[q.block]? = some (.cells arr t (0, 0)) := by rw [e]; exact setRow_heap w l.blk cur arr t (0, 0) h1
      have e2 : w.heap[q.block]? = some (.cells cur t (0, 0)) := by rw [e]; exact h1
      simp [World.frozen?, e1, e2]
    · unfold World.frozen?; rw [setRow_other w l.blk q.block arr e]
  refine ⟨_, ρ', hrun, if_pos rfl, hle, ⟨?_, ?_, ?_, ?_⟩, fun k hk => ?_, ⟨by simp, rfl, rfl, hfrz⟩⟩
  · intro j bj hj
    rw [AHeap.get_new] at hj
    split at hj
    · rename_i e
      have e' : H.next = j := e
      subst e'
      cases hj
      refine ⟨l', _, if_pos rfl, setRow_heap w l.blk cur arr t (0, 0) h1, ?_, hnK⟩
      refine .cells ?_ (fun e => absurd e hs0) (hcell.mono hle)
      show l.off + p + ((r.ext p (n * s)).cat new).size + (l.sp - m) * s ≤ arr.size
      rw [Rope.size_cat, x1, hasz]; omega
    · rw [AHeap.get_kill] at hj
      split at hj
      · cases hj
      · rename_i hne
        obtain ⟨lj, oj, y1, y2, y3, y4⟩ := hw.live j bj hj
        refine ⟨lj, oj, hle _ _ y1, ?_, y3.mono hle, y4⟩
        rw [setRow_other w l.blk lj.blk arr (fun e => hne (hw.inj i j _ _ l lj hb hj hl y1 e.symm))]
        exact y2
  · intro j k bj bk lj lk hj hk hlj hlk e
    have inv : ∀ j bj lj, ((H.kill i).new (.cells ((r.ext p (n * s)).cat new) s true)).get j = some bj → ρ' j = some lj →
        (j = H.next ∧ lj = l') ∨ (j ≠ H.next ∧ i ≠ j ∧ H.get j = some bj ∧ ρ j = some lj) := by
      intro j bj lj hj hlj
      rw [AHeap.get_new] at hj
      split at hj
      · rename_i e
        have e' : H.next = j := e
        subst e'
        have : ρ' H.next = some l' := if_pos rfl
        rw [this] at hlj; cases hlj
        exact .inl ⟨rfl, rfl⟩
      · rename_i hne
        have hne' : ¬ H.next = j := hne
        rw [AHeap.get_kill] at hj
        split at hj
        · cases hj
        · rename_i hne2
          refine .inr ⟨fun e => hne' e.symm, hne2, hj, ?_⟩
          have : ρ' j = ρ j := if_neg (fun e => hne' e.symm)
          rw [this] at hlj; exact hlj
    rcases inv j bj lj hj hlj with ⟨rfl, rfl⟩ | ⟨a1, a2, a3, a4⟩
    · rcases inv k bk lk hk hlk with ⟨rfl, rfl⟩ | ⟨b1, b2, b3, b4⟩
      · rfl
      · exact absurd (hw.inj i k _ bk l lk hb b3 hl b4 e) b2
    · rcases inv k bk lk hk hlk with ⟨rfl, rfl⟩ | ⟨b1, b2, b3, b4⟩
      · exact absurd (hw.inj i j _ bj l lj hb a3 hl a4 e.symm) a2
      · exact hw.inj j k bj bk lj lk a3 b3 a4 b4 e
  · intro j lj e
    show j < H.next + 1
    by_cases hj : j = H.next
    · omega
    · have : ρ' j = ρ j := if_neg hj
      rw [this] at e
      have := hw.dom j lj e; omega
  · intro b hb'; have := hw.kb b hb'; simpa using this
  · exact setRow_other w l.blk k arr (fun e => hnK (e ▸ hk))

theorem run_app_room {t u e eu ty : TypeId} {i : TypeInfo} {v y : Value} {base : Option Addr} {n m cap : Nat} {cs : Array Value} {w w' : World} (hu : P.underlying t = some (.slice e)) (hu' : P.underlying u = some (.slice eu)) (hi : P.info? e = some i)
    (hv : v = .slice base n cap) (hy : (Builtin.lenOf y).run P w = .ok m w) (hr : n + m ≤ cap) (hf : (Builtin.firstCells i.size m y).run P w = .ok cs w)
    (hs : match base with | some A => (storeCells (A.add (n * i.size)) cs.toList).run P w = .ok () w' | none => w' = w) :
    (Builtin.append_ #[t, u] ty #[v, y]).run P w = .ok (.slice base (n + m) cap) w' := by
  subst hv
  cases base with
  | none =>
    simp only at hs; subst hs
    simp [Builtin.append_, run_und hu, run_und hu', sizeOf, typeInfo, hi, hy, hr, hf]
  | some A =>
    simp only at hs
    simp [Builtin.append_, run_und hu, run_und hu', sizeOf, typeInfo, hi, hy, hr, hf, hs]

theorem run_app_grow {t u e eu ty : TypeId} {i : TypeInfo} {z v y : Value} {base : Option Addr} {n m cap : Nat} {old new : Array Value} {w : World} (hu : P.underlying t = some (.slice e)) (hu' : P.underlying u = some (.slice eu)) (hi : P.info? e = some i)
    (hz : i.zero = some z) (hv : v = .slice base n cap) (hy : (Builtin.lenOf y).run P w = .ok m w) (hr : ¬ (n + m ≤ cap)) (h63 : n + m ≤ 2 ^ 40) (hb : (n + m) * i.bytes ≤ 2 ^ 40)
    (ho : (Builtin.firstCells i.size n v).run P w.drew = .ok old w.drew) (hf : (Builtin.firstCells i.size m y).run P w.drew = .ok new w.drew) :
    (Builtin.append_ #[t, u] ty #[v, y]).run P w = .ok (.slice (some ⟨w.heap.size, 0, none⟩) (n + m) (grownCap w (n + m) cap e))
      (w.drew.alloc (.cells (old ++ new ++ Builtin.zeroCells z.cells (grownCap w (n + m) cap e - (n + m))) e)) := by
  subst hv
  have h63' : ¬ ((9223372036854775807 : Int) < (n : Int) + (m : Int)) := by omega
  have h48' : ¬ (281474976710656 < Builtin.nextslicecap (n + m) cap * i.bytes) := by
    have := growslice_fits (need := n + m) (old := cap) (bytes := i.bytes) (by omega) (by omega)
    omega
  simp [Builtin.append_, run_und hu, run_und hu', sizeOf, typeInfo, zeroValue, hi, hz, hy, hr, h63', h48', Question.forced, ho, hf, newRow, grownCap]

theorem le_grownCap (w : World) (need old : Nat) (e : TypeId) : need ≤ grownCap w need old e := by
  unfold grownCap Question.cut
  exact Nat.le_add_right _ _

theorem op_app (hE : EnvOK P E) {x y : Operand} {c : Call} {t u e : TypeId} {z : Rope AVal} {i : TypeInfo} {eu : TypeId} (ht : TR ρ T a.tmps) (hw : WR K ρ H w) (ho : o.op = .call c) (hc : c.callee = .builtin .append)
    (ha : c.args.toList = [x, y]) (hta : c.argTypes.toList = [t, u]) (hu : P.underlying t = some (.slice e)) (hu' : P.underlying u = some (.slice eu)) (hz : E.zro e = some z) (hi : P.info? e = some i)
    (he : aop E T H (.app i.size i.bytes x y) = some (out, H')) : OutR P E K ρ H w (execOp a.eval o) out H' := by
  have ha' : c.args = #[x, y] := by rw [← Array.toArray_toList (xs := c.args), ha]
  have hta' : c.argTypes = #[t, u] := by rw [← Array.toArray_toList (xs := c.argTypes), hta]
  obtain ⟨i', zv, g1, g2, g3, g4, g5, _⟩ := hE.zro e z hz
  rw [hi] at g1; cases g1
  simp only [aop] at he
  split at he
  · rename_i p n cp q m d hx hy
    have hexec : (execOp a.eval o).run P w = ((Builtin.append_ #[t, u] o.type #[a.eval x, a.eval y]).run P w).andThen fun v w' => .ok (.value v) w' := by
      simp only [execOp, ho, resolve, hc, ha', hta', Sem.run_bind, Sem.run_pure, Result.andThen_ok, invoke, builtin, List.map_toArray, List.map_cons, List.map_nil]
    have hlen : (Builtin.lenOf (a.eval y)).run P w = .ok m w := by
      have := aev_sound ht hy
      cases q with
      | none => obtain ⟨rfl, _, e1⟩ := this.sliceN_inv; rw [e1]; rfl
      | some q => obtain ⟨l, _, e1⟩ := VR.slice_inv (i := q.1) (o := q.2) this; rw [e1]; rfl
    have h0 : q = none → m * i.size = 0 := by
      rintro rfl
      obtain ⟨rfl, _, _⟩ := (aev_sound ht hy).sliceN_inv
      simp
    split at he
    · cases he
    · rename_i new hnew
      obtain ⟨cs, f1, f2, f3, f4⟩ := run_src (P := P) hw (aev_sound ht hy) hnew i.size m rfl h0
      have hwd : WR K ρ H w.drew := hw.of_heap rfl
      obtain ⟨cs', f1', f2', f3', f4'⟩ := run_src (P := P) hwd (aev_sound ht hy) hnew i.size m rfl h0
      split at he
      · rename_i hm
        subst hm
        -- nothing is appended
        have hcs : cs.toList = [] := by
          have : cs.size = 0 := by omega
          simpa using this
        split at he
        · rename_i hle
          cases p with
          | none =>
            obtain ⟨rfl, rfl, e1⟩ := (aev_sound ht hx).sliceN_inv
            refine OutS.loud hw (OutR.same hw ?_ .sliceNil he)
            rw [hexec, run_app_room hu hu' hi e1 hlen (by omega) f1 rfl]
            rfl
          | some p =>
            obtain ⟨b, q'⟩ := p
            obtain ⟨l, e1, e2⟩ := (aev_sound ht hx).slice_inv
            refine OutS.loud hw (OutR.same hw ?_ (.slice e1) he)
            rw [hexec, run_app_room hu hu' hi e2 hlen (by omega) f1 (by rw [hcs]; rfl)]
            rfl
        · cases he
      · rename_i hm
        split at he
        · rename_i hb
          simp only [Bool.and_eq_true, decide_eq_true_eq] at hb
          obtain ⟨⟨⟨b1, b2⟩, b3⟩, b4⟩ := hb
          have hb4 : i.size ≠ 0 := by simpa using b4
          cases p with
          | none =>
            obtain ⟨rfl, rfl, e1⟩ := (aev_sound ht hx).sliceN_inv
            have hrun := run_app_grow (ty := o.type) hu hu' hi g2 e1 hlen (by omega) (by omega) (by omega) (old := #[]) (by rw [e1]; rfl) f1'
            obtain ⟨ρ', k1, k2⟩ := hwd.grown e i.size (grownCap w (0 + m) 0 e - (0 + m)) f2' f4' (z := Builtin.zeroCells zv.cells (grownCap w (0 + m) 0 e - (0 + m))) (by rw [size_zeroCells, g4, ← g3]) (fun h => absurd h hb4)
            have hle := le_grownCap w (0 + m) 0 e
            have hv : VR ρ' (.slice (some (H.next, 0)) m m) (.slice (some ⟨w.heap.size, 0, none⟩) (0 + m) (grownCap w (0 + m) 0 e)) := by
              have := VR.slice (o := 0) (n := m) (c := m) k1
              rw [show grownCap w (0 + m) 0 e = m + (grownCap w (0 + m) 0 e - (0 + m)) from by omega, Nat.zero_add]
              rw [Nat.zero_add] at this
              exact this
            refine OutR.post ?_ hv ⟨k2.le, k2.wr, k2.keep, ⟨k2.size.size, k2.size.os, k2.size.out, k2.size.frz⟩⟩ he
            rw [hexec, hrun]
            simp only [Result.andThen_ok, Array.empty_append]
          | some p =>
            obtain ⟨b, q'⟩ := p
            obtain ⟨l, e1, e2⟩ := (aev_sound ht hx).slice_inv
            simp only at he
            split at he
            · rename_i r g wr hget
              split at he
              · rename_i hroom
                split at he
                · rename_i H1 hst
                  obtain ⟨w', s1, s2⟩ := hw.store hst f4 f2 e1 P
                  refine OutR.post ?_ (.slice e1) s2 he
                  rw [hexec, run_app_room hu hu' hi e2 hlen (by omega) f1 (w' := w') (by show (storeCells ((⟨l.blk, l.off + q', none⟩ : Addr).add (n * i.size)) cs.toList).run P w = .ok () w'; rw [addr_add]; simpa [Nat.add_assoc] using s1)]
                  rfl
                · cases he
              · rename_i hroom
                split at he
                · cases he
                · rename_i old hold
                  obtain ⟨cur, tt, r1, r2, r3, r4, r5⟩ := hw.row hget e1
                  obtain ⟨os, o1, o2, o3, o4⟩ := hwd.loadN hold e1 P
                  have hcat : ∀ (c1 c2 : Rope AVal) (a1 a2 : Array Value), a1.size = c1.size → RR ρ c1 a1 0 → RR ρ c2 a2 0 → RR ρ (c1.cat c2) (a1 ++ a2) 0 := by
                    intro c1 c2 a1 a2 hs h1 h2 j hj
                    rw [Rope.size_cat] at hj
                    rw [Rope.get_cat, Nat.zero_add, Array.getElem?_append, hs]
                    by_cases hj1 : j < c1.size
                    · rw [if_pos hj1, if_pos hj1]
                      have := h1 j hj1
                      rwa [Nat.zero_add] at this
                    · rw [if_neg hj1, if_neg hj1]
                      have := h2 (j - c1.size) (by omega)
                      rwa [Nat.zero_add] at this
                  -- a new array
                  have hgrow : l.sp < n + m - cp ∨ g = 0 → ∃ ρ' w', (Builtin.append_ #[t, u] o.type #[a.eval x, a.eval y]).run P w = .ok (.slice (some ⟨w.heap.size, 0, none⟩) (n + m) (grownCap w (n + m) (cp + l.sp) e)) w' ∧
                      ρ' H.next = some ⟨w.heap.size, 0, grownCap w (n + m) (cp + l.sp) e - (n + m)⟩ ∧ Post K ρ w ρ' (H.new (.cells (old.cat new) i.size true)) w' ∧ n + m ≤ grownCap w (n + m) (cp + l.sp) e := by
                    intro hsp
                    have hsp' : ¬ (n + m ≤ cp + l.sp) := by
                      rcases hsp with h | h
                      · omega
                      · have := r3 h; omega
                    have hrun := run_app_grow (ty := o.type) hu hu' hi g2 e2 hlen hsp' (by omega) (by omega) (old := os) (by rw [e2]; exact o1) f1'
                    obtain ⟨ρ', k1, k2⟩ := hwd.grown e i.size (grownCap w (n + m) (cp + l.sp) e - (n + m)) (c := old.cat new) (cs := os ++ cs') (by rw [Rope.size_cat, Array.size_append]; omega) (hcat _ _ _ _ (by omega) o4 f4')
                      (z := Builtin.zeroCells zv.cells (grownCap w (n + m) (cp + l.sp) e - (n + m))) (by rw [size_zeroCells, g4, ← g3]) (fun h => absurd h hb4)
                    exact ⟨ρ', _, hrun, k1, ⟨k2.le, k2.wr, k2.keep, ⟨k2.size.size, k2.size.os, k2.size.out, k2.size.frz⟩⟩, le_grownCap _ _ _ _⟩
                  have hval : ∀ (ρ' : Ren), ρ' H.next = some ⟨w.heap.size, 0, grownCap w (n + m) (cp + l.sp) e - (n + m)⟩ → n + m ≤ grownCap w (n + m) (cp + l.sp) e →
                      VR ρ' (.slice (some (H.next, 0)) (n + m) (n + m)) (.slice (some ⟨w.heap.size, 0, none⟩) (n + m) (grownCap w (n + m) (cp + l.sp) e)) := by
                    intro ρ' k1 hle
                    have := VR.slice (o := 0) (n := n + m) (c := n + m) k1
                    rw [show n + m + (grownCap w (n + m) (cp + l.sp) e - (n + m)) = grownCap w (n + m) (cp + l.sp) e from by omega] at this
                    exact this
                  split at he
                  · rename_i hg0
                    obtain ⟨ρ', w', k0, k1, k2, k3⟩ := hgrow (.inr hg0)
                    refine OutR.post ?_ (hval ρ' k1 k3) k2 he
                    rw [hexec, k0]
                    rfl
                  · split at he
                    · rename_i hcond
                      simp only [Bool.and_eq_true, beq_iff_eq] at hcond
                      obtain ⟨⟨⟨c1, c2⟩, c3⟩, c4⟩ := hcond
                      subst c1 c2 c4
                      have hoe : old = r.ext q' (cp * i.size) := by
                        simp only [hloadN, hget] at hold
                        split at hold
                        · simpa using hold.symm
                        · cases hold
                      by_cases hsp : m ≤ l.sp
                      · -- in its place
                        obtain ⟨w', ρ', s1, s2, s3⟩ := hw.lengthened hget e1 c3 f4 f2 f3 hsp P hb4
                        refine OutR.post (v := .slice (some ⟨l.blk, l.off + q', none⟩) (cp + m) (cp + l.sp)) ?_ ?_ (by rw [hoe]; exact s3) he
                        · rw [hexec, run_app_room hu hu' hi e2 hlen (by omega) f1 (w' := w') (by show (storeCells ((⟨l.blk, l.off + q', none⟩ : Addr).add (cp * i.size)) cs.toList).run P w = .ok () w'; rw [addr_add]; simpa [Nat.add_assoc] using s1)]
                          rfl
                        · have := VR.slice (o := 0) (n := cp + m) (c := cp + m) s2
                          rw [show cp + m + (l.sp - m) = cp + l.sp from by omega] at this
                          exact this
                      · obtain ⟨ρ', w', k0, k1, k2, k3⟩ := hgrow (.inl (by omega))
                        have hk := k2.wr.kill b
                        refine OutR.post ?_ (hval ρ' k1 k3) (H1 := (H.kill b).new (.cells (old.cat new) i.size true)) ⟨k2.le, ?_, k2.keep, k2.size⟩ he
                        · rw [hexec, k0]
                          rfl
                        · -- killing and making anew commute
                          have hb' : b < H.next := hw.dom b l e1
                          have hge : ∀ j, ((H.kill b).new (.cells (old.cat new) i.size true)).get j = ((H.new (.cells (old.cat new) i.size true)).kill b).get j := by
                            intro j
                            rw [AHeap.get_new, AHeap.get_kill, AHeap.get_kill, AHeap.get_new]
                            show (if H.next = j then _ else _) = _
                            by_cases hj : H.next = j
                            · rw [if_pos hj, if_pos hj, if_neg (by omega)]
                            · rw [if_neg hj, if_neg hj]
                          exact ⟨fun j bj hj => hk.live j bj (by rw [← hge]; exact hj), fun j k bj bk lj lk hj hk' => hk.inj j k bj bk lj lk (by rw [← hge]; exact hj) (by rw [← hge]; exact hk'), hk.dom, hk.kb⟩
                    · cases he
            · cases he
        · cases he
  · cases he
end
end Go.Sim
