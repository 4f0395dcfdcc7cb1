/- The abstract heap, and how it lies in the model's memory. -/
import Derived.Test.YtdppeaciahdekaaGreatSimData
import Derived.Laws.CopyRow
import Derived.Laws.Rows
namespace Go.Sim

/-- Where an abstract block lies: the block, the place of its first cell, how many elements are spare behind it. -/
structure Loc where
  blk : Nat
  off : Nat
  sp : Nat

abbrev Ren := Nat → Option Loc
def Ren.le (ρ ρ' : Ren) : Prop := ∀ i l, ρ i = some l → ρ' i = some l
theorem Ren.le_refl (ρ : Ren) : ρ.le ρ := fun _ _ h => h
theorem Ren.le_trans {a b c : Ren} (h : a.le b) (h' : b.le c) : a.le c := fun _ _ e => h' _ _ (h _ _ e)

/-- The value that an abstract one stands for. -/
inductive VR (ρ : Ren) : AVal → Value → Prop where
  | bool (b : Bool) : VR ρ (.bool b) (.bool b)
  | int (k : IntKind) (n : Int) : VR ρ (.int k n) (.int k n)
  | str (s : ByteArray) : VR ρ (.str s) (.string s)
  | ptrNil : VR ρ (.ptr none) (.pointer none)
  | ptr {i o : Nat} {l : Loc} (h : ρ i = some l) : VR ρ (.ptr (some (i, o))) (.pointer (some ⟨l.blk, l.off + o, none⟩))
  | sliceNil : VR ρ (.slice none 0 0) (.slice none 0 0)
  | slice {i o n c : Nat} {l : Loc} (h : ρ i = some l) : VR ρ (.slice (some (i, o)) n c) (.slice (some ⟨l.blk, l.off + o, none⟩) n (c + l.sp))
  | mapNil : VR ρ (.mapv none) (.map none)
  | map {i : Nat} {l : Loc} (h : ρ i = some l) : VR ρ (.mapv (some i)) (.map (some l.blk))
  | func {fn : Fn} {a b : List AVal} {a' b' : Array Value} (ha : a'.size = a.length) (hb : b'.size = b.length)
      (h1 : ∀ (i : Nat) x v, a[i]? = some x → a'[i]? = some v → VR ρ x v) (h2 : ∀ (i : Nat) x v, b[i]? = some x → b'[i]? = some v → VR ρ x v) :
      VR ρ (.func fn a b) (.func fn a' b')
  | nilFunc : VR ρ .nilFunc .nilFunc
  | iface (t : TypeId) {x : AVal} {v : Value} (h : VR ρ x v) : VR ρ (.iface t x) (.iface t v)
  | nilIface : VR ρ .nilIface .nilIface
  | agg {r : Rope AVal} {cs : Array Value} (hs : cs.size = r.size) (hg : ∀ i, i < r.size → ∃ a, r.get i = some a ∧ a.one = true)
      (h : ∀ i a v, r.get i = some a → cs[i]? = some v → VR ρ a v) : VR ρ (.agg r) (.agg cs)
  | tup {a : List AVal} {a' : Array Value} (ha : a'.size = a.length) (h1 : ∀ (i : Nat) x v, a[i]? = some x → a'[i]? = some v → VR ρ x v) : VR ρ (.tup a) (.tuple a')
  | part {k : IntKind} {m v : Nat} {lo hi n : Int} (h1 : lo ≤ n) (h2 : n ≤ hi) (h3 : (BitVec.ofInt k.bits n).toNat &&& m = v) : VR ρ (.part k m v lo hi) (.int k n)
  | junk (v : Value) : VR ρ .junk v

theorem VR.mono {ρ ρ' : Ren} (hl : ρ.le ρ') {a : AVal} {v : Value} (h : VR ρ a v) : VR ρ' a v := by
  induction h with
  | bool b => exact .bool b
  | int k n => exact .int k n
  | str s => exact .str s
  | ptrNil => exact .ptrNil
  | ptr h => exact .ptr (hl _ _ h)
  | sliceNil => exact .sliceNil
  | slice h => exact .slice (hl _ _ h)
  | mapNil => exact .mapNil
  | map h => exact .map (hl _ _ h)
  | func ha hb _ _ ih1 ih2 => exact .func ha hb ih1 ih2
  | nilFunc => exact .nilFunc
  | iface t _ ih => exact .iface t ih
  | nilIface => exact .nilIface
  | agg hs hg _ ih => exact .agg hs hg ih
  | tup ha _ ih => exact .tup ha ih
  | part h1 h2 h3 => exact .part h1 h2 h3
  | junk v => exact .junk v

theorem VR.undef (ρ : Ren) : VR ρ AVal.undef Go.undef := .tup rfl (by intro i x v h; simp at h)

theorem VR.one {ρ : Ren} {a : AVal} {v : Value} (h : VR ρ a v) (ho : a.one = true) : v.oneCell' = true := by
  cases h <;> first | rfl | (simp [AVal.one] at ho)

/-- A row of abstract cells, and the cells that it stands for from a place on. -/
def RR (ρ : Ren) (r : Rope AVal) (cs : Array Value) (o : Nat) : Prop :=
  ∀ i, i < r.size → ∃ a v, r.get i = some a ∧ a.one = true ∧ cs[o + i]? = some v ∧ VR ρ a v

theorem RR.mono {ρ ρ' : Ren} (hl : ρ.le ρ') {r : Rope AVal} {cs : Array Value} {o : Nat} (h : RR ρ r cs o) : RR ρ' r cs o :=
  fun i hi => let ⟨a, v, h1, h2, h3, h4⟩ := h i hi; ⟨a, v, h1, h2, h3, h4.mono hl⟩

theorem RR.of_agg {ρ : Ren} {r : Rope AVal} {cs : Array Value} (h : VR ρ (.agg r) (.agg cs)) : RR ρ r cs 0 := by
  cases h with
  | agg hs hg h =>
    intro i hi
    obtain ⟨a, ha, h1⟩ := hg i hi
    have : i < cs.size := by omega
    exact ⟨a, cs[i], ha, h1, by simp [this], h i a _ ha (by simp [this])⟩

theorem RR.agg {ρ : Ren} {r : Rope AVal} {cs : Array Value} (hs : cs.size = r.size) (h : RR ρ r cs 0) : VR ρ (.agg r) (.agg cs) := by
  refine .agg hs (fun i hi => ?_) (fun i a v ha hv => ?_)
  · obtain ⟨a, v, h1, h2, _⟩ := h i hi; exact ⟨a, h1, h2⟩
  · obtain ⟨a', v', h1, _, h3, h4⟩ := h i (Rope.get_lt ha)
    rw [h1] at ha; cases ha
    rw [Nat.zero_add] at h3
    rw [h3] at hv; cases hv
    exact h4

theorem RR.cells {ρ : Ren} {a : AVal} {v : Value} {r : Rope AVal} (h : VR ρ a v) (hc : a.cells = some r) : v.cells.size = r.size ∧ RR ρ r v.cells 0 := by
  cases h with
  | agg hs hg h =>
    simp only [AVal.cells, Option.some.injEq] at hc
    subst hc
    exact ⟨hs, RR.of_agg (.agg hs hg h)⟩
  | tup ha h1 => simp [AVal.cells] at hc
  | junk v => simp [AVal.cells] at hc
  | _ =>
    simp only [AVal.cells, Option.some.injEq] at hc
    subst hc
    refine ⟨rfl, fun i hi => ?_⟩
    have : i = 0 := by simp [Rope.size] at hi; omega
    subst this
    refine ⟨_, _, rfl, rfl, rfl, ?_⟩
    first
      | exact .bool _ | exact .int _ _ | exact .str _ | exact .ptrNil | exact .ptr ‹_› | exact .sliceNil | exact .slice ‹_› | exact .mapNil | exact .map ‹_›
      | exact .func ‹_› ‹_› ‹_› ‹_› | exact .nilFunc | exact .iface _ ‹_› | exact .nilIface | (rename_i h1 h2 h3; exact .part h1 h2 h3)

theorem RR.full {ρ : Ren} {r : Rope AVal} {cs : Array Value} {o : Nat} (h : RR ρ r cs o) : ∀ i, i < r.size → (r.get i).isSome := by
  intro i hi; obtain ⟨a, v, h1, _⟩ := h i hi; simp [h1]

theorem RR.ext {ρ : Ren} {r : Rope AVal} {cs : Array Value} {o : Nat} (h : RR ρ r cs o) (p n : Nat) (hn : p + n ≤ r.size) :
    (r.ext p n).size = n ∧ RR ρ (r.ext p n) cs (o + p) := by
  have hf : ∀ k, k < n → (r.get (p + k)).isSome := fun k hk => h.full _ (by omega)
  have hs := Rope.size_ext hf
  refine ⟨hs, fun i hi => ?_⟩
  rw [hs] at hi
  obtain ⟨a, v, h1, h2, h3, h4⟩ := h (p + i) (by omega)
  refine ⟨a, v, ?_, h2, ?_, h4⟩
  · rw [Rope.get_ext hf hi, h1]
  · rwa [Nat.add_assoc]

/-- Abstract blocks. 'g': there may be spare cells behind it, of elements of g cells (0: there are none); 'wr': it may be written. -/
inductive ABlk where
  | cells (r : Rope AVal) (g : Nat) (wr : Bool)
  | map (es : List (AVal × AVal))
  -- a map to be read, its entries in whatever order
  | pmap (es : List (AVal × AVal))
  deriving Inhabited

def ABlk.wr : ABlk → Bool
  | .cells _ _ w => w
  | .map _ => true
  | .pmap _ => false

structure AHeap where
  next : Nat
  tree : Trie ABlk
  deriving Inhabited

namespace AHeap
def get (H : AHeap) (i : Nat) : Option ABlk := H.tree.get i
def put (H : AHeap) (i : Nat) (b : ABlk) : AHeap := ⟨H.next, H.tree.set i (some b)⟩
def kill (H : AHeap) (i : Nat) : AHeap := ⟨H.next, H.tree.set i none⟩
def new (H : AHeap) (b : ABlk) : AHeap := ⟨H.next + 1, H.tree.set H.next (some b)⟩
theorem get_put (H : AHeap) (i j : Nat) (b : ABlk) : (H.put i b).get j = if i = j then some b else H.get j := Trie.get_set _ _ _ _
theorem get_kill (H : AHeap) (i j : Nat) : (H.kill i).get j = if i = j then none else H.get j := Trie.get_set _ _ _ _
theorem get_new (H : AHeap) (j : Nat) (b : ABlk) : (H.new b).get j = if H.next = j then some b else H.get j := Trie.get_set _ _ _ _
end AHeap

/-- A block's cells in memory. -/
inductive BR (ρ : Ren) (l : Loc) : ABlk → Obj → Prop where
  | cells {r : Rope AVal} {g : Nat} {wr : Bool} {c : Array Value} {t : TypeId} (hsz : l.off + r.size + l.sp * g ≤ c.size) (hg : g = 0 → l.sp = 0)
      (h : RR ρ r c l.off) : BR ρ l (.cells r g wr) (.cells c t (0, 0))
  | map {es : List (AVal × AVal)} {es' : Array MapEntry} {clock : Nat} (hs : es'.size = es.length)
      (h : ∀ (i : Nat) e e', es[i]? = some e → es'[i]? = some e' → VR ρ e.1 e'.key ∧ VR ρ e.2 e'.val) : BR ρ l (.map es) (.map es' clock)
  | pmap {es : List (AVal × AVal)} {m : List MapEntry} {es' : Array MapEntry} {clock : Nat} (hp : m.Perm es'.toList) (hs : m.length = es.length)
      (h : ∀ (i : Nat) e e', es[i]? = some e → m[i]? = some e' → VR ρ e.1 e'.key ∧ VR ρ e.2 e'.val) : BR ρ l (.pmap es) (.map es' clock)

theorem BR.mono {ρ ρ' : Ren} (hl : ρ.le ρ') {l : Loc} {b : ABlk} {o : Obj} (h : BR ρ l b o) : BR ρ' l b o := by
  cases h with
  | cells hsz hg h => exact .cells hsz hg (h.mono hl)
  | map hs h => exact .map hs fun i e e' h1 h2 => ⟨(h i e e' h1 h2).1.mono hl, (h i e e' h1 h2).2.mono hl⟩
  | pmap hp hs h => exact .pmap hp hs fun i e e' h1 h2 => ⟨(h i e e' h1 h2).1.mono hl, (h i e e' h1 h2).2.mono hl⟩

/-- The abstract heap lies in memory; the blocks of K are not its to write. -/
structure WR (K : Nat → Prop) (ρ : Ren) (H : AHeap) (w : World) : Prop where
  live : ∀ i b, H.get i = some b → ∃ l o, ρ i = some l ∧ w.heap[l.blk]? = some o ∧ BR ρ l b o ∧ ¬ K l.blk
  inj : ∀ i j bi bj li lj, H.get i = some bi → H.get j = some bj → ρ i = some li → ρ j = some lj → li.blk = lj.blk → i = j
  dom : ∀ i l, ρ i = some l → i < H.next
  kb : ∀ b, K b → b < w.heap.size

/-- The world has grown: what was there is there; nothing is frozen anew, nothing is written out. -/
structure Grew (w w' : World) : Prop where
  size : w.heap.size ≤ w'.heap.size
  os : w'.os = w.os
  out : w'.output = w.output
  frz : ∀ a, w'.frozen? a = w.frozen? a

theorem Grew.refl (w : World) : Grew w w := ⟨Nat.le_refl _, rfl, rfl, fun _ => rfl⟩
theorem Grew.trans {w w1 w2 : World} (h : Grew w w1) (h' : Grew w1 w2) : Grew w w2 := ⟨Nat.le_trans h.size h'.size, h'.os.trans h.os, h'.out.trans h.out, fun a => (h'.frz a).trans (h.frz a)⟩

/-- What a piece of the run leaves. -/
structure Post (K : Nat → Prop) (ρ : Ren) (w : World) (ρ' : Ren) (H' : AHeap) (w' : World) : Prop where
  le : ρ.le ρ'
  wr : WR K ρ' H' w'
  keep : ∀ b, K b → w'.heap[b]? = w.heap[b]?
  size : Grew w w'

theorem Post.refl {K : Nat → Prop} {ρ : Ren} {H : AHeap} {w : World} (h : WR K ρ H w) : Post K ρ w ρ H w := ⟨ρ.le_refl, h, fun _ _ => rfl, Grew.refl w⟩
theorem Post.trans {K : Nat → Prop} {ρ ρ1 ρ2 : Ren} {H1 H2 : AHeap} {w w1 w2 : World} (h : Post K ρ w ρ1 H1 w1) (h' : Post K ρ1 w1 ρ2 H2 w2) : Post K ρ w ρ2 H2 w2 :=
  ⟨Ren.le_trans h.le h'.le, h'.wr, fun b hb => (h'.keep b hb).trans (h.keep b hb), h.size.trans h'.size⟩

/-- Only the heap counts. -/
theorem WR.of_heap {K : Nat → Prop} {ρ : Ren} {H : AHeap} {w w' : World} (h : WR K ρ H w) (e : w'.heap = w.heap) : WR K ρ H w' :=
  ⟨fun i b hb => by rw [e]; exact h.live i b hb, h.inj, h.dom, fun b hb => by rw [e]; exact h.kb b hb⟩

theorem BR.unfrozen {ρ : Ren} {l : Loc} {b : ABlk} {o : Obj} (h : BR ρ l b o) {w : World} {a : Addr} (ha : w.heap[a.block]? = some o) : w.frozen? a = false := by
  unfold World.frozen?
  rw [ha]
  cases h with
  | cells => simp
  | map => rfl
  | pmap => rfl

theorem Grew.alloc {ρ : Ren} {l : Loc} {b : ABlk} {o : Obj} (hb : BR ρ l b o) (w : World) : Grew w (w.alloc o) := by
  have hfrz : ∀ a, (w.alloc o).frozen? a = w.frozen? a := by
    intro a
    by_cases e : a.block = w.heap.size
    · rw [hb.unfrozen (w := w.alloc o) (a := a) (by rw [e]; exact heap_alloc_new w o)]
      have : w.heap[a.block]? = none := by rw [e]; simp
      simp [World.frozen?, this]
    · by_cases e2 : a.block < w.heap.size
      · unfold World.frozen?; rw [heap_alloc_old w o _ e2]
      · have h1 : w.heap[a.block]? = none := by simp; omega
        have h2 : (w.alloc o).heap[a.block]? = none := by simp; omega
        simp [World.frozen?, h1, h2]
  exact ⟨by simp, rfl, rfl, hfrz⟩

/-- The cells of a live row. -/
theorem WR.row {K : Nat → Prop} {ρ : Ren} {H : AHeap} {w : World} (h : WR K ρ H w) {i : Nat} {r : Rope AVal} {g : Nat} {wr : Bool} (hb : H.get i = some (.cells r g wr))
    {l : Loc} (hl : ρ i = some l) : ∃ c t, w.heap[l.blk]? = some (.cells c t (0, 0)) ∧ l.off + r.size + l.sp * g ≤ c.size ∧ (g = 0 → l.sp = 0) ∧ RR ρ r c l.off ∧ ¬ K l.blk := by
  obtain ⟨l', o, h1, h2, h3, h4⟩ := h.live i _ hb
  rw [hl] at h1; cases h1
  cases h3 with
  | cells hsz hg hr => exact ⟨_, _, h2, hsz, hg, hr, h4⟩

theorem WR.lt {K : Nat → Prop} {ρ : Ren} {H : AHeap} {w : World} (h : WR K ρ H w) {i : Nat} {b : ABlk} (hb : H.get i = some b) {l : Loc} (hl : ρ i = some l) : l.blk < w.heap.size := by
  obtain ⟨l', o, h1, h2, _⟩ := h.live i b hb
  rw [hl] at h1; cases h1
  exact (Array.getElem?_eq_some_iff.1 h2).1

/-- A new block. -/
theorem WR.new {K : Nat → Prop} {ρ : Ren} {H : AHeap} {w : World} (h : WR K ρ H w) (b : ABlk) (o : Obj) (l : Loc) (hl : l.blk = w.heap.size)
    (hb : BR ρ l b o) : let ρ' : Ren := fun i => if i = H.next then some l else ρ i
    Post K ρ w ρ' (H.new b) (w.alloc o) := by
  intro ρ'
  have hle : ρ.le ρ' := by
    intro i l' e
    have := h.dom i l' e
    show (if i = H.next then some l else ρ i) = some l'
    rw [if_neg (by omega)]; exact e
  have hnew : ρ' H.next = some l := by simp [ρ']
  have hold : ∀ i b, H.get i = some b → i ≠ H.next := by
    intro i b hb'
    obtain ⟨l', o', h1, _⟩ := h.live i b hb'
    have := h.dom i l' h1
    omega
  refine ⟨hle, ⟨?_, ?_, ?_, ?_⟩, ?_, Grew.alloc hb w⟩
  · intro i b' hb'
    rw [AHeap.get_new] at hb'
    split at hb'
    · rename_i e
      subst e
      cases hb'
      refine ⟨l, o, hnew, by rw [hl]; exact heap_alloc_new w o, hb.mono hle, fun hk => ?_⟩
      have := h.kb _ hk; omega
    · obtain ⟨l', o', h1, h2, h3, h4⟩ := h.live i b' hb'
      exact ⟨l', o', hle _ _ h1, by rw [heap_alloc_old w o _ (Array.getElem?_eq_some_iff.1 h2).1]; exact h2, h3.mono hle, h4⟩
  · intro i j bi bj li lj hi hj hli hlj e
    rw [AHeap.get_new] at hi hj
    have key : ∀ k bk lk, H.get k = some bk → ρ' k = some lk → lk.blk < w.heap.size := by
      intro k bk lk hk hlk
      have hne := hold k bk hk
      have : ρ k = some lk := by simpa [ρ', hne] using hlk
      exact h.lt hk this
    split at hi <;> split at hj
    · omega
    · rename_i e1 _
      subst e1
      rw [hnew] at hli; cases hli
      have := key j bj lj hj hlj; omega
    · rename_i _ e1
      subst e1
      rw [hnew] at hlj; cases hlj
      have := key i bi li hi hli; omega
    · have h1 := hold i bi hi
      have h2 := hold j bj hj
      exact h.inj i j bi bj li lj hi hj (by simpa [ρ', h1] using hli) (by simpa [ρ', h2] using hlj) e
  · intro i l' e
    show i < H.next + 1
    by_cases hi : i = H.next
    · omega
    · have : ρ i = some l' := by simpa [ρ', hi] using e
      have := h.dom i l' this; omega
  · intro b' hb'; have := h.kb b' hb'; simp; omega
  · intro b' hb'; exact heap_alloc_old w o b' (h.kb b' hb')

/-- A killed block. -/
theorem WR.kill {K : Nat → Prop} {ρ : Ren} {H : AHeap} {w : World} (h : WR K ρ H w) (i : Nat) : WR K ρ (H.kill i) w := by
  refine ⟨fun j b hb => ?_, fun j k bj bk lj lk hj hk hlj hlk e => ?_, h.dom, h.kb⟩
  · rw [AHeap.get_kill] at hb
    split at hb
    · cases hb
    · exact h.live j b hb
  · rw [AHeap.get_kill] at hj hk
    split at hj
    · cases hj
    · split at hk
      · cases hk
      · exact h.inj j k bj bk lj lk hj hk hlj hlk e

/-- A live block's object is put anew. -/
theorem WR.set {K : Nat → Prop} {ρ : Ren} {H : AHeap} {w w' : World} (h : WR K ρ H w) {i : Nat} {b b' : ABlk} {l : Loc} {o' : Obj} (hb : H.get i = some b) (hl : ρ i = some l) (_hw : b.wr = true)
    (hh : w'.heap[l.blk]? = some o') (ho : ∀ k, k ≠ l.blk → w'.heap[k]? = w.heap[k]?) (hz : w'.heap.size = w.heap.size) (hb' : BR ρ l b' o') (hos : w'.os = w.os) (hout : w'.output = w.output) :
    Post K ρ w ρ (H.put i b') w' := by
  have hnk : ¬ K l.blk := by
    obtain ⟨l', o, h1, h2, h3, h4⟩ := h.live i b hb
    rw [hl] at h1; cases h1
    exact h4
  have hfrz : ∀ a, w'.frozen? a = w.frozen? a := by
    intro a
    by_cases e : a.block = l.blk
    · obtain ⟨l', o, h1, h2, h3, h4⟩ := h.live i b hb
      rw [hl] at h1; cases h1
      rw [hb'.unfrozen (w := w') (a := a) (by rw [e]; exact hh), h3.unfrozen (w := w) (a := a) (by rw [e]; exact h2)]
    · unfold World.frozen?; rw [ho _ e]
  have get' : ∀ j bj, (H.put i b').get j = some bj → ∃ bj', H.get j = some bj' := by
    intro j bj hj
    rw [AHeap.get_put] at hj
    split at hj
    · rename_i e; subst e; exact ⟨b, hb⟩
    · exact ⟨bj, hj⟩
  refine ⟨ρ.le_refl, ⟨?_, ?_, h.dom, fun k hk => by rw [hz]; exact h.kb k hk⟩, fun k hk => ho k (fun e => hnk (e ▸ hk)), ⟨by omega, hos, hout, hfrz⟩⟩
  · intro j bj hj
    rw [AHeap.get_put] at hj
    split at hj
    · rename_i e; subst e; cases hj
      exact ⟨l, o', hl, hh, hb', hnk⟩
    · rename_i hne
      obtain ⟨lj, oj, h1, h2, h3, h4⟩ := h.live j bj hj
      refine ⟨lj, oj, h1, ?_, h3, h4⟩
      rw [ho lj.blk (fun e => hne (h.inj i j b bj l lj hb hj hl h1 e.symm))]; exact h2
  · intro j k bj bk lj lk hj hk hlj hlk e
    obtain ⟨bj', hj'⟩ := get' j bj hj
    obtain ⟨bk', hk'⟩ := get' k bk hk
    exact h.inj j k bj' bk' lj lk hj' hk' hlj hlk e

end Go.Sim
