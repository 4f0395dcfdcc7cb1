/- A part of the proof that LockParts returns true for every input. No condition. -/
import GoSem.Core.Value
import Derived.Laws.CopyRow
import Derived.Laws.Rows
set_option linter.all false
section
namespace Go.Sim
inductive Rope (α : Type) where
 | lst (l : List α)
 | rep (n : Nat) (a : α)
 | app (m : Nat) (l r : Rope α)
 deriving Inhabited
namespace Rope
variable {α : Type}
def size : Rope α → Nat
 | .lst l => l.length
 | .rep n _ => n
 | .app m _ r => m + r.size
def get : Rope α → Nat → Option α
 | .lst l, i => l[i]?
 | .rep n a, i => if i < n then some a else none
 | .app m l r, i => if i < m then l.get i else r.get (i - m)
def set : Rope α → Nat → α → Rope α
 | .lst l, i, x => .lst (l.set i x)
 | .rep n a, i, x => if i < n then .app i (.rep i a) (.app 1 (.lst [x]) (.rep (n - i - 1) a)) else .rep n a
 | .app m l r, i, x => if i < m then .app m (l.set i x) r else .app m l (r.set (i - m) x)
def ext : Rope α → Nat → Nat → Rope α
 | .lst l, o, n => .lst ((l.drop o).take n)
 | .rep _ a, _, n => .rep n a
 | .app m l r, o, n =>
  if o + n ≤ m then l.ext o n
  else if m ≤ o then r.ext (o - m) n
  else .app (m - o) (l.ext o (m - o)) (r.ext 0 (o + n - m))
def cat : Rope α → Rope α → Rope α
 | .lst a, .lst b => .lst (a ++ b)
 | a, b => .app a.size a b
def full (r : Rope α) : Prop := ∀ i, i < r.size → (r.get i).isSome
theorem get_lt {r : Rope α} : ∀ {i : Nat} {a : α}, r.get i = some a → i < r.size := by
 induction r with
 | lst l => intro i a h; simp only [get] at h; exact (List.getElem?_eq_some_iff.1 h).1
 | rep n x => intro i a h; simp only [get] at h; split at h <;> simp_all [size]
 | app m l r ihl ihr =>
  intro i a h
  simp only [get] at h
  simp only [size]
  split at h
  ·omega
  ·have := ihr h; omega
theorem size_set {r : Rope α} : ∀ {i : Nat} {x : α}, i < r.size → (r.set i x).size = r.size := by
 induction r with
 | lst l => intro i x _; simp [set, size]
 | rep n a => intro i x h; simp only [size] at h; simp only [set, h, if_true, size]; omega
 | app m l r ihl ihr =>
  intro i x h
  simp only [size] at h
  simp only [set]
  split
  ·simp [size]
  ·simp only [size]; rw [ihr (by omega)]
theorem get_set {r : Rope α} : ∀ {i j : Nat} {x : α}, (r.get i).isSome → (r.set i x).get j = if j = i then some x else r.get j := by
 induction r with
 | lst l =>
  intro i j x h
  simp only [get, set] at *
  by_cases e : j = i
  ·subst e
   have : j < l.length := by
    cases h' : l[j]? with
    | none => simp [h'] at h
    | some v => exact (List.getElem?_eq_some_iff.1 h').1
   simp [this]
  ·simp [e, List.getElem?_set_ne (Ne.symm e)]
 | rep n a =>
  intro i j x h
  have hi : i < n := by
   simp only [get] at h
   split at h
   ·assumption
   ·simp at h
  simp only [set, hi, if_true, get]
  by_cases e : j = i
  ·subst e; simp
  ·simp only [e, if_false]
   by_cases h1 : j < i
   ·simp [h1]; omega
   ·have h2 : ¬ (j - i < 1) := by omega
    simp only [h1, if_false, h2]
    by_cases h3 : j < n
    ·have : j - i - 1 < n - i - 1 := by omega
     simp [this, h3]
    ·have : ¬ (j - i - 1 < n - i - 1) := by omega
     simp [this, h3]
 | app m l r ihl ihr =>
  intro i j x h
  simp only [get] at h
  simp only [set]
  by_cases hi : i < m
  ·simp only [hi, if_true] at h ⊢
   simp only [get]
   by_cases hj : j < m
   ·simp only [hj, if_true]; exact ihl h
   ·have : j ≠ i := by omega
    simp [hj, this]
  ·simp only [hi, if_false] at h ⊢
   simp only [get]
   by_cases hj : j < m
   ·have : j ≠ i := by omega
    simp [hj, this]
   ·simp only [hj, if_false]
    rw [ihr h]
    by_cases e : j = i
    ·simp [e]
    ·have : j - m ≠ i - m := by omega
     simp [e, this]
theorem get_ext {r : Rope α} : ∀ {o n j : Nat}, (∀ k, k < n → (r.get (o + k)).isSome) → j < n → (r.ext o n).get j = r.get (o + j) := by
 induction r with
 | lst l => intro o n j _ hj; simp [ext, get, hj]
 | rep k a =>
  intro o n j h hj
  have := h j hj
  simp only [ext, get, hj, if_true] at this ⊢
  split at this
  ·simp [*]
  ·simp at this
 | app m l r ihl ihr =>
  intro o n j h hj
  simp only [ext]
  split
  ·rename_i h1
   rw [ihl (fun k hk => ?_) hj]
   ·simp only [get]; rw [if_pos (by omega)]
   ·have := h k hk
    simp only [get] at this
    rwa [if_pos (by omega)] at this
  ·split
   ·rename_i h1 h2
    rw [ihr (fun k hk => ?_) hj]
    ·simp only [get]; rw [if_neg (by omega)]; congr 1; omega
    ·have := h k hk
     simp only [get] at this
     rw [if_neg (by omega)] at this
     rwa [show o - m + k = o + k - m from by omega]
   ·rename_i h1 h2
    simp only [get]
    by_cases hjm : j < m - o
    ·rw [if_pos hjm, if_pos (by omega)]
     exact ihl (fun k hk => by
      have := h k (by omega)
      simp only [get] at this
      rwa [if_pos (by omega)] at this) hjm
    ·rw [if_neg hjm, if_neg (by omega)]
     rw [ihr (fun k hk => ?_) (by omega)]
     ·congr 1; omega
     ·have := h (k + (m - o)) (by omega)
      simp only [get] at this
      rw [if_neg (by omega)] at this
      rwa [show 0 + k = o + (k + (m - o)) - m from by omega]
theorem size_ext {r : Rope α} : ∀ {o n : Nat}, (∀ k, k < n → (r.get (o + k)).isSome) → (r.ext o n).size = n := by
 induction r with
 | lst l =>
  intro o n h
  simp only [ext, size, List.length_take, List.length_drop]
  cases n with
  | zero => simp
  | succ n =>
   have := h n (by omega)
   simp only [get] at this
   cases h' : l[o + n]? with
   | none => simp [h'] at this
   | some v => have := (List.getElem?_eq_some_iff.1 h').1; omega
 | rep k a => intro o n _; simp [ext, size]
 | app m l r ihl ihr =>
  intro o n h
  simp only [ext]
  split
  ·exact ihl (fun k hk => by
    have := h k hk
    simp only [get] at this
    rwa [if_pos (by omega)] at this)
  ·split
   ·exact ihr (fun k hk => by
     have := h k hk
     simp only [get] at this
     rw [if_neg (by omega)] at this
     rwa [show o - m + k = o + k - m from by omega])
   ·simp only [size]
    rw [ihr (fun k hk => ?_)]
    ·omega
    ·have := h (k + (m - o)) (by omega)
     simp only [get] at this
     rw [if_neg (by omega)] at this
     rwa [show 0 + k = o + (k + (m - o)) - m from by omega]
theorem size_cat (a b : Rope α) : (a.cat b).size = a.size + b.size := by
 unfold cat
 split <;> simp [size]
theorem get_cat (a b : Rope α) (i : Nat) : (a.cat b).get i = if i < a.size then a.get i else b.get (i - a.size) := by
 unfold cat
 split
 ·simp only [get, size, List.getElem?_append]; rfl
 ·simp [get]
end Rope
def bitsF : Nat → Nat → List Bool
 | 0, _ => []
 | f + 1, k => if k = 0 then [] else (k % 2 == 1) :: bitsF f (k / 2)
def bits (k : Nat) : List Bool := bitsF k k
def ofBits : List Bool → Nat
 | [] => 0
 | b :: l => (if b then 1 else 0) + 2 * ofBits l
theorem ofBits_bitsF : ∀ (f k : Nat), k ≤ f → ofBits (bitsF f k) = k := by
 intro f
 induction f with
 | zero => intro k h; have : k = 0 := by omega
           subst this; rfl
 | succ f ih =>
  intro k h
  unfold bitsF
  split
  ·subst_vars; rfl
  ·simp only [ofBits]
   rw [ih (k / 2) (by omega)]
   by_cases e : k % 2 = 1
   ·simp [e]; omega
   ·have : k % 2 = 0 := by omega
    simp [this]; omega
theorem bits_inj {a b : Nat} (h : bits a = bits b) : a = b := by
 have := congrArg ofBits h
 rwa [bits, bits, ofBits_bitsF a a (Nat.le_refl _), ofBits_bitsF b b (Nat.le_refl _)] at this
inductive Trie (α : Type) where
 | leaf
 | node (l : Trie α) (v : Option α) (r : Trie α)
 deriving Inhabited
namespace Trie
variable {α : Type}
def getP : Trie α → List Bool → Option α
 | .leaf, _ => none
 | .node _ v _, [] => v
 | .node l _ r, b :: p => match b with
  | true => r.getP p
  | false => l.getP p
def setP : Trie α → List Bool → Option α → Trie α
 | .leaf, [], x => .node .leaf x .leaf
 | .node l _ r, [], x => .node l x r
 | .leaf, b :: p, x => match b with
  | true => .node .leaf none (setP .leaf p x)
  | false => .node (setP .leaf p x) none .leaf
 | .node l v r, b :: p, x => match b with
  | true => .node l v (r.setP p x)
  | false => .node (l.setP p x) v r
theorem getP_leaf (p : List Bool) : (Trie.leaf : Trie α).getP p = none := by cases p <;> rfl
theorem getP_setP_same : ∀ (p : List Bool) (t : Trie α) (x : Option α), (t.setP p x).getP p = x := by
 intro p
 induction p with
 | nil => intro t x; cases t <;> rfl
 | cons b p ih =>
  intro t x
  cases t <;> cases b <;> simp [setP, getP, ih]
theorem getP_setP_ne : ∀ (p q : List Bool) (t : Trie α) (x : Option α), p ≠ q → (t.setP p x).getP q = t.getP q := by
 intro p
 induction p with
 | nil =>
  intro q t x h
  cases q with
  | nil => exact absurd rfl h
  | cons b q => cases t <;> cases b <;> simp [setP, getP]
 | cons b p ih =>
  intro q t x h
  cases q with
  | nil => cases t <;> cases b <;> simp [setP, getP]
  | cons c q =>
   cases t <;> cases b <;> cases c <;> simp [setP, getP] <;>
    (rw [ih _ _ _ (by intro e; exact h (by rw [e]))]; try simp [getP_leaf])
def get (t : Trie α) (k : Nat) : Option α := t.getP (bits k)
def set (t : Trie α) (k : Nat) (x : Option α) : Trie α := t.setP (bits k) x
theorem get_leaf (k : Nat) : (Trie.leaf : Trie α).get k = none := getP_leaf _
theorem get_set_same (t : Trie α) (k : Nat) (x : Option α) : (t.set k x).get k = x := getP_setP_same _ _ _
theorem get_set_ne (t : Trie α) (k j : Nat) (x : Option α) (h : k ≠ j) : (t.set k x).get j = t.get j :=
 getP_setP_ne _ _ _ _ fun e => h (bits_inj e)
theorem get_set (t : Trie α) (k j : Nat) (x : Option α) : (t.set k x).get j = if k = j then x else t.get j := by
 by_cases h : k = j
 ·subst h; simp [get_set_same]
 ·simp [h, get_set_ne]
end Trie
inductive AVal where
 | bool (b : Bool)
 | int (k : IntKind) (n : Int)
 | str (s : ByteArray)
 | ptr (p : Option (Nat × Nat))
 | slice (p : Option (Nat × Nat)) (len cap : Nat)
 | mapv (r : Option Nat)
 | func (fn : Fn) (first captured : List AVal)
 | nilFunc
 | iface (t : TypeId) (v : AVal)
 | nilIface
 | agg (r : Rope AVal)
 | tup (vs : List AVal)
 -- a number that is known in part: these bits of it, and the bounds between which it lies
 | part (k : IntKind) (m v : Nat) (lo hi : Int)
 -- an empty slice that is not nil, wherever it points to
 | es
 -- a slice of memory that was handed in
 | vs (a : Option Addr) (n c : Nat)
 -- whatever it is, nobody looks at it
 | junk
 deriving Inhabited
def AVal.undef : AVal := .tup []
def AVal.one : AVal → Bool
 | .agg _ | .tup _ | .junk => false
 | _ => true
def AVal.cells : AVal → Option (Rope AVal)
 | .agg r => some r
 | .tup _ | .junk => none
 | v => some (.lst [v])
end Go.Sim
end
section
namespace Go.Sim
class RO where
 r : Nat → Prop
 -- what stands there
 c : Nat → Option Obj
variable [RO]
structure Loc where
 blk : Nat
 off : Nat
 sp : Nat
abbrev Ren := Nat → Option Loc
def Ren.le (ρ ρ' : Ren) : Prop := ∀ i l, ρ i = some l → ρ' i = some l
theorem Ren.le_refl (ρ : Ren) : ρ.le ρ := fun _ _ h => h
theorem Ren.le_trans {a b c : Ren} (h : a.le b) (h' : b.le c) : a.le c := fun _ _ e => h' _ _ (h _ _ e)
inductive VR (ρ : Ren) : AVal → Value → Prop where
 | bool (b : Bool) : VR ρ (.bool b) (.bool b)
 | int (k : IntKind) (n : Int) : VR ρ (.int k n) (.int k n)
 | str (s : ByteArray) : VR ρ (.str s) (.string s)
 | ptrNil : VR ρ (.ptr none) (.pointer none)
 | ptr {i o : Nat} {l : Loc} (h : ρ i = some l) : VR ρ (.ptr (some (i, o))) (.pointer (some ⟨l.blk, l.off + o, none⟩))
 | sliceNil : VR ρ (.slice none 0 0) (.slice none 0 0)
 | slice {i o n c : Nat} {l : Loc} (h : ρ i = some l) : VR ρ (.slice (some (i, o)) n c) (.slice (some ⟨l.blk, l.off + o, none⟩) n (c + l.sp))
 | mapNil : VR ρ (.mapv none) (.map none)
 | map {i : Nat} {l : Loc} (h : ρ i = some l) : VR ρ (.mapv (some i)) (.map (some l.blk))
 | func {fn : Fn} {a b : List AVal} {a' b' : Array Value} (ha : a'.size = a.length) (hb : b'.size = b.length)
   (h1 : ∀ (i : Nat) x v, a[i]? = some x → a'[i]? = some v → VR ρ x v) (h2 : ∀ (i : Nat) x v, b[i]? = some x → b'[i]? = some v → VR ρ x v) :
   VR ρ (.func fn a b) (.func fn a' b')
 | nilFunc : VR ρ .nilFunc .nilFunc
 | iface (t : TypeId) {x : AVal} {v : Value} (h : VR ρ x v) : VR ρ (.iface t x) (.iface t v)
 | nilIface : VR ρ .nilIface .nilIface
 | agg {r : Rope AVal} {cs : Array Value} (hs : cs.size = r.size) (hg : ∀ i, i < r.size → ∃ a, r.get i = some a ∧ a.one = true)
   (h : ∀ i a v, r.get i = some a → cs[i]? = some v → VR ρ a v) : VR ρ (.agg r) (.agg cs)
 | tup {a : List AVal} {a' : Array Value} (ha : a'.size = a.length) (h1 : ∀ (i : Nat) x v, a[i]? = some x → a'[i]? = some v → VR ρ x v) : VR ρ (.tup a) (.tuple a')
 | part {k : IntKind} {m v : Nat} {lo hi n : Int} (h1 : lo ≤ n) (h2 : n ≤ hi) (h3 : (BitVec.ofInt k.bits n).toNat &&& m = v) : VR ρ (.part k m v lo hi) (.int k n)
 | es (a : Addr) : VR ρ .es (.slice (some a) 0 0)
 | vs (a : Option Addr) (n c : Nat) : VR ρ (.vs a n c) (.slice a n c)
 | junk (v : Value) : VR ρ .junk v
theorem VR.mono {ρ ρ' : Ren} (hl : ρ.le ρ') {a : AVal} {v : Value} (h : VR ρ a v) : VR ρ' a v := by
 induction h with
 | bool b => exact .bool b
 | int k n => exact .int k n
 | str s => exact .str s
 | ptrNil => exact .ptrNil
 | ptr h => exact .ptr (hl _ _ h)
 | sliceNil => exact .sliceNil
 | slice h => exact .slice (hl _ _ h)
 | mapNil => exact .mapNil
 | map h => exact .map (hl _ _ h)
 | func ha hb _ _ ih1 ih2 => exact .func ha hb ih1 ih2
 | nilFunc => exact .nilFunc
 | iface t _ ih => exact .iface t ih
 | nilIface => exact .nilIface
 | agg hs hg _ ih => exact .agg hs hg ih
 | tup ha _ ih => exact .tup ha ih
 | part h1 h2 h3 => exact .part h1 h2 h3
 | es a => exact .es a
 | vs a n c => exact .vs a n c
 | junk v => exact .junk v
theorem VR.undef (ρ : Ren) : VR ρ AVal.undef Go.undef := .tup rfl (by intro i x v h; simp at h)
theorem VR.one {ρ : Ren} {a : AVal} {v : Value} (h : VR ρ a v) (ho : a.one = true) : v.oneCell' = true := by
 cases h <;> first | rfl | (simp [AVal.one] at ho)
def RR (ρ : Ren) (r : Rope AVal) (cs : Array Value) (o : Nat) : Prop :=
 ∀ i, i < r.size → ∃ a v, r.get i = some a ∧ a.one = true ∧ cs[o + i]? = some v ∧ VR ρ a v
theorem RR.mono {ρ ρ' : Ren} (hl : ρ.le ρ') {r : Rope AVal} {cs : Array Value} {o : Nat} (h : RR ρ r cs o) : RR ρ' r cs o :=
 fun i hi => let ⟨a, v, h1, h2, h3, h4⟩ := h i hi; ⟨a, v, h1, h2, h3, h4.mono hl⟩
theorem RR.of_agg {ρ : Ren} {r : Rope AVal} {cs : Array Value} (h : VR ρ (.agg r) (.agg cs)) : RR ρ r cs 0 := by
 cases h with
 | agg hs hg h =>
  intro i hi
  obtain ⟨a, ha, h1⟩ := hg i hi
  have : i < cs.size := by omega
  exact ⟨a, cs[i], ha, h1, by simp [this], h i a _ ha (by simp [this])⟩
theorem RR.agg {ρ : Ren} {r : Rope AVal} {cs : Array Value} (hs : cs.size = r.size) (h : RR ρ r cs 0) : VR ρ (.agg r) (.agg cs) := by
 refine .agg hs (fun i hi => ?_) (fun i a v ha hv => ?_)
 ·obtain ⟨a, v, h1, h2, _⟩ := h i hi; exact ⟨a, h1, h2⟩
 ·obtain ⟨a', v', h1, _, h3, h4⟩ := h i (Rope.get_lt ha)
  rw [h1] at ha; cases ha
  rw [Nat.zero_add] at h3
  rw [h3] at hv; cases hv
  exact h4
theorem RR.cells {ρ : Ren} {a : AVal} {v : Value} {r : Rope AVal} (h : VR ρ a v) (hc : a.cells = some r) : v.cells.size = r.size ∧ RR ρ r v.cells 0 := by
 cases h with
 | agg hs hg h =>
  simp only [AVal.cells, Option.some.injEq] at hc
  subst hc
  exact ⟨hs, RR.of_agg (.agg hs hg h)⟩
 | tup ha h1 => simp [AVal.cells] at hc
 | junk v => simp [AVal.cells] at hc
 | _ =>
  simp only [AVal.cells, Option.some.injEq] at hc
  subst hc
  refine ⟨rfl, fun i hi => ?_⟩
  have : i = 0 := by simp [Rope.size] at hi; omega
  subst this
  refine ⟨_, _, rfl, rfl, rfl, ?_⟩
  first
   | exact .bool _ | exact .int _ _ | exact .str _ | exact .ptrNil | exact .ptr ‹_› | exact .sliceNil | exact .slice ‹_› | exact .mapNil | exact .map ‹_›
   | exact .func ‹_› ‹_› ‹_› ‹_› | exact .nilFunc | exact .iface _ ‹_› | exact .nilIface | exact .es _ | exact .vs _ _ _ | (rename_i h1 h2 h3; exact .part h1 h2 h3)
theorem RR.full {ρ : Ren} {r : Rope AVal} {cs : Array Value} {o : Nat} (h : RR ρ r cs o) : ∀ i, i < r.size → (r.get i).isSome := by
 intro i hi; obtain ⟨a, v, h1, _⟩ := h i hi; simp [h1]
theorem RR.ext {ρ : Ren} {r : Rope AVal} {cs : Array Value} {o : Nat} (h : RR ρ r cs o) (p n : Nat) (hn : p + n ≤ r.size) :
  (r.ext p n).size = n ∧ RR ρ (r.ext p n) cs (o + p) := by
 have hf : ∀ k, k < n → (r.get (p + k)).isSome := fun k hk => h.full _ (by omega)
 have hs := Rope.size_ext hf
 refine ⟨hs, fun i hi => ?_⟩
 rw [hs] at hi
 obtain ⟨a, v, h1, h2, h3, h4⟩ := h (p + i) (by omega)
 refine ⟨a, v, ?_, h2, ?_, h4⟩
 ·rw [Rope.get_ext hf hi, h1]
 ·rwa [Nat.add_assoc]
inductive ABlk where
 | cells (r : Rope AVal) (g : Nat) (wr : Bool)
 | map (es : List (AVal × AVal))
 -- a map to be read, its entries in whatever order
 | pmap (es : List (AVal × AVal))
 deriving Inhabited
def ABlk.wr : ABlk → Bool
 | .cells _ _ w => w
 | .map _ => true
 | .pmap _ => true
structure AHeap where
 next : Nat
 tree : Trie ABlk
 deriving Inhabited
namespace AHeap
def get (H : AHeap) (i : Nat) : Option ABlk := H.tree.get i
def put (H : AHeap) (i : Nat) (b : ABlk) : AHeap := ⟨H.next, H.tree.set i (some b)⟩
def kill (H : AHeap) (i : Nat) : AHeap := ⟨H.next, H.tree.set i none⟩
def new (H : AHeap) (b : ABlk) : AHeap := ⟨H.next + 1, H.tree.set H.next (some b)⟩
theorem get_put (H : AHeap) (i j : Nat) (b : ABlk) : (H.put i b).get j = if i = j then some b else H.get j := Trie.get_set _ _ _ _
theorem get_kill (H : AHeap) (i j : Nat) : (H.kill i).get j = if i = j then none else H.get j := Trie.get_set _ _ _ _
theorem get_new (H : AHeap) (j : Nat) (b : ABlk) : (H.new b).get j = if H.next = j then some b else H.get j := Trie.get_set _ _ _ _
end AHeap
inductive BR (ρ : Ren) (l : Loc) : ABlk → Obj → Prop where
 | cells {r : Rope AVal} {g : Nat} {wr : Bool} {c : Array Value} {t : TypeId} {fr : Nat × Nat} (hf : wr = true → fr = (0, 0)) (hsz : l.off + r.size + l.sp * g ≤ c.size) (hg : g = 0 → l.sp = 0)
   (h : RR ρ r c l.off) : BR ρ l (.cells r g wr) (.cells c t fr)
 | map {es : List (AVal × AVal)} {es' : Array MapEntry} {clock : Nat} (hs : es'.size = es.length)
   (h : ∀ (i : Nat) e e', es[i]? = some e → es'[i]? = some e' → VR ρ e.1 e'.key ∧ VR ρ e.2 e'.val) : BR ρ l (.map es) (.map es' clock)
 | pmap {es : List (AVal × AVal)} {m : List MapEntry} {es' : Array MapEntry} {clock : Nat} (hp : m.Perm es'.toList) (hs : m.length = es.length)
   (h : ∀ (i : Nat) e e', es[i]? = some e → m[i]? = some e' → VR ρ e.1 e'.key ∧ VR ρ e.2 e'.val) : BR ρ l (.pmap es) (.map es' clock)
theorem BR.mono {ρ ρ' : Ren} (hl : ρ.le ρ') {l : Loc} {b : ABlk} {o : Obj} (h : BR ρ l b o) : BR ρ' l b o := by
 cases h with
 | cells hf hsz hg h => exact .cells hf hsz hg (h.mono hl)
 | map hs h => exact .map hs fun i e e' h1 h2 => ⟨(h i e e' h1 h2).1.mono hl, (h i e e' h1 h2).2.mono hl⟩
 | pmap hp hs h => exact .pmap hp hs fun i e e' h1 h2 => ⟨(h i e e' h1 h2).1.mono hl, (h i e e' h1 h2).2.mono hl⟩
structure WR (K : Nat → Prop) (ρ : Ren) (H : AHeap) (w : World) : Prop where
 live : ∀ i b, H.get i = some b → ∃ l o, ρ i = some l ∧ w.heap[l.blk]? = some o ∧ BR ρ l b o ∧ ((b.wr = true → ¬ K l.blk) ∧ (b.wr = false → RO.r l.blk))
 inj : ∀ i j bi bj li lj, H.get i = some bi → H.get j = some bj → bi.wr = true → bj.wr = true → ρ i = some li → ρ j = some lj → li.blk = lj.blk → i = j
 ro : ∀ b, RO.r b → K b
 dom : ∀ i l, ρ i = some l → i < H.next
 kb : ∀ b, K b → b < w.heap.size
 same : ∀ b, RO.r b → w.heap[b]? = RO.c b
structure Grew (w w' : World) : Prop where
 size : w.heap.size ≤ w'.heap.size
 os : w'.os = w.os
 out : w'.output = w.output
 tape : w'.tape = w.tape
theorem Grew.refl (w : World) : Grew w w := ⟨Nat.le_refl _, rfl, rfl, rfl⟩
theorem Grew.trans {w w1 w2 : World} (h : Grew w w1) (h' : Grew w1 w2) : Grew w w2 := ⟨Nat.le_trans h.size h'.size, h'.os.trans h.os, h'.out.trans h.out, h'.tape.trans h.tape⟩
structure Post (K : Nat → Prop) (ρ : Ren) (w : World) (ρ' : Ren) (H' : AHeap) (w' : World) : Prop where
 le : ρ.le ρ'
 wr : WR K ρ' H' w'
 keep : ∀ b, K b → w'.heap[b]? = w.heap[b]?
 size : Grew w w'
theorem Post.refl {K : Nat → Prop} {ρ : Ren} {H : AHeap} {w : World} (h : WR K ρ H w) : Post K ρ w ρ H w := ⟨ρ.le_refl, h, fun _ _ => rfl, Grew.refl w⟩
theorem Post.trans {K : Nat → Prop} {ρ ρ1 ρ2 : Ren} {H1 H2 : AHeap} {w w1 w2 : World} (h : Post K ρ w ρ1 H1 w1) (h' : Post K ρ1 w1 ρ2 H2 w2) : Post K ρ w ρ2 H2 w2 :=
 ⟨Ren.le_trans h.le h'.le, h'.wr, fun b hb => (h'.keep b hb).trans (h.keep b hb), h.size.trans h'.size⟩
theorem WR.of_heap {K : Nat → Prop} {ρ : Ren} {H : AHeap} {w w' : World} (h : WR K ρ H w) (e : w'.heap = w.heap) : WR K ρ H w' :=
 ⟨fun i b hb => by rw [e]; exact h.live i b hb, h.inj, h.ro, h.dom, fun b hb => by rw [e]; exact h.kb b hb, fun b hb => by rw [e]; exact h.same b hb⟩
theorem Grew.alloc {ρ : Ren} {l : Loc} {b : ABlk} {o : Obj} (hb : BR ρ l b o) (hbw : b.wr = true) (w : World) : Grew w (w.alloc o) := by
 exact ⟨by simp, rfl, rfl, rfl⟩
theorem WR.row {K : Nat → Prop} {ρ : Ren} {H : AHeap} {w : World} (h : WR K ρ H w) {i : Nat} {r : Rope AVal} {g : Nat} {wr : Bool} (hb : H.get i = some (.cells r g wr))
  {l : Loc} (hl : ρ i = some l) : ∃ c t fr, w.heap[l.blk]? = some (.cells c t fr) ∧ l.off + r.size + l.sp * g ≤ c.size ∧ (g = 0 → l.sp = 0) ∧ RR ρ r c l.off ∧ (wr = true → ¬ K l.blk) ∧ (wr = true → fr = (0, 0)) := by
 obtain ⟨l', o, h1, h2, h3, h4⟩ := h.live i _ hb
 rw [hl] at h1; cases h1
 cases h3 with
 | cells hf hsz hg hr => exact ⟨_, _, _, h2, hsz, hg, hr, h4.1, hf⟩
theorem WR.lt {K : Nat → Prop} {ρ : Ren} {H : AHeap} {w : World} (h : WR K ρ H w) {i : Nat} {b : ABlk} (hb : H.get i = some b) {l : Loc} (hl : ρ i = some l) : l.blk < w.heap.size := by
 obtain ⟨l', o, h1, h2, _⟩ := h.live i b hb
 rw [hl] at h1; cases h1
 exact (Array.getElem?_eq_some_iff.1 h2).1
theorem WR.ne {K : Nat → Prop} {ρ : Ren} {H : AHeap} {w : World} (h : WR K ρ H w) {i j : Nat} {bi bj : ABlk} {li lj : Loc} (hi : H.get i = some bi) (hj : H.get j = some bj) (hwi : bi.wr = true)
  (hli : ρ i = some li) (hlj : ρ j = some lj) (hne : i ≠ j) : lj.blk ≠ li.blk := by
 intro e
 obtain ⟨l1, o1, a1, a2, a3, a4⟩ := h.live i bi hi
 obtain ⟨l2, o2, b1, b2, b3, b4⟩ := h.live j bj hj
 rw [hli] at a1; cases a1
 rw [hlj] at b1; cases b1
 cases hw : bj.wr with
 | true => exact hne (h.inj i j bi bj li lj hi hj hwi hw hli hlj e.symm)
 | false => exact a4.1 hwi (e ▸ h.ro _ (b4.2 hw))
theorem WR.new {K : Nat → Prop} {ρ : Ren} {H : AHeap} {w : World} (h : WR K ρ H w) (b : ABlk) (o : Obj) (l : Loc) (hl : l.blk = w.heap.size) (hbw : b.wr = true)
  (hb : BR ρ l b o) : let ρ' : Ren := fun i => if i = H.next then some l else ρ i
  Post K ρ w ρ' (H.new b) (w.alloc o) := by
 intro ρ'
 have hle : ρ.le ρ' := by
  intro i l' e
  have := h.dom i l' e
  show (if i = H.next then some l else ρ i) = some l'
  rw [if_neg (by omega)]; exact e
 have hnew : ρ' H.next = some l := by simp [ρ']
 have hold : ∀ i b, H.get i = some b → i ≠ H.next := by
  intro i b hb'
  obtain ⟨l', o', h1, _⟩ := h.live i b hb'
  have := h.dom i l' h1
  omega
 refine ⟨hle, ⟨?_, ?_, h.ro, ?_, ?_, fun b hb => (heap_alloc_old w o b (h.kb b (h.ro b hb))).trans (h.same b hb)⟩, ?_, Grew.alloc hb hbw w⟩
 ·intro i b' hb'
  rw [AHeap.get_new] at hb'
  split at hb'
  ·rename_i e
   subst e
   cases hb'
   refine ⟨l, o, hnew, by rw [hl]; exact heap_alloc_new w o, hb.mono hle, fun _ hk => ?_, fun hf => ?_⟩
   ·have := h.kb _ hk; omega
   ·rw [hbw] at hf; cases hf
  ·obtain ⟨l', o', h1, h2, h3, h4⟩ := h.live i b' hb'
   exact ⟨l', o', hle _ _ h1, by rw [heap_alloc_old w o _ (Array.getElem?_eq_some_iff.1 h2).1]; exact h2, h3.mono hle, h4⟩
 ·intro i j bi bj li lj hi hj hwi hwj hli hlj e
  rw [AHeap.get_new] at hi hj
  have key : ∀ k bk lk, H.get k = some bk → ρ' k = some lk → lk.blk < w.heap.size := by
   intro k bk lk hk hlk
   have hne := hold k bk hk
   have : ρ k = some lk := by simpa [ρ', hne] using hlk
   exact h.lt hk this
  split at hi <;> split at hj
  ·omega
  ·rename_i e1 _
   subst e1
   rw [hnew] at hli; cases hli
   have := key j bj lj hj hlj; omega
  ·rename_i _ e1
   subst e1
   rw [hnew] at hlj; cases hlj
   have := key i bi li hi hli; omega
  ·have h1 := hold i bi hi
   have h2 := hold j bj hj
   exact h.inj i j bi bj li lj hi hj hwi hwj (by simpa [ρ', h1] using hli) (by simpa [ρ', h2] using hlj) e
 ·intro i l' e
  show i < H.next + 1
  by_cases hi : i = H.next
  ·omega
  ·have : ρ i = some l' := by simpa [ρ', hi] using e
   have := h.dom i l' this; omega
 ·intro b' hb'; have := h.kb b' hb'; simp; omega
 ·intro b' hb'; exact heap_alloc_old w o b' (h.kb b' hb')
theorem WR.kill {K : Nat → Prop} {ρ : Ren} {H : AHeap} {w : World} (h : WR K ρ H w) (i : Nat) : WR K ρ (H.kill i) w := by
 refine ⟨fun j b hb => ?_, fun j k bj bk lj lk hj hk hwj hwk hlj hlk e => ?_, h.ro, h.dom, h.kb, h.same⟩
 ·rw [AHeap.get_kill] at hb
  split at hb
  ·cases hb
  ·exact h.live j b hb
 ·rw [AHeap.get_kill] at hj hk
  split at hj
  ·cases hj
  ·split at hk
   ·cases hk
   ·exact h.inj j k bj bk lj lk hj hk hwj hwk hlj hlk e
theorem WR.set {K : Nat → Prop} {ρ : Ren} {H : AHeap} {w w' : World} (h : WR K ρ H w) {i : Nat} {b b' : ABlk} {l : Loc} {o' : Obj} (hb : H.get i = some b) (hl : ρ i = some l) (hw : b.wr = true) (hw' : b'.wr = true)
  (hh : w'.heap[l.blk]? = some o') (ho : ∀ k, k ≠ l.blk → w'.heap[k]? = w.heap[k]?) (hz : w'.heap.size = w.heap.size) (hb' : BR ρ l b' o') (hos : w'.os = w.os) (hout : w'.output = w.output) (htape : w'.tape = w.tape) :
  Post K ρ w ρ (H.put i b') w' := by
 have hnk : ¬ K l.blk := by
  obtain ⟨l', o, h1, h2, h3, h4⟩ := h.live i b hb
  rw [hl] at h1; cases h1
  exact h4.1 hw
 have get' : ∀ j bj, (H.put i b').get j = some bj → ∃ bj', H.get j = some bj' ∧ (bj.wr = true → bj'.wr = true) := by
  intro j bj hj
  rw [AHeap.get_put] at hj
  split at hj
  ·rename_i e; subst e; exact ⟨b, hb, fun _ => hw⟩
  ·exact ⟨bj, hj, id⟩
 refine ⟨ρ.le_refl, ⟨?_, ?_, h.ro, h.dom, fun k hk => by rw [hz]; exact h.kb k hk, fun b hb => (ho b fun e => hnk (e ▸ h.ro b hb)).trans (h.same b hb)⟩, fun k hk => ho k (fun e => hnk (e ▸ hk)), ⟨by omega, hos, hout, htape⟩⟩
 ·intro j bj hj
  rw [AHeap.get_put] at hj
  split at hj
  ·rename_i e; subst e; cases hj
   exact ⟨l, o', hl, hh, hb', fun _ => hnk, fun hf => by rw [hw'] at hf; cases hf⟩
  ·rename_i hne
   obtain ⟨lj, oj, h1, h2, h3, h4⟩ := h.live j bj hj
   refine ⟨lj, oj, h1, ?_, h3, h4⟩
   rw [ho lj.blk (h.ne hb hj hw hl h1 hne)]; exact h2
 ·intro j k bj bk lj lk hj hk hwj hwk hlj hlk e
  obtain ⟨bj', hj', hj2⟩ := get' j bj hj
  obtain ⟨bk', hk', hk2⟩ := get' k bk hk
  exact h.inj j k bj' bk' lj lk hj' hk' (hj2 hwj) (hk2 hwk) hlj hlk e
end Go.Sim
end
section
namespace Go.Sim
abbrev Tmps := Trie AVal
def tget (T : Tmps) (t : Nat) : AVal := (T.get t).getD AVal.undef
def cval : Value → Option AVal
 | .bool b => some (.bool b)
 | .int k n => some (.int k n)
 | .string s => some (.str s)
 | .pointer none => some (.ptr none)
 | .slice none 0 0 => some (.slice none 0 0)
 | .map none => some (.mapv none)
 | .nilFunc => some .nilFunc
 | .nilIface => some .nilIface
 | .func fn a b => if a.size = 0 && b.size = 0 then some (.func fn [] []) else none
 | _ => none
def aev (T : Tmps) : Operand → Option AVal
 | .tmp t => some (tget T t)
 | .const v => cval v
 | .func f => some (.func (.func f) [] [])
 | .global _ => none
def aevs (T : Tmps) : List Operand → Option (List AVal)
 | [] => some []
 | x :: l => match aev T x with
  | some v => match aevs T l with
   | some vs => some (v :: vs)
   | none => none
  | none => none
inductive Kd where
 | scal | bool | ptr | slice | func | iface | agg (n : Nat)
 deriving Inhabited
inductive LK where
 | arr (n : Nat) | sl | st
 deriving Inhabited
inductive AOp where
 | mov (x : Operand)
 | pick (c a b : Operand)
 | new (z : Rope AVal)
 | box (x : Operand)
 | build (z : Rope AVal) (ps : List (Nat × Nat × Operand))
 | bsl (n : Nat) (z : Rope AVal) (ps : List (Nat × Nat × Operand))
 | ldc (x : Operand)
 | ldr (n : Nat) (x : Operand)
 | sto (n : Nat) (a v : Operand)
 | nilc (x : Operand)
 | bin (op : BinOp) (k : Kd) (c : Bool) (x y : Operand)
 | una (op : UnOp) (x : Operand)
 | cvt (k : IntKind) (x : Operand)
 | mki (t : TypeId) (x : Operand)
 | mkf (fn : Fn) (a b : List Operand)
 | mkm
 | mks (bytes : Nat) (z : Rope AVal) (l c : Operand)
 | sls (size : Nat) (x : Operand) (lo hi : Option Operand)
 | sla (len size : Nat) (x : Operand) (lo hi : Option Operand)
 | fa (off : Nat) (x : Operand)
 | fld (agg : Bool) (off size : Nat) (x : Operand)
 | iaa (len size : Nat) (x i : Operand)
 | ias (size : Nat) (x i : Operand)
 | ixa (len : Nat) (agg : Bool) (size : Nat) (x i : Operand)
 | ixs (x i : Operand)
 | lkp (k : IntKind) (z : AVal) (ok : Bool) (x i : Operand)
 | mup (k : IntKind) (m i v : Operand)
 | tas (t : TypeId) (ok : Bool) (z : AVal) (x : Operand)
 | ext (x : Operand) (i : Nat)
 | call (f : FuncId) (args : List Operand)
 | clv (f : Operand) (args : List Operand)
 | inv (name : String) (r : Operand) (args : List Operand)
 | len (k : LK) (x : Operand)
 | app (size bytes : Nat) (x y : Operand)
 | cpy (size : Nat) (x y : Operand)
 | mnx (isMax : Bool) (x y : Operand)
 | del (k : IntKind) (m i : Operand)
 | dfr (f : Operand) (args : List Operand)
 | pnc (x : Operand)
 | rcv
 | bad
 deriving Inhabited
inductive AOut where
 | val (v : AVal)
 | enter (f : FuncId) (args : List AVal)
 | panic (v : AVal)
 | defer (f : FuncId) (args : List AVal)
 | recov
structure EnvD where
 zro : TypeId → Option (Rope AVal)
 meth : TypeId → String → Option FuncId
 eqt : TypeId → Option Nat
 isF : FuncId → Bool
def aint (k : IntKind) : AVal → Option Int
 | .int k' n => if k' = k then some n else none
 | _ => none
def anat : AVal → Option Nat
 | .int _ n => if 0 ≤ n then some n.toNat else none
 | _ => none
def over (r : Rope AVal) (o : Nat) (c : Rope AVal) : Nat → Rope AVal
 | 0 => r
 | n + 1 => match c.get n with
  | some a => (over r o c n).set (o + n) a
  | none => over r o c n
def putAll (r : Rope AVal) (o : Nat) (c : Rope AVal) : Rope AVal :=
 if o = 0 && c.size == r.size then c else over r o c c.size
def fillA (T : Tmps) (z : Rope AVal) : List (Nat × Nat × Operand) → Option (Rope AVal)
 | [] => some z
 | (o, s, x) :: ps => match aev T x with
  | some v => match v.cells with
   | some c => if c.size = s && (o + s ≤ z.size) then fillA T (putAll z o c) ps else none
   | none => none
  | none => none
def intBin (op : BinOp) (k : IntKind) (x y : Int) : Option AVal :=
 match op with
 | .add => some (.int k (k.wrap (x + y)))
 | .sub => some (.int k (k.wrap (x - y)))
 | .mul => some (.int k (k.wrap (x * y)))
 | .quo => if y = 0 then none else some (.int k (k.wrap (x.tdiv y)))
 | .rem => if y = 0 then none else some (.int k (x.tmod y))
 | .and => some (.int k (k.wrap (BitVec.ofInt k.bits x &&& BitVec.ofInt k.bits y).toNat))
 | .or => some (.int k (k.wrap (BitVec.ofInt k.bits x ||| BitVec.ofInt k.bits y).toNat))
 | .xor => some (.int k (k.wrap (BitVec.ofInt k.bits x ^^^ BitVec.ofInt k.bits y).toNat))
 | .andNot => some (.int k (k.wrap (BitVec.ofInt k.bits x &&& ~~~ BitVec.ofInt k.bits y).toNat))
 | .eql => some (.bool (x == y))
 | .neq => some (.bool (x != y))
 | .lss => some (.bool (x < y))
 | .leq => some (.bool (x ≤ y))
 | .gtr => some (.bool (x > y))
 | .geq => some (.bool (x ≥ y))
 | _ => none
def sameCell : AVal → AVal → Option Bool
 | .int k a, .int k' b => if k = k' then some (a == b) else none
 | _, _ => none
def sameRow (a b : Rope AVal) : Nat → Option Bool
 | 0 => some true
 | n + 1 => match sameRow a b n with
  | some r => match a.get n, b.get n with
   | some x, some y => match sameCell x y with
    | some s => some (r && s)
    | none => none
   | _, _ => none
  | none => none
def aeq (k : Kd) (c : Bool) (x y : AVal) : Option Bool :=
 match k with
 | .bool => match x, y with
  | .bool a, .bool b => some (a == b)
  | _, _ => none
 | .ptr => match x, y with
  | .ptr none, .ptr none => some true
  | .ptr none, .ptr (some _) => some false
  | .ptr (some _), .ptr none => some false
  | _, _ => none
 | .slice => match x, y with
  | .slice none _ _, .slice none _ _ => some true
  | .slice none _ _, .slice (some _) _ _ => some false
  | .slice (some _) _ _, .slice none _ _ => some false
  | .slice none _ _, .es => some false
  | .es, .slice none _ _ => some false
  | _, _ => none
 | .func => match x, y with
  | .nilFunc, .nilFunc => some true
  | .nilFunc, .func _ _ _ => some false
  | .func _ _ _, .nilFunc => some false
  | _, _ => none
 | .iface => match x, y with
  | .nilIface, .nilIface => if c then some true else none
  | .nilIface, .iface _ _ => some false
  | .iface _ _, .nilIface => some false
  | _, _ => none
 | .agg n => match x, y with
  | .agg x, .agg y => if x.size = n && y.size = n then sameRow x y n else none
  | _, _ => none
 | .scal => none
def partBin (op : BinOp) (k : IntKind) (m v : Nat) (lo hi : Int) (b : Int) : Option AVal :=
 match op with
 | .and => if 0 ≤ b && b.toNat < 2 ^ k.bits && (b.toNat &&& m == b.toNat) then some (.int k (k.wrap ((v &&& b.toNat : Nat) : Int)))
  else if 0 ≤ b && b.toNat < 2 ^ k.bits && b ≤ k.max then some (.part k (m &&& b.toNat) (v &&& b.toNat) 0 b) else none
 | .xor => if 0 ≤ b && b.toNat < 2 ^ k.bits && !k.signed then some (.part k m (v ^^^ (b.toNat &&& m)) 0 (2 ^ k.bits - 1 : Int)) else none
 | .rem => let j := Nat.log2 b.toNat
  if b = 2 ^ j && j ≤ k.bits && ((2 ^ j - 1) &&& m == 2 ^ j - 1) then
   (if 0 ≤ lo then some (.int k ((v &&& (2 ^ j - 1) : Nat) : Int))
    else if hi < 0 then some (.int k (if v &&& (2 ^ j - 1) = 0 then 0 else ((v &&& (2 ^ j - 1) : Nat) : Int) - 2 ^ j))
    else none)
  else none
 | .eql => if b < lo || hi < b || (0 ≤ b && b.toNat < 2 ^ k.bits && !(b.toNat &&& m == v)) then some (.bool false) else none
 | .neq => if b < lo || hi < b || (0 ≤ b && b.toNat < 2 ^ k.bits && !(b.toNat &&& m == v)) then some (.bool true) else none
 | .lss => if hi < b then some (.bool true) else if b ≤ lo then some (.bool false) else none
 | .leq => if hi ≤ b then some (.bool true) else if b < lo then some (.bool false) else none
 | .gtr => if b < lo then some (.bool true) else if hi ≤ b then some (.bool false) else none
 | .geq => if b ≤ lo then some (.bool true) else if hi < b then some (.bool false) else none
 | _ => none
def abin (op : BinOp) (k : Kd) (c : Bool) (x y : AVal) : Option AVal :=
 match x, y with
 | .part k m v lo hi, .int k' b => if k = k' then partBin op k m v lo hi b else none
 | .int k a, .int k' b => match op with
  | .shl => if b < 0 then none else some (.int k (k.wrap (a * 2 ^ (min b.toNat k.bits))))
  | .shr => if b < 0 then none else some (.int k (a.fdiv (2 ^ (min b.toNat k.bits))))
  | op => if k = k' then intBin op k a b else none
 | .str a, .str b => match op with
  | .eql => some (.bool (a.toList == b.toList))
  | .neq => some (.bool (!(a.toList == b.toList)))
  | _ => none
 | x, y => match op with
  | .eql => match aeq k c x y with
   | some b => some (.bool b)
   | none => none
  | .neq => match aeq k c x y with
   | some b => some (.bool (!b))
   | none => none
  | _ => none
def aun (op : UnOp) (x : AVal) : Option AVal :=
 match op, x with
 | .neg, .int k n => some (.int k (k.wrap (0 - n)))
 | .xor, .int k n => some (.int k (k.wrap (BitVec.ofInt k.bits (if k.signed then -1 else k.max) ^^^ BitVec.ofInt k.bits n).toNat))
 | .not, .bool b => some (.bool (!b))
 | _, _ => none
def hload1 (H : AHeap) (i o : Nat) : Option AVal :=
 match H.get i with
 | some (.cells r _ _) => r.get o
 | _ => none
def hloadN (H : AHeap) (i o n : Nat) : Option (Rope AVal) :=
 match H.get i with
 | some (.cells r _ _) => if o + n ≤ r.size then some (r.ext o n) else none
 | _ => none
def hstore (H : AHeap) (i o : Nat) (c : Rope AVal) : Option AHeap :=
 match H.get i with
 | some (.cells r g true) => if o + c.size ≤ r.size then some (H.put i (.cells (putAll r o c) g true)) else none
 | _ => none
def hsrc (H : AHeap) (q : Option (Nat × Nat)) (n : Nat) : Option (Rope AVal) :=
 match q with
 | none => some (.lst [])
 | some (j, o) => if n = 0 then some (.lst []) else hloadN H j o n
def afind (k : IntKind) (n : Int) : List (AVal × AVal) → Option (Option AVal)
 | [] => some none
 | (e, v) :: es => match aint k e with
  | some m => if n = m then some (some v) else afind k n es
  | none => none
def noKey (k : IntKind) (m : Int) : List (AVal × AVal) → Bool
 | [] => true
 | x :: l => (match aint k x.1 with | some m' => !(m' == m) | none => false) && noKey k m l
def nodupK (k : IntKind) : List (AVal × AVal) → Bool
 | [] => true
 | x :: l => (match aint k x.1 with | some m => noKey k m l | none => false) && nodupK k l
def hfind (H : AHeap) (k : IntKind) (n : Int) (m : Option Nat) : Option (Option AVal) :=
 match m with
 | none => some none
 | some b => match H.get b with
  | some (.map es) => afind k n es
  | some (.pmap es) => if nodupK k es then afind k n es else none
  | _ => none
def aput (k : IntKind) (n : Int) (v : AVal) : List (AVal × AVal) → Option (List (AVal × AVal))
 | [] => some [(.int k n, v)]
 | (e, u) :: es => match aint k e with
  | some m => if n = m then some ((.int k n, v) :: es) else (aput k n v es).map ((e, u) :: ·)
  | none => none
def acallee (E : EnvD) (f : AVal) (args : List AVal) : Option (FuncId × List AVal) :=
 match f with
 | .func (.func g) a b => if E.isF g then some (g, a ++ args ++ b) else none
 | _ => none
def tile (z : Rope AVal) : Nat → Rope AVal
 | 0 => .lst []
 | n + 1 => (tile z n).cat z
def tileN (z : Rope AVal) (n : Nat) : Rope AVal :=
 match z with
 | .lst [v] => .rep n v
 | z => tile z n
def abound (T : Tmps) (x : Option Operand) (d : Nat) : Option Nat :=
 match x with
 | none => some d
 | some x => match aev T x with
  | some v => anat v
  | none => none
def quietOp : AOp → Bool
 | .mov _ | .pick .. | .build .. | .nilc _ | .bin .. | .una .. | .cvt .. | .mki .. | .mkf .. | .fa .. | .fld .. | .iaa .. | .ias .. | .ixa .. | .ixs .. | .tas .. | .ext .. | .len .. | .mnx .. => true
 | _ => false
def readOp : AOp → Bool
 | .ldc _ | .ldr .. | .lkp .. | .sls .. | .sla .. => true
 | _ => false
def ret (v : AVal) (H : AHeap) : Option (AOut × AHeap) := some (.val v, H)
def aop (E : EnvD) (T : Tmps) (H : AHeap) : AOp → Option (AOut × AHeap)
 | .mov x => match aev T x with
  | some v => ret v H
  | none => none
 | .pick c a b => match aev T c with
  | some (.bool true) => match aev T a with | some v => (match aev T b with | some _ => ret v H | none => none) | none => none
  | some (.bool false) => match aev T b with | some v => (match aev T a with | some _ => ret v H | none => none) | none => none
  | _ => none
 | .new z => ret (.ptr (some (H.next, 0))) (H.new (.cells z 0 true))
 | .box x => match aev T x with
  | some v => match v.cells with
   | some c => ret (.ptr (some (H.next, 0))) (H.new (.cells c 0 true))
   | none => none
  | none => none
 | .build z ps => match fillA T z ps with
  | some c => ret (.agg c) H
  | none => none
 | .bsl n z ps => match fillA T z ps with
  | some c => ret (.slice (some (H.next, 0)) n n) (H.new (.cells c 0 true))
  | none => none
 | .ldc x => match aev T x with
  | some (.ptr (some (i, o))) => match hload1 H i o with
   | some v => ret v H
   | none => none
  | _ => none
 | .ldr n x => match aev T x with
  | some (.ptr (some (i, o))) => match hloadN H i o n with
   | some c => ret (.agg c) H
   | none => none
  | _ => none
 | .sto n a v => match aev T a, aev T v with
  | some (.ptr (some (i, o))), some x => match x.cells with
   | some c => if c.size = n then (match hstore H i o c with
     | some H' => ret AVal.undef H'
     | none => none) else none
   | none => none
  | _, _ => none
 | .nilc x => match aev T x with
  | some (.ptr (some p)) => ret (.ptr (some p)) H
  | some (.func (.func f) a b) => ret (.func (.func f) a b) H
  | some (.iface t v) => ret (.iface t v) H
  | _ => none
 | .bin op k c x y => match aev T x, aev T y with
  | some a, some b => match abin op k c a b with
   | some v => ret v H
   | none => none
  | _, _ => none
 | .una op x => match aev T x with
  | some a => match aun op a with
   | some v => ret v H
   | none => none
  | none => none
 | .cvt k x => match aev T x with
  | some (.int _ n) => ret (.int k (k.wrap n)) H
  | _ => none
 | .mki t x => match aev T x with
  | some v => ret (.iface t v) H
  | none => none
 | .mkf fn a b => match aevs T a, aevs T b with
  | some a, some b => ret (.func fn a b) H
  | _, _ => none
 | .mkm => ret (.mapv (some H.next)) (H.new (.map []))
 | .mks bytes z l c => match aev T l, aev T c with
  | some (.int .i64 a), some (.int .i64 b) =>
   if 0 ≤ a && a ≤ b && bytes * b.toNat ≤ 2 ^ 40 && b.toNat ≤ 2 ^ 40 then ret (.slice (some (H.next, 0)) a.toNat b.toNat) (H.new (.cells (tileN z b.toNat) 0 true))
   else none
  | _, _ => none
 | .sls s x lo hi => match aev T x with
  | some (.slice p n c) => match abound T hi n with
   | some h => match abound T lo 0 with
    | some l =>
     if l ≤ h && h ≤ c then
      match p with
      | none => ret (.slice none 0 0) H
      | some (i, o) => if l = 0 then ret (.slice (some (i, o)) (h - l) (c - l)) H else match H.get i with
       | some (.cells _ g _) =>
        if l < c then ret (.slice (some (i, o + l * s)) (h - l) (c - l)) H
        else if g = 0 then ret (.slice (some (i, o)) (h - l) (c - l)) H
        else if l = 0 then ret (.slice (some (i, o)) (h - l) (c - l)) H
        else none
       | _ => none
     else none
    | none => none
   | none => none
  | _ => none
 | .sla n s x lo hi => match aev T x with
  | some (.ptr (some (i, o))) => match H.get i with
   | some (.cells _ 0 _) => match abound T hi n with
    | some h => match abound T lo 0 with
     | some l => if l ≤ h && h ≤ n then ret (.slice (some (i, if n = l then o else o + l * s)) (h - l) (n - l)) H else none
     | none => none
    | none => none
   | _ => none
  | _ => none
 | .fa off x => match aev T x with
  | some (.ptr (some (i, o))) => ret (.ptr (some (i, o + off))) H
  | _ => none
 | .fld agg off s x => match aev T x with
  | some (.agg r) =>
   if agg then (if off + s ≤ r.size then ret (.agg (r.ext off s)) H else none)
   else match r.get off with
    | some v => ret v H
    | none => none
  | _ => none
 | .iaa n s x i => match aev T x, aev T i with
  | some (.ptr (some (b, o))), some v => match anat v with
   | some k => if k < n then ret (.ptr (some (b, o + k * s))) H else none
   | none => none
  | _, _ => none
 | .ias s x i => match aev T x, aev T i with
  | some (.slice (some (b, o)) n _), some v => match anat v with
   | some k => if k < n then ret (.ptr (some (b, o + k * s))) H else none
   | none => none
  | _, _ => none
 | .ixa n agg s x i => match aev T x, aev T i with
  | some (.agg r), some v => match anat v with
   | some k =>
    if k < n then
     if agg then (if k * s + s ≤ r.size then ret (.agg (r.ext (k * s) s)) H else none)
     else match r.get (k * s) with
      | some v => ret v H
      | none => none
    else none
   | none => none
  | _, _ => none
 | .ixs x i => match aev T x, aev T i with
  | some (.str s), some v => match anat v with
   | some k => match s[k]? with
    | some b => ret (.int .u8 b.toNat) H
    | none => none
   | none => none
  | _, _ => none
 | .lkp k z ok x i => match aev T x, aev T i with
  | some (.mapv m), some v => match aint k v with
   | some n =>
    match hfind H k n m with
    | some (some u) => ret (if ok then .tup [u, .bool true] else u) H
    | some none => ret (if ok then .tup [z, .bool false] else z) H
    | none => none
   | none => none
  | _, _ => none
 | .mup k m i v => match aev T m, aev T i, aev T v with
  | some (.mapv (some b)), some key, some x => match aint k key with
   | some n => match H.get b with
    | some (.map es) => match aput k n x es with
     | some es' => ret AVal.undef (H.put b (.map es'))
     | none => none
    | _ => none
   | none => none
  | _, _, _ => none
 | .tas t ok z x => match aev T x with
  | some (.iface u v) =>
   if u = t then ret (if ok then .tup [v, .bool true] else v) H
   else if ok then ret (.tup [z, .bool false]) H else none
  | some .nilIface => if ok then ret (.tup [z, .bool false]) H else none
  | _ => none
 | .ext x i => match aev T x with
  | some (.tup l) => match l[i]? with
   | some v => ret v H
   | none => none
  | _ => none
 | .call f args => match aevs T args with
  | some l => if E.isF f then some (.enter f l, H) else none
  | none => none
 | .clv f args => match aev T f, aevs T args with
  | some g, some l => match acallee E g l with
   | some (f, l) => some (.enter f l, H)
   | none => none
  | _, _ => none
 | .inv name r args => match aev T r, aevs T args with
  | some (.iface t v), some l => match E.meth t name with
   | some f => some (.enter f (v :: l), H)
   | none => none
  | _, _ => none
 | .len k x => match k, aev T x with
  | .arr n, some _ => ret (.int .i64 n) H
  | .sl, some (.slice _ n _) => ret (.int .i64 n) H
  | .sl, some .es => ret (.int .i64 0) H
  | .st, some (.str s) => ret (.int .i64 s.size) H
  | _, _ => none
 | .app s bytes x y => match aev T x, aev T y with
  | some (.slice p n c), some (.slice q m _) =>
   -- what is appended
   match hsrc H q (m * s) with
   | none => none
   | some new =>
    if m = 0 then (if n ≤ c then ret (.slice p n c) H else none)
    else if (n + m) * bytes ≤ 2 ^ 40 && (n + m) ≤ 2 ^ 40 && n ≤ c && s ≠ 0 then
     match p with
     | none => ret (.slice (some (H.next, 0)) m m) (H.new (.cells new s true))
     | some (i, o) => match H.get i with
      | some (.cells r g w) =>
       if n + m ≤ c then (match hstore H i (o + n * s) new with
        | some H' => ret (.slice (some (i, o)) (n + m) c) H'
        | none => none)
       else match hloadN H i o (n * s) with
        | none => none
        | some old =>
         if g = 0 then ret (.slice (some (H.next, 0)) (n + m) (n + m)) (H.new (.cells (old.cat new) s true))
         else if w && (g == s) && (o + c * s == r.size) && (c == n) then ret (.slice (some (H.next, 0)) (n + m) (n + m)) ((H.kill i).new (.cells (old.cat new) s true))
         else none
      | _ => none
    else none
  | some (.slice p n c), some .es => if n ≤ c then ret (.slice p n c) H else none
  | _, _ => none
 | .cpy s x y => match aev T x, aev T y with
  | some (.slice p n _), some (.slice q m _) =>
   match hsrc H q (min m n * s) with
   | none => none
   | some new =>
    match p with
    | none => ret (.int .i64 (min m n : Nat)) H
    | some (i, o) => match hstore H i o new with
     | some H' => ret (.int .i64 (min m n : Nat)) H'
     | none => none
  | some (.slice _ _ _), some .es => ret (.int .i64 0) H
  | _, _ => none
 | .mnx isMax x y => match aev T x, aev T y with
  | some (.int k a), some (.int k' b) =>
   if k = k' then ret (.int k (if isMax then (if b > a then b else a) else (if b < a then b else a))) H else none
  | _, _ => none
 | .del _ _ _ => none
 | .dfr f args => match aev T f, aevs T args with
  | some g, some l => match acallee E g l with
   | some (f, l) => some (.defer f l, H)
   | none => none
  | _, _ => none
 | .pnc x => match aev T x with
  | some (.iface t v) => some (.panic (.iface t v), H)
  | _ => none
 | .rcv => some (.recov, H)
 | .bad => none
def csize (P : Program) (t : TypeId) : Option Nat := (P.info? t).map (·.size)
def isAggT (P : Program) (t : TypeId) : Option Bool :=
 match P.underlying t with
 | some (.struct _) => some true
 | some (.array _ _) => some true
 | some _ => some false
 | none => none
def cellZ (P : Program) (E : EnvD) (t : TypeId) : Option AVal :=
 match isAggT P t, E.zro t with
 | some false, some (.lst [v]) => some v
 | some true, some z => some (.agg z)
 | _, _ => none
def partsP (places : List (Nat × Nat)) : List (Nat × Operand) → Option (List (Nat × Nat × Operand))
 | [] => some []
 | (i, x) :: l => match places[i]? with
  | some (o, s) => match partsP places l with
   | some r => some ((o, s, x) :: r)
   | none => none
  | none => none
def partsA (s : Nat) (l : List (Nat × Operand)) : List (Nat × Nat × Operand) := l.map fun (i, x) => (i * s, s, x)
def isConstO : Operand → Bool
 | .const _ => true
 | _ => false
def kindOf (P : Program) (E : EnvD) (t : TypeId) : Kd :=
 match P.underlying t with
 | some .bool => .bool
 | some (.pointer _) => .ptr
 | some (.slice _) => .slice
 | some (.func _ _ _) => .func
 | some (.interface _) => .iface
 | some (.struct _) => match E.eqt t with
  | some n => .agg n
  | none => .scal
 | _ => .scal
def comp (P : Program) (E : EnvD) : Op → Option AOp
 | .move x | .assign x => some (.mov x)
 | .pick c a b => some (.pick c a b)
 | .alloc t => (E.zro t).map .new
 | .box _ x => some (.box x)
 | .build t ps => match E.zro t, P.underlying t with
  | some z, some (.struct fs) => match fs.toList.mapM (fun f => (P.info? f.type).map fun i => (f.offset, i.size)) with
   | some places => match partsP places ps.toList with
    | some l => some (.build z l)
    | none => none
   | none => none
  | some z, some (.array _ e) => match csize P e with
   | some s => some (.build z (partsA s ps.toList))
   | none => none
  | _, _ => none
 | .buildSlice t n ps => match P.underlying t with
  | some (.slice e) => match E.zro e, csize P e with
   | some z, some s => if z.size = s && n * s ≤ 2 ^ 24 && s ≠ 0 then some (.bsl n (tile z n) (partsA s ps.toList)) else none
   | _, _ => none
  | _ => none
 | .load t a => match isAggT P t with
  | some true => match csize P t with
   | some n => some (.ldr n a)
   | none => none
  | some false => some (.ldc a)
  | none => none
 | .store t a v => match csize P t with
  | some n => some (.sto n a v)
  | none => none
 | .nilCheck x => some (.nilc x)
 | .binOp op t x y _ => some (.bin op (kindOf P E t) (isConstO x || isConstO y) x y)
 | .unOp op _ x => some (.una op x)
 | .convert s t x => match P.underlying s, P.underlying t with
  | some (.int _), some (.int k) => some (.cvt k x)
  | _, _ => none
 | .makeInterface t x => match P.underlying t with
  | some (.interface _) => none
  | some _ => some (.mki t x)
  | none => none
 | .makeFunc fn a b => some (.mkf fn a.toList b.toList)
 | .makeMap t r => if r.isNone && (P.underlying t).isSome then some .mkm else none
 | .makeSlice t l c => match P.underlying t with
  | some (.slice e) => match E.zro e, P.info? e with
   | some z, some i => if z.size = i.size && i.size ≠ 0 then some (.mks i.bytes z l c) else none
   | _, _ => none
  | _ => none
 | .slice t x lo hi mx =>
  if mx.isSome then none else
  match P.underlying t with
  | some (.slice e) => match csize P e with
   | some s => some (.sls s x lo hi)
   | none => none
  | some (.array n e) => match csize P e with
   | some s => some (.sla n s x lo hi)
   | none => none
  | _ => none
 | .fieldAddr s x f => match P.underlying s with
  | some (.struct fs) => match fs[f]? with
   | some fd => match csize P fd.type with
    | some (_ + 1) => some (.fa fd.offset x)
    | _ => none
   | none => none
  | _ => none
 | .field t x f => match P.underlying t with
  | some (.struct fs) => match fs[f]? with
   | some fd => match isAggT P fd.type, csize P fd.type with
    | some b, some s => some (.fld b fd.offset s x)
    | _, _ => none
   | none => none
  | _ => none
 | .indexAddr t x i => match P.underlying t with
  | some (.array n e) => match csize P e with
   | some s => some (.iaa n s x i)
   | none => none
  | some (.slice e) => match csize P e with
   | some s => some (.ias s x i)
   | none => none
  | _ => none
 | .index t x i => match P.underlying t with
  | some (.array n e) => match isAggT P e, csize P e with
   | some b, some s => some (.ixa n b s x i)
   | _, _ => none
  | some .string => some (.ixs x i)
  | _ => none
 | .lookup t x i ok => match P.underlying t with
  | some (.map k e) => match P.underlying k, cellZ P E e with
   | some (.int k), some z => some (.lkp k z ok x i)
   | _, _ => none
  | _ => none
 | .mapUpdate t m k v | .insert t m k v => match P.underlying t with
  | some (.map kt _) => match P.underlying kt with
   | some (.int kk) => some (.mup kk m k v)
   | _ => none
  | _ => none
 | .typeAssert x _ t ok => match P.underlying t with
  | some (.interface _) => none
  | some _ => match cellZ P E t with
   | some z => some (.tas t ok z x)
   | none => none
  | none => none
 | .extract x i => some (.ext x i)
 | .call c => match c.callee with
  | .value (.func f) => some (.call f c.args.toList)
  | .value g => some (.clv g c.args.toList)
  | .invoke r name => some (.inv name r c.args.toList)
  | .builtin .len => match c.args.toList, c.argTypes.toList with
   | [x], [t] => match P.underlying t with
    | some (.array n _) => some (.len (.arr n) x)
    | some (.slice _) => some (.len .sl x)
    | some .string => some (.len .st x)
    | some (.pointer p) => match P.underlying p with
     | some (.array n _) => some (.len (.arr n) x)
     | _ => none
    | _ => none
   | _, _ => none
  | .builtin .append => match c.args.toList, c.argTypes.toList with
   | [x, y], [t, u] => match P.underlying t, P.underlying u with
    | some (.slice e), some (.slice _) => match E.zro e, P.info? e with
     | some z, some i => if z.size = i.size then some (.app i.size i.bytes x y) else none
     | _, _ => none
    | _, _ => none
   | _, _ => none
  | .builtin .copy => match c.args.toList, c.argTypes.toList with
   | [x, y], [t, _] => match P.underlying t with
    | some (.slice e) => match csize P e with
     | some s => some (.cpy s x y)
     | none => none
    | _ => none
   | _, _ => none
  | .builtin .min => match c.args.toList with
   | [x, y] => some (.mnx false x y)
   | _ => none
  | .builtin .max => match c.args.toList with
   | [x, y] => some (.mnx true x y)
   | _ => none
  | .builtin .recover => some .rcv
  | _ => none
 | .defer c => match c.callee with
  | .value g => some (.dfr g c.args.toList)
  | _ => none
 | .panic x => some (.pnc x)
 | _ => none
end Go.Sim
end
section
namespace Go.Sim
structure AItem where
 dst : Option Nat
 op : AOp
 guard : Option (Nat × Bool)
 deriving Inhabited
inductive Cls where
 | P | R | A | W
 deriving DecidableEq, Inhabited
structure DItem where
 it : AItem
 idx : Nat
 cls : Cls
 pre : Nat
 cand : List Nat
 deriving Inhabited
inductive ACode where
 | skip
 | reg (l : List AItem)
 | drg (l : List DItem)
 | seq (a b : ACode)
 | cond (c : Operand) (a b : ACode)
 | blk (id : Nat) (a : ACode)
 | loop (a : ACode)
 | exit (id : Nat)
 | ret
 | bad
 deriving Inhabited
inductive ARes where
 | tmp (t : Nat)
 | cell (a : Nat) (agg : Bool) (size : Nat)
 deriving Inhabited
structure AFunc where
 n : Nat
 body : ACode
 res : List ARes
 deriving Inhabited
structure St where
 T : Tmps
 H : AHeap
 D : List (FuncId × List AVal)
inductive AX where
 | normal
 | exit (id : Nat)
 | ret
 | panic (v : AVal)
inductive CRes where
 | ret (v : AVal) (H : AHeap)
 | pan (v : AVal) (H : AHeap)
abbrev CallF := FuncId → List AVal → AHeap → Option CRes
def wantedA (T : Tmps) : Option (Nat × Bool) → Option Bool
 | none => some true
 | some (t, b) => match tget T t with
  | .bool c => some (c == b)
  | .junk => none
  | _ => some false
def tput (n : Nat) (d : Option Nat) (v : AVal) (T : Tmps) : Option Tmps :=
 match d with
 | none => some T
 | some d => if d < n then some (T.set d (some v)) else none
def aitems (call : CallF) (E : EnvD) (n : Nat) : List AItem → St → Option (AX × St)
 | [], s => some (.normal, s)
 | it :: l, s =>
  match wantedA s.T it.guard with
  | none => none
  | some true =>
   match aop E s.T s.H it.op with
   | some (.val v, H) => match tput n it.dst v s.T with
    | some T => aitems call E n l ⟨T, H, s.D⟩
    | none => none
   | some (.enter f args, H) => match call f args H with
    | some (.ret v H) => match tput n it.dst v s.T with
     | some T => aitems call E n l ⟨T, H, s.D⟩
     | none => none
    | some (.pan v H) => some (.panic v, ⟨s.T, H, s.D⟩)
    | none => none
   | some (.panic v, H) => some (.panic v, ⟨s.T, H, s.D⟩)
   | some (.defer f args, H) => match tput n it.dst AVal.undef s.T with
    | some T => aitems call E n l ⟨T, H, (f, args) :: s.D⟩
    | none => none
   | _ => none
  | some false => match tput n it.dst AVal.undef s.T with
   | some T => aitems call E n l ⟨T, s.H, s.D⟩
   | none => none
def beqL (f : AVal → AVal → Bool) : List AVal → List AVal → Bool
 | [], [] => true
 | a :: l, b :: m => f a b && beqL f l m
 | _, _ => false
def beqR (f : AVal → AVal → Bool) : Rope AVal → Rope AVal → Bool
 | .lst l, .lst m => beqL f l m
 | .rep n a, .rep m b => n == m && f a b
 | .app n a b, .app m c d => n == m && beqR f a c && beqR f b d
 | _, _ => false
def beqV : Nat → AVal → AVal → Bool
 | 0, _, _ => false
 | n + 1, a, b => match a, b with
  | .bool a, .bool b => a == b
  | .int k a, .int j b => decide (k = j) && decide (a = b)
  | .str a, .str b => decide (a = b)
  | .ptr a, .ptr b => decide (a = b)
  | .slice a n c, .slice b m d => decide (a = b) && n == m && c == d
  | .vs a n c, .vs b m d => decide (a = b) && n == m && c == d
  | .mapv a, .mapv b => decide (a = b)
  | .func f a b, .func g c d => decide (f = g) && beqL (beqV n) a c && beqL (beqV n) b d
  | .nilFunc, .nilFunc => true
  | .iface t a, .iface u b => t == u && beqV n a b
  | .nilIface, .nilIface => true
  | .agg a, .agg b => beqR (beqV n) a b
  | .tup a, .tup b => beqL (beqV n) a b
  | .part k m v lo hi, .part k' m' v' lo' hi' => decide (k = k') && m == m' && v == v' && decide (lo = lo') && decide (hi = hi')
  | _, _ => false
def scL (f : AVal → Bool) : List AVal → Bool
 | [] => true
 | a :: l => f a && scL f l
def scR (f : AVal → Bool) : Rope AVal → Bool
 | .lst l => scL f l
 | .rep _ a => f a
 | .app _ a b => scR f a && scR f b
def scV (m : Nat) : Nat → AVal → Bool
 | 0, _ => false
 | n + 1, a => match a with
  | .ptr (some (i, _)) => decide (i < m)
  | .slice (some (i, _)) _ _ => decide (i < m)
  | .mapv (some i) => decide (i < m)
  | .func _ a b => scL (scV m n) a && scL (scV m n) b
  | .iface _ a => scV m n a
  | .agg r => scR (scV m n) r
  | .tup l => scL (scV m n) l
  | _ => true
def looksO : Operand → List Nat
 | .tmp t => [t]
 | _ => []
def looksP (ps : List (Nat × Nat × Operand)) : List Nat := ps.flatMap fun p => looksO p.2.2
def looksL (l : List Operand) : List Nat := l.flatMap looksO
def looksM (l : Option Operand) : List Nat := match l with | some x => looksO x | none => []
def looks : AOp → List Nat
 | .mov x | .box x | .ldc x | .ldr _ x | .nilc x | .una _ x | .cvt _ x | .mki _ x | .fa _ x | .fld _ _ _ x | .tas _ _ _ x | .ext x _ | .len _ x | .pnc x => looksO x
 | .pick c a b => looksO c ++ looksO a ++ looksO b
 | .new _ | .mkm | .rcv | .bad => []
 | .build _ ps | .bsl _ _ ps => looksP ps
 | .sto _ a v | .bin _ _ _ a v | .iaa _ _ a v | .ias _ a v | .ixa _ _ _ a v | .ixs a v | .lkp _ _ _ a v | .app _ _ a v | .cpy _ a v | .mnx _ a v | .del _ a v | .mks _ _ a v => looksO a ++ looksO v
 | .mkf _ a b => looksL a ++ looksL b
 | .sls _ x l h | .sla _ _ x l h => looksO x ++ looksM l ++ looksM h
 | .mup _ m i v => looksO m ++ looksO i ++ looksO v
 | .call _ l => looksL l
 | .clv f l | .dfr f l => looksO f ++ looksL l
 | .inv _ r l => looksO r ++ looksL l
def makeOp : AOp → Bool
 | .new _ | .box _ | .bsl .. => true
 | _ => false
def clsOK (c : Cls) (op : AOp) : Bool :=
 match c with
 | .P => quietOp op
 | .R => quietOp op || readOp op
 | .A => makeOp op
 | .W => match op with
  | .dfr .. | .rcv | .pnc _ => false
  | _ => true
def depth : Nat := 8
inductive DRes where
 | val (v : AVal) (H : AHeap)
 | pan (v : AVal) (H : AHeap)
def scAll (T : Tmps) (m : Nat) : List Nat → Bool
 | [] => true
 | t :: l => scV m depth (tget T t) && scAll T m l
def dstep (call : CallF) (E : EnvD) (T : Tmps) (H : AHeap) (it : AItem) : Option DRes :=
 match wantedA T it.guard with
 | none => none
 | some true =>
  match aop E T H it.op with
  | some (.val v, H') => some (.val v H')
  | some (.enter f args, H') => match call f args H' with
   | some (.ret v H'') => some (.val v H'')
   | some (.pan v H'') => some (.pan v H'')
   | none => none
  | _ => none
 | some false => some (.val AVal.undef H)
structure DRow where
 val : AVal
 T : Tmps
 H : AHeap
inductive DRun where
 | done (l : List DRow) (T : Tmps) (H : AHeap)
 | pan (l : List DRow) (T : Tmps) (H : AHeap) (k : Nat) (v : AVal) (H' : AHeap)
def achk (d : DItem) (H H' : AHeap) : Bool :=
 match d.cls with
 | .A => match H'.get H.next with
  | some (.cells c _ _) => scR (scV H.next depth) c
  | _ => true
 | .W => Nat.ble H.next H'.next
 | _ => true
def wchk (d : DItem) (T : Tmps) (H : AHeap) : Bool :=
 match d.cls with
 | .W => scAll T H.next (looks d.it.op)
 | _ => true
def drun (call : CallF) (E : EnvD) (n : Nat) : List DItem → Nat → List DRow → Tmps → AHeap → Option DRun
 | [], _, acc, T, H => some (.done acc.reverse T H)
 | d :: l, k, acc, T, H =>
  match wchk d T H with
  | true => match dstep call E T H d.it with
   | some (.val v H') => match achk d H H' with
    | true => match tput n d.it.dst v T with
     | some T' => drun call E n l (k + 1) (⟨v, T, H⟩ :: acc) T' H'
     | none => none
    | false => none
   | some (.pan v H') => some (.pan acc.reverse T H k v H')
   | none => none
  | false => none
def ddry (E : EnvD) (n p : Nat) : List DItem → List DRow → Tmps → AHeap → Option (List DRow)
 | [], acc, _, _ => some acc.reverse
 | d :: l, acc, T, H =>
  if d.pre.testBit p then ddry E n p l (⟨AVal.undef, T, H⟩ :: acc) T H
  else match d.cls with
   | .W => none
   | _ => match dstep (fun _ _ _ => none) E T H d.it with
    | some (.val v H') => match achk d H H' with
     | true => match tput n d.it.dst v T with
      | some T' => ddry E n p l (⟨v, T, H⟩ :: acc) T' H'
      | none => none
     | false => none
    | _ => none
def rcheck (E : EnvD) (Hs : List AHeap) (d : DItem) (r : DRow) (most : Nat) : List Nat → Bool
 | [] => true
 | k :: l =>
  (if k ≤ most then
   match Hs[k]? with
   | some H => (match wantedA r.T d.it.guard with
    | some true => match aop E r.T H d.it.op with
     | some (.val v, _) => beqV depth v r.val
     | _ => false
    | _ => true)
   | none => false
  else true) && rcheck E Hs d r most l
def rchecks (E : EnvD) (Hs : List AHeap) (most : Nat) (skip : DItem → Bool) : List DItem → List DRow → Bool
 | d :: l, r :: m => (match d.cls with | .R => skip d || rcheck E Hs d r most d.cand | _ => true) && rchecks E Hs most skip l m
 | _, _ => true
def ddsts (l : List DItem) : List Nat := l.filterMap fun d => d.it.dst
def junkAll (l : List Nat) (T : Tmps) : Tmps := l.foldl (fun T t => T.set t (some .junk)) T
def dreg (call : CallF) (E : EnvD) (n : Nat) (l : List DItem) (s : St) : Option (AX × St) :=
 match drun call E n l 0 [] s.T s.H with
 | some (.done rows T H) => match rchecks E (rows.map (·.H) ++ [H]) rows.length (fun _ => false) l rows with
  | true => some (.normal, ⟨T, H, s.D⟩)
  | false => none
 | some (.pan rows T0 H0 k v H) => match ddry E n k (l.drop (k + 1)) [] T0 H0 with
  | some more => match rchecks E (rows.map (·.H) ++ [H0]) k (fun d => d.pre.testBit k) l (rows ++ ⟨AVal.undef, T0, H0⟩ :: more) with
   | true => some (.panic v, ⟨junkAll (ddsts l) s.T, H, s.D⟩)
   | false => none
  | none => none
 | none => none
def aiter (f : St → Option (AX × St)) : Nat → St → Option (AX × St)
 | 0, _ => none
 | k + 1, s => match f s with
  | some (.normal, s') => aiter f k s'
  | r => r
def aexec (call : CallF) (E : EnvD) (n lf : Nat) : ACode → St → Option (AX × St)
 | .skip, s => some (.normal, s)
 | .reg l, s => aitems call E n l s
 | .drg l, s => dreg call E n l s
 | .seq a b, s => match aexec call E n lf a s with
  | some (.normal, s') => aexec call E n lf b s'
  | r => r
 | .cond c a b, s => match aev s.T c with
  | some (.bool true) => aexec call E n lf a s
  | some (.bool false) => aexec call E n lf b s
  | _ => none
 | .blk id a, s => match aexec call E n lf a s with
  | some (.exit i, s') => if i = id then some (.normal, s') else some (.exit i, s')
  | r => r
 | .loop a, s => aiter (aexec call E n lf a) lf s
 | .exit id, s => some (.exit id, s)
 | .ret, s => some (.ret, s)
 | .bad, _ => none
def tinit : List AVal → Nat → Tmps
 | [], _ => .leaf
 | v :: l, k => (tinit l (k + 1)).set k (some v)
def ares1 (T : Tmps) (H : AHeap) : ARes → Option AVal
 | .tmp t => some (tget T t)
 | .cell a g n => match tget T a with
  | .ptr (some (i, o)) => if g then (match hloadN H i o n with
    | some c => some (.agg c)
    | none => none) else hload1 H i o
  | _ => none
def aresL (T : Tmps) (H : AHeap) : List ARes → Option (List AVal)
 | [] => some []
 | r :: l => match ares1 T H r with
  | some v => match aresL T H l with
   | some vs => some (v :: vs)
   | none => none
  | none => none
def aresults (T : Tmps) (H : AHeap) (l : List ARes) : Option AVal :=
 match aresL T H l with
 | some [v] => some v
 | some vs => some (.tup vs)
 | none => none
def aitemsS (call : CallF) (E : EnvD) (n : Nat) : List AItem → Option AVal → St → Option (AX × St × Option AVal)
 | [], m, s => some (.normal, s, m)
 | it :: l, m, s =>
  match wantedA s.T it.guard with
  | none => none
  | some true =>
   match aop E s.T s.H it.op with
   | some (.val v, H) => match tput n it.dst v s.T with
    | some T => aitemsS call E n l m ⟨T, H, s.D⟩
    | none => none
   | some (.enter f args, H) => match call f args H with
    | some (.ret v H) => match tput n it.dst v s.T with
     | some T => aitemsS call E n l m ⟨T, H, s.D⟩
     | none => none
    | some (.pan v H) => some (.panic v, ⟨s.T, H, s.D⟩, m)
    | none => none
   | some (.panic v, H) => some (.panic v, ⟨s.T, H, s.D⟩, m)
   | some (.recov, H) => match tput n it.dst (m.getD .nilIface) s.T with
    | some T => aitemsS call E n l none ⟨T, H, s.D⟩
    | none => none
   | _ => none
  | some false => match tput n it.dst AVal.undef s.T with
   | some T => aitemsS call E n l m ⟨T, s.H, s.D⟩
   | none => none
def aexecS (call : CallF) (E : EnvD) (n lf : Nat) : ACode → Option AVal → St → Option (AX × St × Option AVal)
 | .seq a b, m, s => match aexecS call E n lf a m s with
  | some (.normal, s', m') => aexecS call E n lf b m' s'
  | r => r
 | .cond c a b, m, s => match aev s.T c with
  | some (.bool true) => aexecS call E n lf a m s
  | some (.bool false) => aexecS call E n lf b m s
  | _ => none
 | .reg l, m, s => aitemsS call E n l m s
 | c, m, s => match aexec call E n lf c s with
  | some (x, s') => some (x, s', m)
  | none => none
def acallD (call : CallF) (C : FuncId → Option AFunc) (E : EnvD) (lf : Nat) (f : FuncId) (args : List AVal) (m : Option AVal) (H : AHeap) : Option (Option AVal × AHeap) :=
 match C f with
 | some af => if args.length ≤ af.n then
   match aexecS call E af.n lf af.body m ⟨tinit args 0, H, []⟩ with
   | some (.normal, s, m') | some (.ret, s, m') => match s.D, aresults s.T s.H af.res with
    | [], some _ => some (m', s.H)
    | _, _ => none
   | _ => none
  else none
 | none => none
def aleave (call : CallF) (C : FuncId → Option AFunc) (E : EnvD) (lf : Nat) (T : Tmps) (res : List ARes) : List (FuncId × List AVal) → Option AVal → AHeap → Option CRes
 | [], none, H => match aresults T H res with
  | some v => some (.ret v H)
  | none => none
 | [], some v, H => some (.pan v H)
 | (f, l) :: ds, m, H => match acallD call C E lf f l m H with
  | some (m', H') => aleave call C E lf T res ds m' H'
  | none => none
def acall (C : FuncId → Option AFunc) (ext : CallF) (E : EnvD) (lf : Nat) : Nat → CallF
 | 0, _, _, _ => none
 | k + 1, f, args, H =>
  match ext f args H with
  | some r => some r
  | none =>
   match C f with
   | some af => if args.length ≤ af.n then
     match aexec (acall C ext E lf k) E af.n lf af.body ⟨tinit args 0, H, []⟩ with
     | some (.normal, s) => aleave (acall C ext E lf k) C E lf s.T af.res s.D none s.H
     | some (.ret, s) => aleave (acall C ext E lf k) C E lf s.T af.res s.D none s.H
     | some (.panic v, s) => aleave (acall C ext E lf k) C E lf s.T af.res s.D (some v) s.H
     | _ => none
    else none
   | none => none
end Go.Sim
end
section
namespace Go.Sim
inductive TT (α : Type) where
 | nil
 | node (k : Nat) (a : α) (l r : TT α)
 deriving Inhabited
namespace TT
variable {α : Type}
def find (n : Nat) : TT α → Option α
 | .nil => none
 | .node k a l r => bif Nat.beq n k then some a else bif Nat.blt n k then find n l else find n r
def All (p : Nat → α → Prop) : TT α → Prop
 | .nil => True
 | .node k a l r => p k a ∧ All p l ∧ All p r
def allB (p : Nat → α → Bool) : TT α → Bool
 | .nil => true
 | .node k a l r => p k a && allB p l && allB p r
theorem all_of {p : Nat → α → Prop} : ∀ {t : TT α}, All p t → ∀ n a, find n t = some a → p n a
 | .nil, _, n, a, h => by simp [find] at h
 | .node k b l r, h, n, a, hf => by
  simp only [find] at hf
  cases e : Nat.beq n k with
  | true =>
   rw [e] at hf
   simp only [cond_true, Option.some.injEq] at hf
   subst hf
   rw [Nat.eq_of_beq_eq_true e]; exact h.1
  | false =>
   rw [e] at hf
   simp only [cond_false] at hf
   cases e2 : Nat.blt n k with
   | true => rw [e2] at hf; exact all_of h.2.1 n a hf
   | false => rw [e2] at hf; exact all_of h.2.2 n a hf
theorem all_of_allB {p : Nat → α → Bool} : ∀ {t : TT α}, allB p t = true → All (fun n a => p n a = true) t
 | .nil, _ => trivial
 | .node k b l r, h => by
  simp only [allB, Bool.and_eq_true] at h
  exact ⟨h.1.1, all_of_allB h.1.2, all_of_allB h.2⟩
theorem find_allB {p : Nat → α → Bool} {t : TT α} (h : allB p t = true) {n : Nat} {a : α} (hf : find n t = some a) : p n a = true := all_of (all_of_allB h) n a hf
end TT
structure MRow where
 t : Nat
 n : String
 f : Nat
def methF (t : Nat) (n : String) : List MRow → Option FuncId
 | [] => none
 | r :: l => bif Nat.beq t r.t && decide (n = r.n) then some r.f else methF t n l
def envOf (Z : TT (Rope AVal)) (M : List MRow) (Q : TT Nat) (C : TT AFunc) (X : List Nat) : EnvD :=
 ⟨fun t => Z.find t, fun t n => methF t n M, fun t => Q.find t, fun f => (C.find f).isSome || X.any (fun x => Nat.beq x f)⟩
end Go.Sim
end
section
namespace Go.Sim
mutual
/-- A number as a term. -/
inductive Sx where
 | v (j : Nat)
 | lit (n : Int)
 | bin (op : BinOp) (k : IntKind) (a b : Sx)
 | un (op : UnOp) (k : IntKind) (a : Sx)
 | cvt (k : IntKind) (a : Sx)
 | mm (isMax : Bool) (a b : Sx)
 | sel (a : Ax) (i : Sx)
/-- A row of numbers as a term. -/
inductive Ax where
 | v (j : Nat)
 | upd (a : Ax) (i x : Sx)
 | shift (a : Ax) (o : Nat)
end
instance : Inhabited Sx := ⟨.lit 0⟩
instance : Inhabited Ax := ⟨.v 0⟩
structure Sig where
 v : Nat → Int
 a : Nat → Int → Int
 -- slices that nobody looks into
 o : Nat → Option (Nat × Nat) × Nat × Nat
 -- blocks that nobody looks into
 b : Nat → ABlk
 -- slices of memory that was handed in
 u : Nat → Option Addr × Nat × Nat := fun _ => (none, 0, 0)
def binV (op : BinOp) (k : IntKind) (x y : Int) : Int :=
 match op with
 | .shl => k.wrap (x * 2 ^ (min y.toNat k.bits))
 | .shr => x.fdiv (2 ^ (min y.toNat k.bits))
 | op => match intBin op k x y with
  | some (.int _ n) => n
  | _ => 0
def unV (op : UnOp) (k : IntKind) (x : Int) : Int :=
 match aun op (.int k x) with
 | some (.int _ n) => n
 | _ => 0
def mmV (m : Bool) (a b : Int) : Int := if m then (if b > a then b else a) else (if b < a then b else a)
mutual
def Sx.ev (σ : Sig) : Sx → Int
 | .v j => σ.v j
 | .lit n => n
 | .bin op k a b => binV op k (a.ev σ) (b.ev σ)
 | .un op k a => unV op k (a.ev σ)
 | .cvt k a => k.wrap (a.ev σ)
 | .mm m a b => mmV m (a.ev σ) (b.ev σ)
 | .sel a i => a.ev σ (i.ev σ)
def Ax.ev (σ : Sig) : Ax → Int → Int
 | .v j, n => σ.a j n
 | .upd a i x, n => if n = i.ev σ then x.ev σ else a.ev σ n
 | .shift a o, n => a.ev σ (n + o)
end
def beqK (a b : IntKind) : Bool := decide (a = b)
def binNo : BinOp → Nat
 | .add => 0 | .sub => 1 | .mul => 2 | .quo => 3 | .rem => 4 | .and => 5 | .or => 6 | .xor => 7 | .andNot => 8 | .shl => 9 | .shr => 10 | .eql => 11 | .neq => 12 | .lss => 13 | .leq => 14 | .gtr => 15 | .geq => 16
def unNo : UnOp → Nat
 | .neg => 0 | .xor => 1 | .not => 2 | .plus => 3
theorem binNo_inj {a b : BinOp} (h : Nat.beq (binNo a) (binNo b) = true) : a = b := by
 have := Nat.eq_of_beq_eq_true h
 cases a <;> cases b <;> first | rfl | (simp [binNo] at this)
theorem unNo_inj {a b : UnOp} (h : Nat.beq (unNo a) (unNo b) = true) : a = b := by
 have := Nat.eq_of_beq_eq_true h
 cases a <;> cases b <;> first | rfl | (simp [unNo] at this)
def eqI : Int → Int → Bool
 | .ofNat a, .ofNat b => Nat.beq a b
 | .negSucc a, .negSucc b => Nat.beq a b
 | _, _ => false
def ltI : Int → Int → Bool
 | .ofNat a, .ofNat b => Nat.blt a b
 | .negSucc _, .ofNat _ => true
 | .ofNat _, .negSucc _ => false
 | .negSucc a, .negSucc b => Nat.blt b a
theorem eqI_eq (a b : Int) : eqI a b = decide (a = b) := by
 rw [Bool.eq_iff_iff]
 cases a <;> cases b <;> simp [eqI] <;> omega
theorem ltI_eq (a b : Int) : ltI a b = decide (a < b) := by
 rw [Bool.eq_iff_iff]
 cases a <;> cases b <;> simp [ltI, Nat.blt_eq] <;> omega
mutual
def Sx.beq : Sx → Sx → Bool
 | .v a, .v b => Nat.beq a b
 | .lit a, .lit b => eqI a b
 | .bin o k a b, .bin o' k' a' b' => Nat.beq (binNo o) (binNo o') && (beqK k k' && (a.beq a' && b.beq b'))
 | .un o k a, .un o' k' a' => Nat.beq (unNo o) (unNo o') && (beqK k k' && a.beq a')
 | .cvt k a, .cvt k' a' => beqK k k' && a.beq a'
 | .mm m a b, .mm m' a' b' => (m == m') && (a.beq a' && b.beq b')
 | .sel a i, .sel a' i' => a.beq a' && i.beq i'
 | _, _ => false
def Ax.beq : Ax → Ax → Bool
 | .v a, .v b => Nat.beq a b
 | .upd a i x, .upd a' i' x' => a.beq a' && (i.beq i' && x.beq x')
 | .shift a o, .shift a' o' => a.beq a' && Nat.beq o o'
 | _, _ => false
end
mutual
theorem Sx.beq_sound : ∀ (a b : Sx), a.beq b = true → a = b
 | .v a, b, h => by cases b <;> simp_all [Sx.beq]
 | .lit a, b, h => by cases b <;> simp_all [Sx.beq, eqI_eq]
 | .bin o k x y, b, h => by
  cases b <;> simp only [Sx.beq, Bool.and_eq_true, Bool.false_eq_true] at h
  obtain ⟨h1, h2, h3, h4⟩ := h
  rw [binNo_inj h1, of_decide_eq_true h2, Sx.beq_sound x _ h3, Sx.beq_sound y _ h4]
 | .un o k x, b, h => by
  cases b <;> simp only [Sx.beq, Bool.and_eq_true, Bool.false_eq_true] at h
  obtain ⟨h1, h2, h3⟩ := h
  rw [unNo_inj h1, of_decide_eq_true h2, Sx.beq_sound x _ h3]
 | .cvt k x, b, h => by
  cases b <;> simp only [Sx.beq, Bool.and_eq_true, Bool.false_eq_true] at h
  obtain ⟨h2, h3⟩ := h
  rw [of_decide_eq_true h2, Sx.beq_sound x _ h3]
 | .mm m x y, b, h => by
  cases b <;> simp only [Sx.beq, Bool.and_eq_true, Bool.false_eq_true, beq_iff_eq] at h
  obtain ⟨h2, h3, h4⟩ := h
  rw [h2, Sx.beq_sound x _ h3, Sx.beq_sound y _ h4]
 | .sel a i, b, h => by
  cases b <;> simp only [Sx.beq, Bool.and_eq_true, Bool.false_eq_true] at h
  obtain ⟨h3, h4⟩ := h
  rw [Ax.beq_sound a _ h3, Sx.beq_sound i _ h4]
theorem Ax.beq_sound : ∀ (a b : Ax), a.beq b = true → a = b
 | .v a, b, h => by cases b <;> simp_all [Ax.beq]
 | .upd a i x, b, h => by
  cases b <;> simp only [Ax.beq, Bool.and_eq_true, Bool.false_eq_true] at h
  obtain ⟨h2, h3, h4⟩ := h
  rw [Ax.beq_sound a _ h2, Sx.beq_sound i _ h3, Sx.beq_sound x _ h4]
 | .shift a o, b, h => by
  cases b <;> simp only [Ax.beq, Bool.and_eq_true, Bool.false_eq_true] at h
  obtain ⟨h2, h3⟩ := h
  rw [Ax.beq_sound a _ h2, Nat.eq_of_beq_eq_true h3]
end
structure Atom where
 lt : Bool
 a : Sx
 b : Sx
 deriving Inhabited
def Atom.holds (σ : Sig) (c : Atom) : Bool := if c.lt then decide (c.a.ev σ < c.b.ev σ) else decide (c.a.ev σ = c.b.ev σ)
structure Fact where
 c : Atom
 r : Bool
abbrev Facts := List Fact
def Facts.hold (σ : Sig) (F : Facts) : Prop := ∀ f ∈ F, f.c.holds σ = f.r
structure Rg where
 lo : Int
 hi : Int
def Rg.has (r : Rg) (n : Int) : Prop := r.lo ≤ n ∧ n ≤ r.hi
structure Vars where
 v : List (Int × Int)
 a : List (Int × Int)
 -- the blocks of the slices that nobody looks into are below it
 o : Nat
def rgAt : List (Int × Int) → Nat → Rg
 | [], _ => ⟨0, 0⟩
 | x :: _, 0 => ⟨x.1, x.2⟩
 | _ :: l, n + 1 => rgAt l n
def Vars.fit (V : Vars) (σ : Sig) : Prop := (∀ j, (rgAt V.v j).has (σ.v j)) ∧ (∀ j i, (rgAt V.a j).has (σ.a j i)) ∧ ∀ j i p, (σ.o j).1 = some (i, p) → i < V.o
end Go.Sim
end
section
namespace Go.Sim
inductive SRope (α : Type) where
 | lst (l : List α)
 | rep (n : Nat) (a : α)
 | app (m : Nat) (l r : SRope α)
 -- so many numbers of a kind
 | arr (n : Nat) (k : IntKind) (a : Ax)
 deriving Inhabited
inductive SVal where
 | bool (b : Bool)
 | int (k : IntKind) (n : Int)
 | sym (k : IntKind) (e : Sx)
 -- true, if it is not 0
 | sb (e : Sx)
 | str (s : ByteArray)
 | ptr (p : Option (Nat × Nat))
 -- of an element of a row: its place is o + e * s
 | pti (i o s : Nat) (e : Sx)
 | slice (p : Option (Nat × Nat)) (len cap : Nat)
 -- a slice that nobody looks into
 | osl (j : Nat)
 -- a slice of memory that was handed in
 | ovs (j : Nat)
 | mapv (r : Option Nat)
 | func (fn : Fn) (first captured : List SVal)
 | nilFunc
 | iface (t : TypeId) (v : SVal)
 | nilIface
 | agg (r : SRope SVal)
 | tup (vs : List SVal)
 -- whatever it is, nobody looks at it
 | junk
 deriving Inhabited
mutual
def SVal.inst (σ : Sig) : SVal → AVal
 | .bool b => .bool b
 | .int k n => .int k n
 | .sym k e => .int k (e.ev σ)
 | .sb e => .bool (decide (e.ev σ ≠ 0))
 | .str s => .str s
 | .ptr p => .ptr p
 | .pti i o s e => .ptr (some (i, o + (e.ev σ).toNat * s))
 | .slice p n c => .slice p n c
 | .osl j => .slice (σ.o j).1 (σ.o j).2.1 (σ.o j).2.2
 | .ovs j => .vs (σ.u j).1 (σ.u j).2.1 (σ.u j).2.2
 | .mapv r => .mapv r
 | .func fn a b => .func fn (instL σ a) (instL σ b)
 | .nilFunc => .nilFunc
 | .iface t v => .iface t (v.inst σ)
 | .nilIface => .nilIface
 | .agg r => .agg (instR σ r)
 | .tup vs => .tup (instL σ vs)
 | .junk => .junk
def instL (σ : Sig) : List SVal → List AVal
 | [] => []
 | v :: l => v.inst σ :: instL σ l
def instR (σ : Sig) : SRope SVal → Rope AVal
 | .lst l => .lst (instL σ l)
 | .rep n a => .rep n (a.inst σ)
 | .app m l r => .app m (instR σ l) (instR σ r)
 | .arr n k a => .lst ((List.range n).map fun (i : Nat) => .int k (a.ev σ i))
end
theorem instL_map (σ : Sig) : ∀ l, instL σ l = l.map (SVal.inst σ)
 | [] => rfl
 | v :: l => by simp only [instL, List.map_cons, instL_map σ l]
theorem blt_false {a b : Nat} (h : Nat.blt a b = false) : ¬ a < b := fun hl => by
 have : Nat.blt a b = true := by rw [Nat.blt_eq]; exact hl
 rw [this] at h; cases h
theorem ble_false {a b : Nat} (h : Nat.ble a b = false) : ¬ a ≤ b := fun hl => by rw [Nat.ble_eq_true_of_le hl] at h; cases h
def SVal.undef : SVal := .tup []
theorem inst_undef (σ : Sig) : SVal.undef.inst σ = AVal.undef := rfl
namespace SRope
def size {α : Type} : SRope α → Nat
 | .lst l => l.length
 | .rep n _ => n
 | .app m _ r => m + r.size
 | .arr n _ _ => n
def get : SRope SVal → Nat → Option SVal
 | .lst l, i => l[i]?
 | .rep n a, i => bif Nat.blt i n then some a else none
 | .app m l r, i => bif Nat.blt i m then l.get i else r.get (i - m)
 | .arr n k a, i => bif Nat.blt i n then some (.sym k (.sel a (.lit i))) else none
def set : SRope SVal → Nat → SVal → Option (SRope SVal)
 | .lst l, i, x => some (.lst (l.set i x))
 | .rep n a, i, x => some (bif Nat.blt i n then .app i (.rep i a) (.app 1 (.lst [x]) (.rep (n - i - 1) a)) else .rep n a)
 | .app m l r, i, x => bif Nat.blt i m then (match l.set i x with | some l' => some (.app m l' r) | none => none) else (match r.set (i - m) x with | some r' => some (.app m l r') | none => none)
 | .arr n k a, i, x => match x with
  | .int k' c => bif beqK k k' then some (.arr n k (.upd a (.lit i) (.lit c))) else none
  | .sym k' e => bif beqK k k' then some (.arr n k (.upd a (.lit i) e)) else none
  | _ => none
def ext : SRope SVal → Nat → Nat → Option (SRope SVal)
 | .lst l, o, n => some (.lst ((l.drop o).take n))
 | .rep _ a, _, n => some (.rep n a)
 | .app m l r, o, n =>
  bif Nat.ble (o + n) m then l.ext o n
  else bif Nat.ble m o then r.ext (o - m) n
  else match l.ext o (m - o), r.ext 0 (o + n - m) with
   | some a, some b => some (.app (m - o) a b)
   | _, _ => none
 | .arr n' k a, o, n => bif Nat.ble (o + n) n' then some (.arr n k (bif Nat.beq o 0 then a else .shift a o)) else none
def cat (a b : SRope SVal) : Option (SRope SVal) :=
 match a with
 | .lst l => match b with
  | .lst m => some (.lst (l ++ m))
  | .arr n k x => (match l with | [] => some (.arr n k x) | _ => none)
  | .rep n x => some (.app l.length (.lst l) (.rep n x))
  | .app m x y => some (.app l.length (.lst l) (.app m x y))
 | .arr n k x => match b with
  | .lst m => (match m with | [] => some (.arr n k x) | _ => none)
  | .arr _ _ _ => none
  | .rep m y => some (.app n (.arr n k x) (.rep m y))
  | .app m y z => some (.app n (.arr n k x) (.app m y z))
 | .rep n x => some (.app n (.rep n x) b)
 | .app m x y => some (.app (m + y.size) (.app m x y) b)
theorem size_inst (σ : Sig) : ∀ r : SRope SVal, (instR σ r).size = r.size := by
 intro r
 induction r with
 | lst l => simp [instR, Rope.size, size, instL_map]
 | rep n a => simp [instR, Rope.size, size]
 | app m l r _ ih => simp [instR, Rope.size, size, ih]
 | arr n k a => simp [instR, Rope.size, size]
theorem get_inst (σ : Sig) : ∀ (r : SRope SVal) (i : Nat) (x : SVal), r.get i = some x → (instR σ r).get i = some (x.inst σ) := by
 intro r
 induction r with
 | lst l => intro i x h; simp only [get] at h; simp [instR, Rope.get, instL_map, h]
 | rep n a =>
  intro i x h
  simp only [get] at h
  cases e : Nat.blt i n with
  | false => simp [e] at h
  | true =>
   simp only [e, cond_true, Option.some.injEq] at h; subst h
   simp only [Nat.blt_eq] at e
   simp [instR, Rope.get, e]
 | app m l r ihl ihr =>
  intro i x h
  simp only [get] at h
  cases e : Nat.blt i m with
  | false =>
   simp only [e, cond_false] at h
   have e' : ¬ i < m := blt_false e
   simp only [instR, Rope.get, e', if_false]
   exact ihr _ _ h
  | true =>
   simp only [e, cond_true] at h
   simp only [Nat.blt_eq] at e
   simp only [instR, Rope.get, e, if_true]
   exact ihl _ _ h
 | arr n k a =>
  intro i x h
  simp only [get] at h
  cases e : Nat.blt i n with
  | false => simp [e] at h
  | true =>
   simp only [e, cond_true, Option.some.injEq] at h; subst h
   simp only [Nat.blt_eq] at e
   simp [instR, Rope.get, e, SVal.inst, Sx.ev]
theorem set_inst (σ : Sig) : ∀ (r : SRope SVal) (i : Nat) (x : SVal) (r' : SRope SVal), r.set i x = some r' → (instR σ r).set i (x.inst σ) = instR σ r' := by
 intro r
 induction r with
 | lst l =>
  intro i x r' h
  simp only [set, Option.some.injEq] at h; subst h
  simp [instR, Rope.set, instL_map, List.map_set]
 | rep n a =>
  intro i x r' h
  simp only [set, Option.some.injEq] at h; subst h
  cases e : Nat.blt i n with
  | false =>
   have e' : ¬ i < n := blt_false e
   simp [instR, Rope.set, e']
  | true =>
   have e' : i < n := by simpa [Nat.blt_eq] using e
   simp [instR, Rope.set, e', instL]
 | app m l r ihl ihr =>
  intro i x r' h
  simp only [set] at h
  cases e : Nat.blt i m with
  | false =>
   simp only [e, cond_false] at h
   have e' : ¬ i < m := blt_false e
   split at h
   ·rename_i r2 hr
    simp only [Option.some.injEq] at h; subst h
    simp [instR, Rope.set, e', ihr _ _ _ hr]
   ·cases h
  | true =>
   simp only [e, cond_true] at h
   have e' : i < m := by simpa [Nat.blt_eq] using e
   split at h
   ·rename_i r2 hr
    simp only [Option.some.injEq] at h; subst h
    simp [instR, Rope.set, e', ihl _ _ _ hr]
   ·cases h
 | arr n k a =>
  intro i x r' h
  have key : ∀ (e : Sx), (instR σ (.arr n k a)).set i (.int k (e.ev σ)) = instR σ (.arr n k (.upd a (.lit i) e)) := by
   intro e
   simp only [instR, Rope.set, Rope.lst.injEq]
   apply List.ext_getElem?
   intro j
   by_cases hj : j < n
   ·by_cases e2 : i = j
    ·subst e2; simp [hj, Ax.ev, Sx.ev]
    ·have : ¬ ((j : Int) = (i : Int)) := by omega
     rw [List.getElem?_set_ne e2]; simp [hj, Ax.ev, Sx.ev, this]
   ·have h1 : ((List.range n).map fun (i : Nat) => AVal.int k (a.ev σ i)).length ≤ j := by simp; omega
    rw [List.getElem?_eq_none (by simpa using h1), List.getElem?_eq_none (by simpa using h1)]
  simp only [set] at h
  split at h
  ·rename_i k' c
   cases hk : beqK k k' with
   | false => simp [hk] at h
   | true =>
    simp only [hk, cond_true, Option.some.injEq] at h; subst h
    have := of_decide_eq_true hk; subst this
    exact key (.lit c)
  ·rename_i k' e
   cases hk : beqK k k' with
   | false => simp [hk] at h
   | true =>
    simp only [hk, cond_true, Option.some.injEq] at h; subst h
    have := of_decide_eq_true hk; subst this
    exact key e
  ·cases h
theorem ext_inst (σ : Sig) : ∀ (r : SRope SVal) (o n : Nat) (r' : SRope SVal), r.ext o n = some r' → (instR σ r).ext o n = instR σ r' := by
 intro r
 induction r with
 | lst l =>
  intro o n r' h
  simp only [ext, Option.some.injEq] at h; subst h
  simp [instR, Rope.ext, instL_map, List.map_take, List.map_drop]
 | rep k a =>
  intro o n r' h
  simp only [ext, Option.some.injEq] at h; subst h
  simp [instR, Rope.ext]
 | app m l r ihl ihr =>
  intro o n r' h
  simp only [ext] at h
  cases e : Nat.ble (o + n) m with
  | true =>
   simp only [e, cond_true] at h
   have e' : o + n ≤ m := Nat.le_of_ble_eq_true e
   simp [instR, Rope.ext, e', ihl _ _ _ h]
  | false =>
   simp only [e, cond_false] at h
   have e' : ¬ o + n ≤ m := fun hle => by rw [Nat.ble_eq_true_of_le hle] at e; cases e
   cases e2 : Nat.ble m o with
   | true =>
    simp only [e2, cond_true] at h
    have e2' : m ≤ o := Nat.le_of_ble_eq_true e2
    simp [instR, Rope.ext, e', e2', ihr _ _ _ h]
   | false =>
    simp only [e2, cond_false] at h
    have e2' : ¬ m ≤ o := fun hle => by rw [Nat.ble_eq_true_of_le hle] at e2; cases e2
    split at h
    ·rename_i a b ha hb
     simp only [Option.some.injEq] at h; subst h
     simp [instR, Rope.ext, e', e2', ihl _ _ _ ha, ihr _ _ _ hb]
    ·cases h
 | arr n' k a =>
  intro o n r' h
  simp only [ext] at h
  cases e : Nat.ble (o + n) n' with
  | false => simp [e] at h
  | true =>
   simp only [e, cond_true, Option.some.injEq] at h; subst h
   have e' : o + n ≤ n' := Nat.le_of_ble_eq_true e
   simp only [instR, Rope.ext, Rope.lst.injEq]
   apply List.ext_getElem?
   intro j
   by_cases hj : j < n
   ·have h1 : o + j < n' := by omega
    cases e3 : Nat.beq o 0 with
    | true =>
     have := Nat.eq_of_beq_eq_true e3; subst this
     simp [hj, List.getElem?_take, List.getElem?_drop, show j < n' by omega]
    | false =>
     simp [hj, List.getElem?_take, List.getElem?_drop, h1, Ax.ev]
     congr 1; omega
   ·simp [hj, List.getElem?_take]
theorem cat_inst (σ : Sig) (a b r : SRope SVal) (h : a.cat b = some r) : (instR σ a).cat (instR σ b) = instR σ r := by
 cases a with
 | lst l =>
  cases b with
  | arr n k x =>
   cases l with
   | nil => simp only [cat, Option.some.injEq] at h; subst h; simp [instR, Rope.cat, instL]
   | cons _ _ => simp [cat] at h
  | _ => simp only [cat, Option.some.injEq] at h; subst h; simp [instR, Rope.cat, instL_map, Rope.size]
 | arr n k x =>
  cases b with
  | lst l =>
   cases l with
   | nil => simp only [cat, Option.some.injEq] at h; subst h; simp [instR, Rope.cat, instL]
   | cons _ _ => simp [cat] at h
  | arr n k x => simp [cat] at h
  | _ => simp only [cat, Option.some.injEq] at h; subst h; simp [instR, Rope.cat, Rope.size]
 | rep n x => simp only [cat, Option.some.injEq] at h; subst h; simp [instR, Rope.cat, Rope.size]
 | app m x y => simp only [cat, Option.some.injEq] at h; subst h; simp [instR, Rope.cat, Rope.size, size_inst]
end SRope
end Go.Sim
end
