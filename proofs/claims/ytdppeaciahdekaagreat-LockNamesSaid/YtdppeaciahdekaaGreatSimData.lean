/- The plain data of a small verified evaluator of the model's code: ropes, tries keyed by numbers, abstract values. No program and no memory in sight. -/
import GoSem.Core.Value
namespace Go.Sim

/-- A row of cells: a list, so many alike, or two rows behind each other (the first's length is told). -/
inductive Rope (α : Type) where
  | lst (l : List α)
  | rep (n : Nat) (a : α)
  | app (m : Nat) (l r : Rope α)
  deriving Inhabited

namespace Rope
variable {α : Type}

def size : Rope α → Nat
  | .lst l => l.length
  | .rep n _ => n
  | .app m _ r => m + r.size

def get : Rope α → Nat → Option α
  | .lst l, i => l[i]?
  | .rep n a, i => if i < n then some a else none
  | .app m l r, i => if i < m then l.get i else r.get (i - m)

def set : Rope α → Nat → α → Rope α
  | .lst l, i, x => .lst (l.set i x)
  | .rep n a, i, x => if i < n then .app i (.rep i a) (.app 1 (.lst [x]) (.rep (n - i - 1) a)) else .rep n a
  | .app m l r, i, x => if i < m then .app m (l.set i x) r else .app m l (r.set (i - m) x)

def ext : Rope α → Nat → Nat → Rope α
  | .lst l, o, n => .lst ((l.drop o).take n)
  | .rep _ a, _, n => .rep n a
  | .app m l r, o, n =>
    if o + n ≤ m then l.ext o n
    else if m ≤ o then r.ext (o - m) n
    else .app (m - o) (l.ext o (m - o)) (r.ext 0 (o + n - m))

def cat : Rope α → Rope α → Rope α
  | .lst a, .lst b => .lst (a ++ b)
  | a, b => .app a.size a b

def full (r : Rope α) : Prop := ∀ i, i < r.size → (r.get i).isSome

theorem get_lt {r : Rope α} : ∀ {i : Nat} {a : α}, r.get i = some a → i < r.size := by
  induction r with
  | lst l => intro i a h; simp only [get] at h; exact (List.getElem?_eq_some_iff.1 h).1
  | rep n x => intro i a h; simp only [get] at h; split at h <;> simp_all [size]
  | app m l r ihl ihr =>
    intro i a h
    simp only [get] at h
    simp only [size]
    split at h
    · omega
    · have := ihr h; omega

theorem size_set {r : Rope α} : ∀ {i : Nat} {x : α}, i < r.size → (r.set i x).size = r.size := by
  induction r with
  | lst l => intro i x _; simp [set, size]
  | rep n a => intro i x h; simp only [size] at h; simp only [set, h, if_true, size]; omega
  | app m l r ihl ihr =>
    intro i x h
    simp only [size] at h
    simp only [set]
    split
    · simp [size]
    · simp only [size]; rw [ihr (by omega)]

theorem get_set {r : Rope α} : ∀ {i j : Nat} {x : α}, (r.get i).isSome → (r.set i x).get j = if j = i then some x else r.get j := by
  induction r with
  | lst l =>
    intro i j x h
    simp only [get, set] at *
    by_cases e : j = i
    · subst e
      have : j < l.length := by
        cases h' : l[j]? with
        | none => simp [h'] at h
        | some v => exact (List.getElem?_eq_some_iff.1 h').1
      simp [this]
    · simp [e, List.getElem?_set_ne (Ne.symm e)]
  | rep n a =>
    intro i j x h
    have hi : i < n := by
      simp only [get] at h
      split at h
      · assumption
      · simp at h
    simp only [set, hi, if_true, get]
    by_cases e : j = i
    · subst e; simp
    · simp only [e, if_false]
      by_cases h1 : j < i
      · simp [h1]; omega
      · have h2 : ¬ (j - i < 1) := by omega
        simp only [h1, if_false, h2]
        by_cases h3 : j < n
        · have : j - i - 1 < n - i - 1 := by omega
          simp [this, h3]
        · have : ¬ (j - i - 1 < n - i - 1) := by omega
          simp [this, h3]
  | app m l r ihl ihr =>
    intro i j x h
    simp only [get] at h
    simp only [set]
    by_cases hi : i < m
    · simp only [hi, if_true] at h ⊢
      simp only [get]
      by_cases hj : j < m
      · simp only [hj, if_true]; exact ihl h
      · have : j ≠ i := by omega
        simp [hj, this]
    · simp only [hi, if_false] at h ⊢
      simp only [get]
      by_cases hj : j < m
      · have : j ≠ i := by omega
        simp [hj, this]
      · simp only [hj, if_false]
        rw [ihr h]
        by_cases e : j = i
        · simp [e]
        · have : j - m ≠ i - m := by omega
          simp [e, this]

theorem get_ext {r : Rope α} : ∀ {o n j : Nat}, (∀ k, k < n → (r.get (o + k)).isSome) → j < n → (r.ext o n).get j = r.get (o + j) := by
  induction r with
  | lst l => intro o n j _ hj; simp [ext, get, hj]
  | rep k a =>
    intro o n j h hj
    have := h j hj
    simp only [ext, get, hj, if_true] at this ⊢
    split at this
    · simp [*]
    · simp at this
  | app m l r ihl ihr =>
    intro o n j h hj
    simp only [ext]
    split
    · rename_i h1
      rw [ihl (fun k hk => ?_) hj]
      · simp only [get]; rw [if_pos (by omega)]
      · have := h k hk
        simp only [get] at this
        rwa [if_pos (by omega)] at this
    · split
      · rename_i h1 h2
        rw [ihr (fun k hk => ?_) hj]
        · simp only [get]; rw [if_neg (by omega)]; congr 1; omega
        · have := h k hk
          simp only [get] at this
          rw [if_neg (by omega)] at this
          rwa [show o - m + k = o + k - m from by omega]
      · rename_i h1 h2
        simp only [get]
        by_cases hjm : j < m - o
        · rw [if_pos hjm, if_pos (by omega)]
          exact ihl (fun k hk => by
            have := h k (by omega)
            simp only [get] at this
            rwa [if_pos (by omega)] at this) hjm
        · rw [if_neg hjm, if_neg (by omega)]
          rw [ihr (fun k hk => ?_) (by omega)]
          · congr 1; omega
          · have := h (k + (m - o)) (by omega)
            simp only [get] at this
            rw [if_neg (by omega)] at this
            rwa [show 0 + k = o + (k + (m - o)) - m from by omega]

theorem size_ext {r : Rope α} : ∀ {o n : Nat}, (∀ k, k < n → (r.get (o + k)).isSome) → (r.ext o n).size = n := by
  induction r with
  | lst l =>
    intro o n h
    simp only [ext, size, List.length_take, List.length_drop]
    cases n with
    | zero => simp
    | succ n =>
      have := h n (by omega)
      simp only [get] at this
      cases h' : l[o + n]? with
      | none => simp [h'] at this
      | some v => have := (List.getElem?_eq_some_iff.1 h').1; omega
  | rep k a => intro o n _; simp [ext, size]
  | app m l r ihl ihr =>
    intro o n h
    simp only [ext]
    split
    · exact ihl (fun k hk => by
        have := h k hk
        simp only [get] at this
        rwa [if_pos (by omega)] at this)
    · split
      · exact ihr (fun k hk => by
          have := h k hk
          simp only [get] at this
          rw [if_neg (by omega)] at this
          rwa [show o - m + k = o + k - m from by omega])
      · simp only [size]
        rw [ihr (fun k hk => ?_)]
        · omega
        · have := h (k + (m - o)) (by omega)
          simp only [get] at this
          rw [if_neg (by omega)] at this
          rwa [show 0 + k = o + (k + (m - o)) - m from by omega]

theorem size_cat (a b : Rope α) : (a.cat b).size = a.size + b.size := by
  unfold cat
  split <;> simp [size]

theorem get_cat (a b : Rope α) (i : Nat) : (a.cat b).get i = if i < a.size then a.get i else b.get (i - a.size) := by
  unfold cat
  split
  · simp only [get, size, List.getElem?_append]; rfl
  · simp [get]

end Rope

/-- The binary digits of a number, the least first. -/
def bitsF : Nat → Nat → List Bool
  | 0, _ => []
  | f + 1, k => if k = 0 then [] else (k % 2 == 1) :: bitsF f (k / 2)
def bits (k : Nat) : List Bool := bitsF k k

def ofBits : List Bool → Nat
  | [] => 0
  | b :: l => (if b then 1 else 0) + 2 * ofBits l

theorem ofBits_bitsF : ∀ (f k : Nat), k ≤ f → ofBits (bitsF f k) = k := by
  intro f
  induction f with
  | zero => intro k h; have : k = 0 := by omega
            subst this; rfl
  | succ f ih =>
    intro k h
    unfold bitsF
    split
    · subst_vars; rfl
    · simp only [ofBits]
      rw [ih (k / 2) (by omega)]
      by_cases e : k % 2 = 1
      · simp [e]; omega
      · have : k % 2 = 0 := by omega
        simp [this]; omega

theorem bits_inj {a b : Nat} (h : bits a = bits b) : a = b := by
  have := congrArg ofBits h
  rwa [bits, bits, ofBits_bitsF a a (Nat.le_refl _), ofBits_bitsF b b (Nat.le_refl _)] at this

inductive Trie (α : Type) where
  | leaf
  | node (l : Trie α) (v : Option α) (r : Trie α)
  deriving Inhabited

namespace Trie
variable {α : Type}

def getP : Trie α → List Bool → Option α
  | .leaf, _ => none
  | .node _ v _, [] => v
  | .node l _ r, b :: p => match b with
    | true => r.getP p
    | false => l.getP p

def setP : Trie α → List Bool → Option α → Trie α
  | .leaf, [], x => .node .leaf x .leaf
  | .node l _ r, [], x => .node l x r
  | .leaf, b :: p, x => match b with
    | true => .node .leaf none (setP .leaf p x)
    | false => .node (setP .leaf p x) none .leaf
  | .node l v r, b :: p, x => match b with
    | true => .node l v (r.setP p x)
    | false => .node (l.setP p x) v r

theorem getP_leaf (p : List Bool) : (Trie.leaf : Trie α).getP p = none := by cases p <;> rfl

theorem getP_setP_same : ∀ (p : List Bool) (t : Trie α) (x : Option α), (t.setP p x).getP p = x := by
  intro p
  induction p with
  | nil => intro t x; cases t <;> rfl
  | cons b p ih =>
    intro t x
    cases t <;> cases b <;> simp [setP, getP, ih]

theorem getP_setP_ne : ∀ (p q : List Bool) (t : Trie α) (x : Option α), p ≠ q → (t.setP p x).getP q = t.getP q := by
  intro p
  induction p with
  | nil =>
    intro q t x h
    cases q with
    | nil => exact absurd rfl h
    | cons b q => cases t <;> cases b <;> simp [setP, getP]
  | cons b p ih =>
    intro q t x h
    cases q with
    | nil => cases t <;> cases b <;> simp [setP, getP]
    | cons c q =>
      cases t <;> cases b <;> cases c <;> simp [setP, getP] <;>
        (rw [ih _ _ _ (by intro e; exact h (by rw [e]))]; try simp [getP_leaf])

def get (t : Trie α) (k : Nat) : Option α := t.getP (bits k)
def set (t : Trie α) (k : Nat) (x : Option α) : Trie α := t.setP (bits k) x

theorem get_leaf (k : Nat) : (Trie.leaf : Trie α).get k = none := getP_leaf _
theorem get_set_same (t : Trie α) (k : Nat) (x : Option α) : (t.set k x).get k = x := getP_setP_same _ _ _
theorem get_set_ne (t : Trie α) (k j : Nat) (x : Option α) (h : k ≠ j) : (t.set k x).get j = t.get j :=
  getP_setP_ne _ _ _ _ fun e => h (bits_inj e)
theorem get_set (t : Trie α) (k j : Nat) (x : Option α) : (t.set k x).get j = if k = j then x else t.get j := by
  by_cases h : k = j
  · subst h; simp [get_set_same]
  · simp [h, get_set_ne]
end Trie

/-- Abstract values: a pointer is a block's number and a place in it. -/
inductive AVal where
  | bool (b : Bool)
  | int (k : IntKind) (n : Int)
  | str (s : ByteArray)
  | ptr (p : Option (Nat × Nat))
  | slice (p : Option (Nat × Nat)) (len cap : Nat)
  | mapv (r : Option Nat)
  | func (fn : Fn) (first captured : List AVal)
  | nilFunc
  | iface (t : TypeId) (v : AVal)
  | nilIface
  | agg (r : Rope AVal)
  | tup (vs : List AVal)
  -- a number that is known in part: these bits of it, and the bounds between which it lies
  | part (k : IntKind) (m v : Nat) (lo hi : Int)
  -- whatever it is, nobody looks at it
  | junk
  deriving Inhabited

def AVal.undef : AVal := .tup []

/-- The value of one cell. -/
def AVal.one : AVal → Bool
  | .agg _ | .tup _ | .junk => false
  | _ => true

def AVal.cells : AVal → Option (Rope AVal)
  | .agg r => some r
  | .tup _ | .junk => none
  | v => some (.lst [v])

end Go.Sim
