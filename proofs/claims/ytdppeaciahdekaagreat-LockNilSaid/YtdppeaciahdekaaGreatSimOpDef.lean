/- The operations of the small evaluator: what an operation of the model's code becomes (its types looked up once), and what it does to abstract values and the abstract heap. -/
import Derived.Test.YtdppeaciahdekaaGreatSimRel
namespace Go.Sim

abbrev Tmps := Trie AVal
def tget (T : Tmps) (t : Nat) : AVal := (T.get t).getD AVal.undef

/-- A constant's abstract value. -/
def cval : Value → Option AVal
  | .bool b => some (.bool b)
  | .int k n => some (.int k n)
  | .string s => some (.str s)
  | .pointer none => some (.ptr none)
  | .slice none 0 0 => some (.slice none 0 0)
  | .map none => some (.mapv none)
  | .nilFunc => some .nilFunc
  | .nilIface => some .nilIface
  | .func fn a b => if a.size = 0 && b.size = 0 then some (.func fn [] []) else none
  | _ => none

def aev (T : Tmps) : Operand → Option AVal
  | .tmp t => some (tget T t)
  | .const v => cval v
  | .func f => some (.func (.func f) [] [])
  | .global _ => none

def aevs (T : Tmps) : List Operand → Option (List AVal)
  | [] => some []
  | x :: l => match aev T x with
    | some v => match aevs T l with
      | some vs => some (v :: vs)
      | none => none
    | none => none

/-- Of which kind are the operands of an operator. -/
inductive Kd where
  | scal | bool | ptr | slice | func | iface | agg (n : Nat)
  deriving Inhabited

/-- What a length is asked of. -/
inductive LK where
  | arr (n : Nat) | sl | st
  deriving Inhabited

inductive AOp where
  | mov (x : Operand)
  | pick (c a b : Operand)
  | new (z : Rope AVal)
  | box (x : Operand)
  | build (z : Rope AVal) (ps : List (Nat × Nat × Operand))
  | bsl (n : Nat) (z : Rope AVal) (ps : List (Nat × Nat × Operand))
  | ldc (x : Operand)
  | ldr (n : Nat) (x : Operand)
  | sto (n : Nat) (a v : Operand)
  | nilc (x : Operand)
  | bin (op : BinOp) (k : Kd) (c : Bool) (x y : Operand)
  | una (op : UnOp) (x : Operand)
  | cvt (k : IntKind) (x : Operand)
  | mki (t : TypeId) (x : Operand)
  | mkf (fn : Fn) (a b : List Operand)
  | mkm
  | mks (bytes : Nat) (z : Rope AVal) (l c : Operand)
  | sls (size : Nat) (x : Operand) (lo hi : Option Operand)
  | sla (len size : Nat) (x : Operand) (lo hi : Option Operand)
  | fa (off : Nat) (x : Operand)
  | fld (agg : Bool) (off size : Nat) (x : Operand)
  | iaa (len size : Nat) (x i : Operand)
  | ias (size : Nat) (x i : Operand)
  | ixa (len : Nat) (agg : Bool) (size : Nat) (x i : Operand)
  | ixs (x i : Operand)
  | lkp (k : IntKind) (z : AVal) (ok : Bool) (x i : Operand)
  | mup (k : IntKind) (m i v : Operand)
  | tas (t : TypeId) (ok : Bool) (z : AVal) (x : Operand)
  | ext (x : Operand) (i : Nat)
  | call (f : FuncId) (args : List Operand)
  | clv (f : Operand) (args : List Operand)
  | inv (name : String) (r : Operand) (args : List Operand)
  | len (k : LK) (x : Operand)
  | app (size bytes : Nat) (x y : Operand)
  | cpy (size : Nat) (x y : Operand)
  | mnx (isMax : Bool) (x y : Operand)
  | del (k : IntKind) (m i : Operand)
  | dfr (f : Operand) (args : List Operand)
  | pnc (x : Operand)
  | rcv
  | bad
  deriving Inhabited

inductive AOut where
  | val (v : AVal)
  | enter (f : FuncId) (args : List AVal)
  | panic (v : AVal)
  | defer (f : FuncId) (args : List AVal)
  | recov

/-- What the evaluator is given beside the code: zero values, methods, types whose equality is cell by cell. -/
structure EnvD where
  zro : TypeId → Option (Rope AVal)
  meth : TypeId → String → Option FuncId
  eqt : TypeId → Option Nat
  isF : FuncId → Bool

def aint (k : IntKind) : AVal → Option Int
  | .int k' n => if k' = k then some n else none
  | _ => none

/-- A number that counts or indexes: its value, if it is none below 0. -/
def anat : AVal → Option Nat
  | .int _ n => if 0 ≤ n then some n.toNat else none
  | _ => none

def over (r : Rope AVal) (o : Nat) (c : Rope AVal) : Nat → Rope AVal
  | 0 => r
  | n + 1 => match c.get n with
    | some a => (over r o c n).set (o + n) a
    | none => over r o c n

def putAll (r : Rope AVal) (o : Nat) (c : Rope AVal) : Rope AVal :=
  if o = 0 && c.size == r.size then c else over r o c c.size

def fillA (T : Tmps) (z : Rope AVal) : List (Nat × Nat × Operand) → Option (Rope AVal)
  | [] => some z
  | (o, s, x) :: ps => match aev T x with
    | some v => match v.cells with
      | some c => if c.size = s && (o + s ≤ z.size) then fillA T (putAll z o c) ps else none
      | none => none
    | none => none

def intBin (op : BinOp) (k : IntKind) (x y : Int) : Option AVal :=
  match op with
  | .add => some (.int k (k.wrap (x + y)))
  | .sub => some (.int k (k.wrap (x - y)))
  | .mul => some (.int k (k.wrap (x * y)))
  | .quo => if y = 0 then none else some (.int k (k.wrap (x.tdiv y)))
  | .rem => if y = 0 then none else some (.int k (x.tmod y))
  | .and => some (.int k (k.wrap (BitVec.ofInt k.bits x &&& BitVec.ofInt k.bits y).toNat))
  | .or => some (.int k (k.wrap (BitVec.ofInt k.bits x ||| BitVec.ofInt k.bits y).toNat))
  | .xor => some (.int k (k.wrap (BitVec.ofInt k.bits x ^^^ BitVec.ofInt k.bits y).toNat))
  | .andNot => some (.int k (k.wrap (BitVec.ofInt k.bits x &&& ~~~ BitVec.ofInt k.bits y).toNat))
  | .eql => some (.bool (x == y))
  | .neq => some (.bool (x != y))
  | .lss => some (.bool (x < y))
  | .leq => some (.bool (x ≤ y))
  | .gtr => some (.bool (x > y))
  | .geq => some (.bool (x ≥ y))
  | _ => none

/-- Cells that are numbers, truth values or texts alone, held against each other. -/
def sameCell : AVal → AVal → Option Bool
  | .int k a, .int k' b => if k = k' then some (a == b) else none
  | _, _ => none

def sameRow (a b : Rope AVal) : Nat → Option Bool
  | 0 => some true
  | n + 1 => match sameRow a b n with
    | some r => match a.get n, b.get n with
      | some x, some y => match sameCell x y with
        | some s => some (r && s)
        | none => none
      | _, _ => none
    | none => none

/-- '==' on abstract values. -/
def aeq (k : Kd) (c : Bool) (x y : AVal) : Option Bool :=
  match k with
  | .bool => match x, y with
    | .bool a, .bool b => some (a == b)
    | _, _ => none
  | .ptr => match x, y with
    | .ptr none, .ptr none => some true
    | .ptr none, .ptr (some _) => some false
    | .ptr (some _), .ptr none => some false
    | _, _ => none
  | .slice => match x, y with
    | .slice none _ _, .slice none _ _ => some true
    | .slice none _ _, .slice (some _) _ _ => some false
    | .slice (some _) _ _, .slice none _ _ => some false
    | _, _ => none
  | .func => match x, y with
    | .nilFunc, .nilFunc => some true
    | .nilFunc, .func _ _ _ => some false
    | .func _ _ _, .nilFunc => some false
    | _, _ => none
  | .iface => match x, y with
    | .nilIface, .nilIface => if c then some true else none
    | .nilIface, .iface _ _ => some false
    | .iface _ _, .nilIface => some false
    | _, _ => none
  | .agg n => match x, y with
    | .agg x, .agg y => if x.size = n && y.size = n then sameRow x y n else none
    | _, _ => none
  | .scal => none

/-- A number that is known in part, and a number. -/
def partBin (op : BinOp) (k : IntKind) (m v : Nat) (lo hi : Int) (b : Int) : Option AVal :=
  match op with
  | .and => if 0 ≤ b && b.toNat < 2 ^ k.bits && (b.toNat &&& m == b.toNat) then some (.int k (k.wrap ((v &&& b.toNat : Nat) : Int)))
    else if 0 ≤ b && b.toNat < 2 ^ k.bits && b ≤ k.max then some (.part k (m &&& b.toNat) (v &&& b.toNat) 0 b) else none
  | .xor => if 0 ≤ b && b.toNat < 2 ^ k.bits && !k.signed then some (.part k m (v ^^^ (b.toNat &&& m)) 0 (2 ^ k.bits - 1 : Int)) else none
  | .rem => let j := Nat.log2 b.toNat
    if b = 2 ^ j && j ≤ k.bits && ((2 ^ j - 1) &&& m == 2 ^ j - 1) then
      (if 0 ≤ lo then some (.int k ((v &&& (2 ^ j - 1) : Nat) : Int))
       else if hi < 0 then some (.int k (if v &&& (2 ^ j - 1) = 0 then 0 else ((v &&& (2 ^ j - 1) : Nat) : Int) - 2 ^ j))
       else none)
    else none
  | .eql => if b < lo || hi < b || (0 ≤ b && b.toNat < 2 ^ k.bits && !(b.toNat &&& m == v)) then some (.bool false) else none
  | .neq => if b < lo || hi < b || (0 ≤ b && b.toNat < 2 ^ k.bits && !(b.toNat &&& m == v)) then some (.bool true) else none
  | .lss => if hi < b then some (.bool true) else if b ≤ lo then some (.bool false) else none
  | .leq => if hi ≤ b then some (.bool true) else if b < lo then some (.bool false) else none
  | .gtr => if b < lo then some (.bool true) else if hi ≤ b then some (.bool false) else none
  | .geq => if b ≤ lo then some (.bool true) else if hi < b then some (.bool false) else none
  | _ => none

def abin (op : BinOp) (k : Kd) (c : Bool) (x y : AVal) : Option AVal :=
  match x, y with
  | .part k m v lo hi, .int k' b => if k = k' then partBin op k m v lo hi b else none
  | .int k a, .int k' b => match op with
    | .shl => if b < 0 then none else some (.int k (k.wrap (a * 2 ^ (min b.toNat k.bits))))
    | .shr => if b < 0 then none else some (.int k (a.fdiv (2 ^ (min b.toNat k.bits))))
    | op => if k = k' then intBin op k a b else none
  | .str a, .str b => match op with
    | .eql => some (.bool (a.toList == b.toList))
    | .neq => some (.bool (!(a.toList == b.toList)))
    | _ => none
  | x, y => match op with
    | .eql => match aeq k c x y with
      | some b => some (.bool b)
      | none => none
    | .neq => match aeq k c x y with
      | some b => some (.bool (!b))
      | none => none
    | _ => none

def aun (op : UnOp) (x : AVal) : Option AVal :=
  match op, x with
  | .neg, .int k n => some (.int k (k.wrap (0 - n)))
  | .xor, .int k n => some (.int k (k.wrap (BitVec.ofInt k.bits (if k.signed then -1 else k.max) ^^^ BitVec.ofInt k.bits n).toNat))
  | .not, .bool b => some (.bool (!b))
  | _, _ => none

def hload1 (H : AHeap) (i o : Nat) : Option AVal :=
  match H.get i with
  | some (.cells r _ _) => r.get o
  | _ => none

def hloadN (H : AHeap) (i o n : Nat) : Option (Rope AVal) :=
  match H.get i with
  | some (.cells r _ _) => if o + n ≤ r.size then some (r.ext o n) else none
  | _ => none

def hstore (H : AHeap) (i o : Nat) (c : Rope AVal) : Option AHeap :=
  match H.get i with
  | some (.cells r g true) => if o + c.size ≤ r.size then some (H.put i (.cells (putAll r o c) g true)) else none
  | _ => none

/-- The first cells of a slice. -/
def hsrc (H : AHeap) (q : Option (Nat × Nat)) (n : Nat) : Option (Rope AVal) :=
  match q with
  | none => some (.lst [])
  | some (j, o) => hloadN H j o n

def afind (k : IntKind) (n : Int) : List (AVal × AVal) → Option (Option AVal)
  | [] => some none
  | (e, v) :: es => match aint k e with
    | some m => if n = m then some (some v) else afind k n es
    | none => none

def noKey (k : IntKind) (m : Int) : List (AVal × AVal) → Bool
  | [] => true
  | x :: l => (match aint k x.1 with | some m' => !(m' == m) | none => false) && noKey k m l
def nodupK (k : IntKind) : List (AVal × AVal) → Bool
  | [] => true
  | x :: l => (match aint k x.1 with | some m => noKey k m l | none => false) && nodupK k l

def hfind (H : AHeap) (k : IntKind) (n : Int) (m : Option Nat) : Option (Option AVal) :=
  match m with
  | none => some none
  | some b => match H.get b with
    | some (.map es) => afind k n es
    | some (.pmap es) => if nodupK k es then afind k n es else none
    | _ => none

def aput (k : IntKind) (n : Int) (v : AVal) : List (AVal × AVal) → Option (List (AVal × AVal))
  | [] => some [(.int k n, v)]
  | (e, u) :: es => match aint k e with
    | some m => if n = m then some ((.int k n, v) :: es) else (aput k n v es).map ((e, u) :: ·)
    | none => none

/-- The closure that is called, and all its arguments. -/
def acallee (E : EnvD) (f : AVal) (args : List AVal) : Option (FuncId × List AVal) :=
  match f with
  | .func (.func g) a b => if E.isF g then some (g, a ++ args ++ b) else none
  | _ => none

def tile (z : Rope AVal) : Nat → Rope AVal
  | 0 => .lst []
  | n + 1 => (tile z n).cat z

def tileN (z : Rope AVal) (n : Nat) : Rope AVal :=
  match z with
  | .lst [v] => .rep n v
  | z => tile z n

/-- The bound of a slice expression. -/
def abound (T : Tmps) (x : Option Operand) (d : Nat) : Option Nat :=
  match x with
  | none => some d
  | some x => match aev T x with
    | some v => anat v
    | none => none

/-- Operations that touch no memory, and those that only look into it. -/
def quietOp : AOp → Bool
  | .mov _ | .pick .. | .build .. | .nilc _ | .bin .. | .una .. | .cvt .. | .mki .. | .mkf .. | .fa .. | .fld .. | .iaa .. | .ias .. | .ixa .. | .ixs .. | .tas .. | .ext .. | .len .. | .mnx .. => true
  | _ => false
def readOp : AOp → Bool
  | .ldc _ | .ldr .. | .lkp .. | .sls .. | .sla .. => true
  | _ => false
def ret (v : AVal) (H : AHeap) : Option (AOut × AHeap) := some (.val v, H)

def aop (E : EnvD) (T : Tmps) (H : AHeap) : AOp → Option (AOut × AHeap)
  | .mov x => match aev T x with
    | some v => ret v H
    | none => none
  | .pick c a b => match aev T c with
    | some (.bool true) => match aev T a with | some v => (match aev T b with | some _ => ret v H | none => none) | none => none
    | some (.bool false) => match aev T b with | some v => (match aev T a with | some _ => ret v H | none => none) | none => none
    | _ => none
  | .new z => ret (.ptr (some (H.next, 0))) (H.new (.cells z 0 true))
  | .box x => match aev T x with
    | some v => match v.cells with
      | some c => ret (.ptr (some (H.next, 0))) (H.new (.cells c 0 true))
      | none => none
    | none => none
  | .build z ps => match fillA T z ps with
    | some c => ret (.agg c) H
    | none => none
  | .bsl n z ps => match fillA T z ps with
    | some c => ret (.slice (some (H.next, 0)) n n) (H.new (.cells c 0 true))
    | none => none
  | .ldc x => match aev T x with
    | some (.ptr (some (i, o))) => match hload1 H i o with
      | some v => ret v H
      | none => none
    | _ => none
  | .ldr n x => match aev T x with
    | some (.ptr (some (i, o))) => match hloadN H i o n with
      | some c => ret (.agg c) H
      | none => none
    | _ => none
  | .sto n a v => match aev T a, aev T v with
    | some (.ptr (some (i, o))), some x => match x.cells with
      | some c => if c.size = n then (match hstore H i o c with
          | some H' => ret AVal.undef H'
          | none => none) else none
      | none => none
    | _, _ => none
  | .nilc x => match aev T x with
    | some (.ptr (some p)) => ret (.ptr (some p)) H
    | some (.func (.func f) a b) => ret (.func (.func f) a b) H
    | some (.iface t v) => ret (.iface t v) H
    | _ => none
  | .bin op k c x y => match aev T x, aev T y with
    | some a, some b => match abin op k c a b with
      | some v => ret v H
      | none => none
    | _, _ => none
  | .una op x => match aev T x with
    | some a => match aun op a with
      | some v => ret v H
      | none => none
    | none => none
  | .cvt k x => match aev T x with
    | some (.int _ n) => ret (.int k (k.wrap n)) H
    | _ => none
  | .mki t x => match aev T x with
    | some v => ret (.iface t v) H
    | none => none
  | .mkf fn a b => match aevs T a, aevs T b with
    | some a, some b => ret (.func fn a b) H
    | _, _ => none
  | .mkm => ret (.mapv (some H.next)) (H.new (.map []))
  | .mks bytes z l c => match aev T l, aev T c with
    | some (.int .i64 a), some (.int .i64 b) =>
      if 0 ≤ a && a ≤ b && bytes * b.toNat ≤ 2 ^ 40 && b.toNat ≤ 2 ^ 40 then ret (.slice (some (H.next, 0)) a.toNat b.toNat) (H.new (.cells (tileN z b.toNat) 0 true))
      else none
    | _, _ => none
  | .sls s x lo hi => match aev T x with
    | some (.slice p n c) => match abound T hi n with
      | some h => match abound T lo 0 with
        | some l =>
          if l ≤ h && h ≤ c then
            match p with
            | none => ret (.slice none 0 0) H
            | some (i, o) => match H.get i with
              | some (.cells _ g _) =>
                if l < c then ret (.slice (some (i, o + l * s)) (h - l) (c - l)) H
                else if g = 0 then ret (.slice (some (i, o)) (h - l) (c - l)) H
                else if l = 0 then ret (.slice (some (i, o)) (h - l) (c - l)) H
                else none
              | _ => none
          else none
        | none => none
      | none => none
    | _ => none
  | .sla n s x lo hi => match aev T x with
    | some (.ptr (some (i, o))) => match H.get i with
      | some (.cells _ 0 _) => match abound T hi n with
        | some h => match abound T lo 0 with
          | some l => if l ≤ h && h ≤ n then ret (.slice (some (i, if n = l then o else o + l * s)) (h - l) (n - l)) H else none
          | none => none
        | none => none
      | _ => none
    | _ => none
  | .fa off x => match aev T x with
    | some (.ptr (some (i, o))) => ret (.ptr (some (i, o + off))) H
    | _ => none
  | .fld agg off s x => match aev T x with
    | some (.agg r) =>
      if agg then (if off + s ≤ r.size then ret (.agg (r.ext off s)) H else none)
      else match r.get off with
        | some v => ret v H
        | none => none
    | _ => none
  | .iaa n s x i => match aev T x, aev T i with
    | some (.ptr (some (b, o))), some v => match anat v with
      | some k => if k < n then ret (.ptr (some (b, o + k * s))) H else none
      | none => none
    | _, _ => none
  | .ias s x i => match aev T x, aev T i with
    | some (.slice (some (b, o)) n _), some v => match anat v with
      | some k => if k < n then ret (.ptr (some (b, o + k * s))) H else none
      | none => none
    | _, _ => none
  | .ixa n agg s x i => match aev T x, aev T i with
    | some (.agg r), some v => match anat v with
      | some k =>
        if k < n then
          if agg then (if k * s + s ≤ r.size then ret (.agg (r.ext (k * s) s)) H else none)
          else match r.get (k * s) with
            | some v => ret v H
            | none => none
        else none
      | none => none
    | _, _ => none
  | .ixs x i => match aev T x, aev T i with
    | some (.str s), some v => match anat v with
      | some k => match s[k]? with
        | some b => ret (.int .u8 b.toNat) H
        | none => none
      | none => none
    | _, _ => none
  | .lkp k z ok x i => match aev T x, aev T i with
    | some (.mapv m), some v => match aint k v with
      | some n =>
        match hfind H k n m with
        | some (some u) => ret (if ok then .tup [u, .bool true] else u) H
        | some none => ret (if ok then .tup [z, .bool false] else z) H
        | none => none
      | none => none
    | _, _ => none
  | .mup k m i v => match aev T m, aev T i, aev T v with
    | some (.mapv (some b)), some key, some x => match aint k key with
      | some n => match H.get b with
        | some (.map es) => match aput k n x es with
          | some es' => ret AVal.undef (H.put b (.map es'))
          | none => none
        | _ => none
      | none => none
    | _, _, _ => none
  | .tas t ok z x => match aev T x with
    | some (.iface u v) =>
      if u = t then ret (if ok then .tup [v, .bool true] else v) H
      else if ok then ret (.tup [z, .bool false]) H else none
    | some .nilIface => if ok then ret (.tup [z, .bool false]) H else none
    | _ => none
  | .ext x i => match aev T x with
    | some (.tup l) => match l[i]? with
      | some v => ret v H
      | none => none
    | _ => none
  | .call f args => match aevs T args with
    | some l => if E.isF f then some (.enter f l, H) else none
    | none => none
  | .clv f args => match aev T f, aevs T args with
    | some g, some l => match acallee E g l with
      | some (f, l) => some (.enter f l, H)
      | none => none
    | _, _ => none
  | .inv name r args => match aev T r, aevs T args with
    | some (.iface t v), some l => match E.meth t name with
      | some f => some (.enter f (v :: l), H)
      | none => none
    | _, _ => none
  | .len k x => match k, aev T x with
    | .arr n, some _ => ret (.int .i64 n) H
    | .sl, some (.slice _ n _) => ret (.int .i64 n) H
    | .st, some (.str s) => ret (.int .i64 s.size) H
    | _, _ => none
  | .app s bytes x y => match aev T x, aev T y with
    | some (.slice p n c), some (.slice q m _) =>
      -- what is appended
      match hsrc H q (m * s) with
      | none => none
      | some new =>
        if m = 0 then (if n ≤ c then ret (.slice p n c) H else none)
        else if (n + m) * bytes ≤ 2 ^ 40 && (n + m) ≤ 2 ^ 40 && n ≤ c && s ≠ 0 then
          match p with
          | none => ret (.slice (some (H.next, 0)) m m) (H.new (.cells new s true))
          | some (i, o) => match H.get i with
            | some (.cells r g w) =>
              if n + m ≤ c then (match hstore H i (o + n * s) new with
                | some H' => ret (.slice (some (i, o)) (n + m) c) H'
                | none => none)
              else match hloadN H i o (n * s) with
                | none => none
                | some old =>
                  if g = 0 then ret (.slice (some (H.next, 0)) (n + m) (n + m)) (H.new (.cells (old.cat new) s true))
                  else if w && (g == s) && (o + c * s == r.size) && (c == n) then ret (.slice (some (H.next, 0)) (n + m) (n + m)) ((H.kill i).new (.cells (old.cat new) s true))
                  else none
            | _ => none
        else none
    | _, _ => none
  | .cpy s x y => match aev T x, aev T y with
    | some (.slice p n _), some (.slice q m _) =>
      match hsrc H q (min m n * s) with
      | none => none
      | some new =>
        match p with
        | none => ret (.int .i64 (min m n : Nat)) H
        | some (i, o) => match hstore H i o new with
          | some H' => ret (.int .i64 (min m n : Nat)) H'
          | none => none
    | _, _ => none
  | .mnx isMax x y => match aev T x, aev T y with
    | some (.int k a), some (.int k' b) =>
      if k = k' then ret (.int k (if isMax then (if b > a then b else a) else (if b < a then b else a))) H else none
    | _, _ => none
  | .del _ _ _ => none
  | .dfr f args => match aev T f, aevs T args with
    | some g, some l => match acallee E g l with
      | some (f, l) => some (.defer f l, H)
      | none => none
    | _, _ => none
  | .pnc x => match aev T x with
    | some (.iface t v) => some (.panic (.iface t v), H)
    | _ => none
  | .rcv => some (.recov, H)
  | .bad => none


/-- A type's cells, its elements' places. -/
def csize (P : Program) (t : TypeId) : Option Nat := (P.info? t).map (·.size)
def isAggT (P : Program) (t : TypeId) : Option Bool :=
  match P.underlying t with
  | some (.struct _) => some true
  | some (.array _ _) => some true
  | some _ => some false
  | none => none
/-- The zero value of a type. -/
def cellZ (P : Program) (E : EnvD) (t : TypeId) : Option AVal :=
  match isAggT P t, E.zro t with
  | some false, some (.lst [v]) => some v
  | some true, some z => some (.agg z)
  | _, _ => none

def partsP (places : List (Nat × Nat)) : List (Nat × Operand) → Option (List (Nat × Nat × Operand))
  | [] => some []
  | (i, x) :: l => match places[i]? with
    | some (o, s) => match partsP places l with
      | some r => some ((o, s, x) :: r)
      | none => none
    | none => none

def partsA (s : Nat) (l : List (Nat × Operand)) : List (Nat × Nat × Operand) := l.map fun (i, x) => (i * s, s, x)

def isConstO : Operand → Bool
  | .const _ => true
  | _ => false

def kindOf (P : Program) (E : EnvD) (t : TypeId) : Kd :=
  match P.underlying t with
  | some .bool => .bool
  | some (.pointer _) => .ptr
  | some (.slice _) => .slice
  | some (.func _ _ _) => .func
  | some (.interface _) => .iface
  | some (.struct _) => match E.eqt t with
    | some n => .agg n
    | none => .scal
  | _ => .scal

def comp (P : Program) (E : EnvD) : Op → Option AOp
  | .move x | .assign x => some (.mov x)
  | .pick c a b => some (.pick c a b)
  | .alloc t => (E.zro t).map .new
  | .box _ x => some (.box x)
  | .build t ps => match E.zro t, P.underlying t with
    | some z, some (.struct fs) => match fs.toList.mapM (fun f => (P.info? f.type).map fun i => (f.offset, i.size)) with
      | some places => match partsP places ps.toList with
        | some l => some (.build z l)
        | none => none
      | none => none
    | some z, some (.array _ e) => match csize P e with
      | some s => some (.build z (partsA s ps.toList))
      | none => none
    | _, _ => none
  | .buildSlice t n ps => match P.underlying t with
    | some (.slice e) => match E.zro e, csize P e with
      | some z, some s => if z.size = s && n * s ≤ 2 ^ 24 && s ≠ 0 then some (.bsl n (tile z n) (partsA s ps.toList)) else none
      | _, _ => none
    | _ => none
  | .load t a => match isAggT P t with
    | some true => match csize P t with
      | some n => some (.ldr n a)
      | none => none
    | some false => some (.ldc a)
    | none => none
  | .store t a v => match csize P t with
    | some n => some (.sto n a v)
    | none => none
  | .nilCheck x => some (.nilc x)
  | .binOp op t x y _ => some (.bin op (kindOf P E t) (isConstO x || isConstO y) x y)
  | .unOp op _ x => some (.una op x)
  | .convert s t x => match P.underlying s, P.underlying t with
    | some (.int _), some (.int k) => some (.cvt k x)
    | _, _ => none
  | .makeInterface t x => match P.underlying t with
    | some (.interface _) => none
    | some _ => some (.mki t x)
    | none => none
  | .makeFunc fn a b => some (.mkf fn a.toList b.toList)
  | .makeMap t r => if r.isNone && (P.underlying t).isSome then some .mkm else none
  | .makeSlice t l c => match P.underlying t with
    | some (.slice e) => match E.zro e, P.info? e with
      | some z, some i => if z.size = i.size && i.size ≠ 0 then some (.mks i.bytes z l c) else none
      | _, _ => none
    | _ => none
  | .slice t x lo hi mx =>
    if mx.isSome then none else
    match P.underlying t with
    | some (.slice e) => match csize P e with
      | some s => some (.sls s x lo hi)
      | none => none
    | some (.array n e) => match csize P e with
      | some s => some (.sla n s x lo hi)
      | none => none
    | _ => none
  | .fieldAddr s x f => match P.underlying s with
    | some (.struct fs) => match fs[f]? with
      | some fd => match csize P fd.type with
        | some (_ + 1) => some (.fa fd.offset x)
        | _ => none
      | none => none
    | _ => none
  | .field t x f => match P.underlying t with
    | some (.struct fs) => match fs[f]? with
      | some fd => match isAggT P fd.type, csize P fd.type with
        | some b, some s => some (.fld b fd.offset s x)
        | _, _ => none
      | none => none
    | _ => none
  | .indexAddr t x i => match P.underlying t with
    | some (.array n e) => match csize P e with
      | some s => some (.iaa n s x i)
      | none => none
    | some (.slice e) => match csize P e with
      | some s => some (.ias s x i)
      | none => none
    | _ => none
  | .index t x i => match P.underlying t with
    | some (.array n e) => match isAggT P e, csize P e with
      | some b, some s => some (.ixa n b s x i)
      | _, _ => none
    | some .string => some (.ixs x i)
    | _ => none
  | .lookup t x i ok => match P.underlying t with
    | some (.map k e) => match P.underlying k, cellZ P E e with
      | some (.int k), some z => some (.lkp k z ok x i)
      | _, _ => none
    | _ => none
  | .mapUpdate t m k v | .insert t m k v => match P.underlying t with
    | some (.map kt _) => match P.underlying kt with
      | some (.int kk) => some (.mup kk m k v)
      | _ => none
    | _ => none
  | .typeAssert x _ t ok => match P.underlying t with
    | some (.interface _) => none
    | some _ => match cellZ P E t with
      | some z => some (.tas t ok z x)
      | none => none
    | none => none
  | .extract x i => some (.ext x i)
  | .call c => match c.callee with
    | .value (.func f) => some (.call f c.args.toList)
    | .value g => some (.clv g c.args.toList)
    | .invoke r name => some (.inv name r c.args.toList)
    | .builtin .len => match c.args.toList, c.argTypes.toList with
      | [x], [t] => match P.underlying t with
        | some (.array n _) => some (.len (.arr n) x)
        | some (.slice _) => some (.len .sl x)
        | some .string => some (.len .st x)
        | some (.pointer p) => match P.underlying p with
          | some (.array n _) => some (.len (.arr n) x)
          | _ => none
        | _ => none
      | _, _ => none
    | .builtin .append => match c.args.toList, c.argTypes.toList with
      | [x, y], [t, u] => match P.underlying t, P.underlying u with
        | some (.slice e), some (.slice _) => match E.zro e, P.info? e with
          | some z, some i => if z.size = i.size then some (.app i.size i.bytes x y) else none
          | _, _ => none
        | _, _ => none
      | _, _ => none
    | .builtin .copy => match c.args.toList, c.argTypes.toList with
      | [x, y], [t, _] => match P.underlying t with
        | some (.slice e) => match csize P e with
          | some s => some (.cpy s x y)
          | none => none
        | _ => none
      | _, _ => none
    | .builtin .min => match c.args.toList with
      | [x, y] => some (.mnx false x y)
      | _ => none
    | .builtin .max => match c.args.toList with
      | [x, y] => some (.mnx true x y)
      | _ => none
    | .builtin .recover => some .rcv
    | _ => none
  | .defer c => match c.callee with
    | .value g => some (.dfr g c.args.toList)
    | _ => none
  | .panic x => some (.pnc x)
  | _ => none

end Go.Sim

