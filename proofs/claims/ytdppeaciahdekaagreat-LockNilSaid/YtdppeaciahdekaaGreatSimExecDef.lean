/- The evaluator of code: regions, code, calls, deferred calls. -/
import Derived.Test.YtdppeaciahdekaaGreatSimOpDef
namespace Go.Sim

structure AItem where
  dst : Option Nat
  op : AOp
  guard : Option (Nat × Bool)
  deriving Inhabited

/-- What an operation of a region that draws its order is to memory: nothing, it reads, it makes new memory, anything. -/
inductive Cls where
  | P | R | A | W
  deriving DecidableEq, Inhabited

structure DItem where
  it : AItem
  idx : Nat
  cls : Cls
  pre : Nat
  cand : List Nat
  deriving Inhabited

inductive ACode where
  | skip
  | reg (l : List AItem)
  | drg (l : List DItem)
  | seq (a b : ACode)
  | cond (c : Operand) (a b : ACode)
  | blk (id : Nat) (a : ACode)
  | loop (a : ACode)
  | exit (id : Nat)
  | ret
  | bad
  deriving Inhabited

inductive ARes where
  | tmp (t : Nat)
  | cell (a : Nat) (agg : Bool) (size : Nat)
  deriving Inhabited

structure AFunc where
  n : Nat
  body : ACode
  res : List ARes
  deriving Inhabited

structure St where
  T : Tmps
  H : AHeap
  D : List (FuncId × List AVal)

inductive AX where
  | normal
  | exit (id : Nat)
  | ret
  | panic (v : AVal)

/-- What a call comes to. -/
inductive CRes where
  | ret (v : AVal) (H : AHeap)
  | pan (v : AVal) (H : AHeap)

abbrev CallF := FuncId → List AVal → AHeap → Option CRes

def wantedA (T : Tmps) : Option (Nat × Bool) → Option Bool
  | none => some true
  | some (t, b) => match tget T t with
    | .bool c => some (c == b)
    | .junk => none
    | _ => some false

/-- A result is put into its slot; n: how many slots there are. -/
def tput (n : Nat) (d : Option Nat) (v : AVal) (T : Tmps) : Option Tmps :=
  match d with
  | none => some T
  | some d => if d < n then some (T.set d (some v)) else none

def aitems (call : CallF) (E : EnvD) (n : Nat) : List AItem → St → Option (AX × St)
  | [], s => some (.normal, s)
  | it :: l, s =>
    match wantedA s.T it.guard with
    | none => none
    | some true =>
      match aop E s.T s.H it.op with
      | some (.val v, H) => match tput n it.dst v s.T with
        | some T => aitems call E n l ⟨T, H, s.D⟩
        | none => none
      | some (.enter f args, H) => match call f args H with
        | some (.ret v H) => match tput n it.dst v s.T with
          | some T => aitems call E n l ⟨T, H, s.D⟩
          | none => none
        | some (.pan v H) => some (.panic v, ⟨s.T, H, s.D⟩)
        | none => none
      | some (.panic v, H) => some (.panic v, ⟨s.T, H, s.D⟩)
      | some (.defer f args, H) => match tput n it.dst AVal.undef s.T with
        | some T => aitems call E n l ⟨T, H, (f, args) :: s.D⟩
        | none => none
      | _ => none
    | some false => match tput n it.dst AVal.undef s.T with
      | some T => aitems call E n l ⟨T, s.H, s.D⟩
      | none => none

/-- Values held against each other, so deep. -/
def beqL (f : AVal → AVal → Bool) : List AVal → List AVal → Bool
  | [], [] => true
  | a :: l, b :: m => f a b && beqL f l m
  | _, _ => false

def beqR (f : AVal → AVal → Bool) : Rope AVal → Rope AVal → Bool
  | .lst l, .lst m => beqL f l m
  | .rep n a, .rep m b => n == m && f a b
  | .app n a b, .app m c d => n == m && beqR f a c && beqR f b d
  | _, _ => false

def beqV : Nat → AVal → AVal → Bool
  | 0, _, _ => false
  | n + 1, a, b => match a, b with
    | .bool a, .bool b => a == b
    | .int k a, .int j b => decide (k = j) && decide (a = b)
    | .str a, .str b => decide (a = b)
    | .ptr a, .ptr b => decide (a = b)
    | .slice a n c, .slice b m d => decide (a = b) && n == m && c == d
    | .mapv a, .mapv b => decide (a = b)
    | .func f a b, .func g c d => decide (f = g) && beqL (beqV n) a c && beqL (beqV n) b d
    | .nilFunc, .nilFunc => true
    | .iface t a, .iface u b => t == u && beqV n a b
    | .nilIface, .nilIface => true
    | .agg a, .agg b => beqR (beqV n) a b
    | .tup a, .tup b => beqL (beqV n) a b
    | .part k m v lo hi, .part k' m' v' lo' hi' => decide (k = k') && m == m' && v == v' && decide (lo = lo') && decide (hi = hi')
    | _, _ => false

/-- Does a value speak of blocks below a number alone? -/
def scL (f : AVal → Bool) : List AVal → Bool
  | [] => true
  | a :: l => f a && scL f l
def scR (f : AVal → Bool) : Rope AVal → Bool
  | .lst l => scL f l
  | .rep _ a => f a
  | .app _ a b => scR f a && scR f b
def scV (m : Nat) : Nat → AVal → Bool
  | 0, _ => false
  | n + 1, a => match a with
    | .ptr (some (i, _)) => decide (i < m)
    | .slice (some (i, _)) _ _ => decide (i < m)
    | .mapv (some i) => decide (i < m)
    | .func _ a b => scL (scV m n) a && scL (scV m n) b
    | .iface _ a => scV m n a
    | .agg r => scR (scV m n) r
    | .tup l => scL (scV m n) l
    | _ => true

def looksO : Operand → List Nat
  | .tmp t => [t]
  | _ => []
def looksP (ps : List (Nat × Nat × Operand)) : List Nat := ps.flatMap fun p => looksO p.2.2
def looksL (l : List Operand) : List Nat := l.flatMap looksO
def looksM (l : Option Operand) : List Nat := match l with | some x => looksO x | none => []

/-- The slots that an operation looks at. -/
def looks : AOp → List Nat
  | .mov x | .box x | .ldc x | .ldr _ x | .nilc x | .una _ x | .cvt _ x | .mki _ x | .fa _ x | .fld _ _ _ x | .tas _ _ _ x | .ext x _ | .len _ x | .pnc x => looksO x
  | .pick c a b => looksO c ++ looksO a ++ looksO b
  | .new _ | .mkm | .rcv | .bad => []
  | .build _ ps | .bsl _ _ ps => looksP ps
  | .sto _ a v | .bin _ _ _ a v | .iaa _ _ a v | .ias _ a v | .ixa _ _ _ a v | .ixs a v | .lkp _ _ _ a v | .app _ _ a v | .cpy _ a v | .mnx _ a v | .del _ a v | .mks _ _ a v => looksO a ++ looksO v
  | .mkf _ a b => looksL a ++ looksL b
  | .sls _ x l h | .sla _ _ x l h => looksO x ++ looksM l ++ looksM h
  | .mup _ m i v => looksO m ++ looksO i ++ looksO v
  | .call _ l => looksL l
  | .clv f l | .dfr f l => looksO f ++ looksL l
  | .inv _ r l => looksO r ++ looksL l

def makeOp : AOp → Bool
  | .new _ | .box _ | .bsl .. => true
  | _ => false
def clsOK (c : Cls) (op : AOp) : Bool :=
  match c with
  | .P => quietOp op
  | .R => quietOp op || readOp op
  | .A => makeOp op
  | .W => match op with
    | .dfr .. | .rcv | .pnc _ => false
    | _ => true

def depth : Nat := 8

/-- One operation of a region that draws: its value, and the heap behind it. A call that panics: 'none' as a value. -/
inductive DRes where
  | val (v : AVal) (H : AHeap)
  | pan (v : AVal) (H : AHeap)

def scAll (T : Tmps) (m : Nat) : List Nat → Bool
  | [] => true
  | t :: l => scV m depth (tget T t) && scAll T m l

def dstep (call : CallF) (E : EnvD) (T : Tmps) (H : AHeap) (it : AItem) : Option DRes :=
  match wantedA T it.guard with
  | none => none
  | some true =>
    match aop E T H it.op with
    | some (.val v, H') => some (.val v H')
    | some (.enter f args, H') => match call f args H' with
      | some (.ret v H'') => some (.val v H'')
      | some (.pan v H'') => some (.pan v H'')
      | none => none
    | _ => none
  | some false => some (.val AVal.undef H)

/-- A row of the run of a region that draws: the operation's value, the slots and the heap ahead of it. -/
structure DRow where
  val : AVal
  T : Tmps
  H : AHeap

/-- The run in the order in which the operations are listed, up to the end or to the one that panics. -/
inductive DRun where
  | done (l : List DRow) (T : Tmps) (H : AHeap)
  | pan (l : List DRow) (T : Tmps) (H : AHeap) (k : Nat) (v : AVal) (H' : AHeap)

/-- New memory holds values of old memory alone. -/
def achk (d : DItem) (H H' : AHeap) : Bool :=
  match d.cls with
  | .A => match H'.get H.next with
    | some (.cells c _ _) => scR (scV H.next depth) c
    | _ => true
  | .W => Nat.ble H.next H'.next
  | _ => true

def wchk (d : DItem) (T : Tmps) (H : AHeap) : Bool :=
  match d.cls with
  | .W => scAll T H.next (looks d.it.op)
  | _ => true

def drun (call : CallF) (E : EnvD) (n : Nat) : List DItem → Nat → List DRow → Tmps → AHeap → Option DRun
  | [], _, acc, T, H => some (.done acc.reverse T H)
  | d :: l, k, acc, T, H =>
    match wchk d T H with
    | true => match dstep call E T H d.it with
      | some (.val v H') => match achk d H H' with
        | true => match tput n d.it.dst v T with
          | some T' => drun call E n l (k + 1) (⟨v, T, H⟩ :: acc) T' H'
          | none => none
        | false => none
      | some (.pan v H') => some (.pan acc.reverse T H k v H')
      | none => none
    | false => none

/-- Behind an operation that panics: whatever does not hang on it may have been done ahead of it, and is looked at. -/
def ddry (E : EnvD) (n p : Nat) : List DItem → List DRow → Tmps → AHeap → Option (List DRow)
  | [], acc, _, _ => some acc.reverse
  | d :: l, acc, T, H =>
    if d.pre.testBit p then ddry E n p l (⟨AVal.undef, T, H⟩ :: acc) T H
    else match d.cls with
      | .W => none
      | _ => match dstep (fun _ _ _ => none) E T H d.it with
        | some (.val v H') => match achk d H H' with
          | true => match tput n d.it.dst v T with
            | some T' => ddry E n p l (⟨v, T, H⟩ :: acc) T' H'
            | none => none
          | false => none
        | _ => none

/-- The reads come to the same at each heap that they may meet. -/
def rcheck (E : EnvD) (Hs : List AHeap) (d : DItem) (r : DRow) (most : Nat) : List Nat → Bool
  | [] => true
  | k :: l =>
    (if k ≤ most then
      match Hs[k]? with
      | some H => (match wantedA r.T d.it.guard with
        | some true => match aop E r.T H d.it.op with
          | some (.val v, _) => beqV depth v r.val
          | _ => false
        | _ => true)
      | none => false
     else true) && rcheck E Hs d r most l

def rchecks (E : EnvD) (Hs : List AHeap) (most : Nat) (skip : DItem → Bool) : List DItem → List DRow → Bool
  | d :: l, r :: m => (match d.cls with | .R => skip d || rcheck E Hs d r most d.cand | _ => true) && rchecks E Hs most skip l m
  | _, _ => true

def ddsts (l : List DItem) : List Nat := l.filterMap fun d => d.it.dst

def junkAll (l : List Nat) (T : Tmps) : Tmps := l.foldl (fun T t => T.set t (some .junk)) T

def dreg (call : CallF) (E : EnvD) (n : Nat) (l : List DItem) (s : St) : Option (AX × St) :=
  match drun call E n l 0 [] s.T s.H with
  | some (.done rows T H) => match rchecks E (rows.map (·.H) ++ [H]) rows.length (fun _ => false) l rows with
    | true => some (.normal, ⟨T, H, s.D⟩)
    | false => none
  | some (.pan rows T0 H0 k v H) => match ddry E n k (l.drop (k + 1)) [] T0 H0 with
    | some more => match rchecks E (rows.map (·.H) ++ [H0]) k (fun d => d.pre.testBit k) l (rows ++ ⟨AVal.undef, T0, H0⟩ :: more) with
      | true => some (.panic v, ⟨junkAll (ddsts l) s.T, H, s.D⟩)
      | false => none
    | none => none
  | none => none

def aiter (f : St → Option (AX × St)) : Nat → St → Option (AX × St)
  | 0, _ => none
  | k + 1, s => match f s with
    | some (.normal, s') => aiter f k s'
    | r => r

def aexec (call : CallF) (E : EnvD) (n lf : Nat) : ACode → St → Option (AX × St)
  | .skip, s => some (.normal, s)
  | .reg l, s => aitems call E n l s
  | .drg l, s => dreg call E n l s
  | .seq a b, s => match aexec call E n lf a s with
    | some (.normal, s') => aexec call E n lf b s'
    | r => r
  | .cond c a b, s => match aev s.T c with
    | some (.bool true) => aexec call E n lf a s
    | some (.bool false) => aexec call E n lf b s
    | _ => none
  | .blk id a, s => match aexec call E n lf a s with
    | some (.exit i, s') => if i = id then some (.normal, s') else some (.exit i, s')
    | r => r
  | .loop a, s => aiter (aexec call E n lf a) lf s
  | .exit id, s => some (.exit id, s)
  | .ret, s => some (.ret, s)
  | .bad, _ => none

def tinit : List AVal → Nat → Tmps
  | [], _ => .leaf
  | v :: l, k => (tinit l (k + 1)).set k (some v)

def ares1 (T : Tmps) (H : AHeap) : ARes → Option AVal
  | .tmp t => some (tget T t)
  | .cell a g n => match tget T a with
    | .ptr (some (i, o)) => if g then (match hloadN H i o n with
        | some c => some (.agg c)
        | none => none) else hload1 H i o
    | _ => none

def aresL (T : Tmps) (H : AHeap) : List ARes → Option (List AVal)
  | [] => some []
  | r :: l => match ares1 T H r with
    | some v => match aresL T H l with
      | some vs => some (v :: vs)
      | none => none
    | none => none

def aresults (T : Tmps) (H : AHeap) (l : List ARes) : Option AVal :=
  match aresL T H l with
  | some [v] => some v
  | some vs => some (.tup vs)
  | none => none

/-- Items of a deferred call's body, which may recover: 'm': the panic that can be recovered. -/
def aitemsS (call : CallF) (E : EnvD) (n : Nat) : List AItem → Option AVal → St → Option (AX × St × Option AVal)
  | [], m, s => some (.normal, s, m)
  | it :: l, m, s =>
    match wantedA s.T it.guard with
    | none => none
    | some true =>
      match aop E s.T s.H it.op with
      | some (.val v, H) => match tput n it.dst v s.T with
        | some T => aitemsS call E n l m ⟨T, H, s.D⟩
        | none => none
      | some (.enter f args, H) => match call f args H with
        | some (.ret v H) => match tput n it.dst v s.T with
          | some T => aitemsS call E n l m ⟨T, H, s.D⟩
          | none => none
        | some (.pan v H) => some (.panic v, ⟨s.T, H, s.D⟩, m)
        | none => none
      | some (.panic v, H) => some (.panic v, ⟨s.T, H, s.D⟩, m)
      | some (.recov, H) => match tput n it.dst (m.getD .nilIface) s.T with
        | some T => aitemsS call E n l none ⟨T, H, s.D⟩
        | none => none
      | _ => none
    | some false => match tput n it.dst AVal.undef s.T with
      | some T => aitemsS call E n l m ⟨T, s.H, s.D⟩
      | none => none

def aexecS (call : CallF) (E : EnvD) (n lf : Nat) : ACode → Option AVal → St → Option (AX × St × Option AVal)
  | .seq a b, m, s => match aexecS call E n lf a m s with
    | some (.normal, s', m') => aexecS call E n lf b m' s'
    | r => r
  | .cond c a b, m, s => match aev s.T c with
    | some (.bool true) => aexecS call E n lf a m s
    | some (.bool false) => aexecS call E n lf b m s
    | _ => none
  | .reg l, m, s => aitemsS call E n l m s
  | c, m, s => match aexec call E n lf c s with
    | some (x, s') => some (x, s', m)
    | none => none

/-- A deferred call: what it leaves, and the panic that is still there. -/
def acallD (call : CallF) (C : FuncId → Option AFunc) (E : EnvD) (lf : Nat) (f : FuncId) (args : List AVal) (m : Option AVal) (H : AHeap) : Option (Option AVal × AHeap) :=
  match C f with
  | some af => if args.length ≤ af.n then
      match aexecS call E af.n lf af.body m ⟨tinit args 0, H, []⟩ with
      | some (.normal, s, m') | some (.ret, s, m') => match s.D, aresults s.T s.H af.res with
        | [], some _ => some (m', s.H)
        | _, _ => none
      | _ => none
    else none
  | none => none

def aleave (call : CallF) (C : FuncId → Option AFunc) (E : EnvD) (lf : Nat) (T : Tmps) (res : List ARes) : List (FuncId × List AVal) → Option AVal → AHeap → Option CRes
  | [], none, H => match aresults T H res with
    | some v => some (.ret v H)
    | none => none
  | [], some v, H => some (.pan v H)
  | (f, l) :: ds, m, H => match acallD call C E lf f l m H with
    | some (m', H') => aleave call C E lf T res ds m' H'
    | none => none

def acall (C : FuncId → Option AFunc) (ext : CallF) (E : EnvD) (lf : Nat) : Nat → CallF
  | 0, _, _, _ => none
  | k + 1, f, args, H =>
    match ext f args H with
    | some r => some r
    | none =>
      match C f with
      | some af => if args.length ≤ af.n then
          match aexec (acall C ext E lf k) E af.n lf af.body ⟨tinit args 0, H, []⟩ with
          | some (.normal, s) => aleave (acall C ext E lf k) C E lf s.T af.res s.D none s.H
          | some (.ret, s) => aleave (acall C ext E lf k) C E lf s.T af.res s.D none s.H
          | some (.panic v, s) => aleave (acall C ext E lf k) C E lf s.T af.res s.D (some v) s.H
          | _ => none
        else none
      | none => none

end Go.Sim
