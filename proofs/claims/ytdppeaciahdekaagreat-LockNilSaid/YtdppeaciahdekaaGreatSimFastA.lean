/- The evaluator, cheap for the kernel: the same functions, by their recursors, with numbers made plain as they come. -/
import Derived.Test.YtdppeaciahdekaaGreatSimTab
set_option linter.unusedVariables false
namespace Go.Sim

/-- A number made plain. -/
noncomputable def fNat {β : Type} (n : Nat) (K : Nat → β) : β := @Nat.rec (fun _ => β) (K 0) (fun m _ => K (Nat.succ m)) n
theorem fNat_eq {β : Type} (n : Nat) (K : Nat → β) : fNat n K = K n := by cases n <;> rfl
noncomputable def fInt {β : Type} (n : Int) (K : Int → β) : β := @Int.rec (fun _ => β) (fun m => fNat m fun m => K (Int.ofNat m)) (fun m => fNat m fun m => K (Int.negSucc m)) n
theorem fInt_eq {β : Type} (n : Int) (K : Int → β) : fInt n K = K n := by cases n <;> simp only [fInt, fNat_eq]
noncomputable def fLoc {β : Type} (p : Option (Nat × Nat)) (K : Option (Nat × Nat) → β) : β :=
  @Option.rec (Nat × Nat) (fun _ => β) (K none) (fun q => @Prod.rec Nat Nat (fun _ => β) (fun i o => fNat i fun i => fNat o fun o => K (some (i, o))) q) p
theorem fLoc_eq {β : Type} (p : Option (Nat × Nat)) (K : Option (Nat × Nat) → β) : fLoc p K = K p := by
  cases p with
  | none => rfl
  | some q => obtain ⟨i, o⟩ := q; simp only [fLoc, fNat_eq]
/-- A value's head made plain. -/
noncomputable def fVal {β : Type} (v : AVal) (K : AVal → β) : β :=
  match v with
  | .int k n => fInt n fun n => K (.int k n)
  | .ptr p => fLoc p fun p => K (.ptr p)
  | .slice p n c => fLoc p fun p => fNat n fun n => fNat c fun c => K (.slice p n c)
  | .mapv (some r) => fNat r fun r => K (.mapv (some r))
  | .bool b => @Bool.rec (fun _ => β) (K (.bool false)) (K (.bool true)) b
  | v => K v
theorem fVal_eq {β : Type} (v : AVal) (K : AVal → β) : fVal v K = K v := by
  unfold fVal
  split <;> (try simp only [fInt_eq, fLoc_eq, fNat_eq])
  rename_i b; cases b <;> rfl

noncomputable def getF {α : Type} (p : List Bool) : Trie α → Option α :=
  @List.rec Bool (fun _ => Trie α → Option α) (fun t => @Trie.rec α (fun _ => Option α) none (fun _ v _ _ _ => v) t)
    (fun b _ ih t => @Trie.rec α (fun _ => Option α) none (fun l _ r _ _ => @Bool.rec (fun _ => Option α) (ih l) (ih r) b) t) p
theorem getF_eq {α : Type} : ∀ (p : List Bool) (t : Trie α), getF p t = t.getP p
  | [], t => by cases t <;> rfl
  | b :: p, t => by
    have ih := getF_eq (α := α) p
    cases t with
    | leaf => rfl
    | node l v r => cases b <;> exact ih _

noncomputable def setF {α : Type} (p : List Bool) (x : Option α) : Trie α → Trie α :=
  @List.rec Bool (fun _ => Trie α → Trie α)
    (fun t => @Trie.rec α (fun _ => Trie α) (.node .leaf x .leaf) (fun l _ r _ _ => .node l x r) t)
    (fun b _ ih t => @Bool.rec (fun _ => Trie α)
      (@Trie.rec α (fun _ => Trie α) (.node (ih .leaf) none .leaf) (fun l v r _ _ => .node (ih l) v r) t)
      (@Trie.rec α (fun _ => Trie α) (.node .leaf none (ih .leaf)) (fun l v r _ _ => .node l v (ih r)) t) b) p
theorem setF_eq {α : Type} : ∀ (p : List Bool) (x : Option α) (t : Trie α), setF p x t = t.setP p x
  | [], x, t => by cases t <;> rfl
  | b :: p, x, t => by
    have ih := setF_eq (α := α) p x
    cases t <;> cases b <;> simp only [Trie.setP, ← ih] <;> rfl

noncomputable def tgetF (T : Tmps) (t : Nat) : AVal := @Option.rec AVal (fun _ => AVal) AVal.undef (fun v => v) (getF (bits t) T)
theorem tgetF_eq (T : Tmps) (t : Nat) : tgetF T t = tget T t := by
  unfold tgetF tget Trie.get
  rw [getF_eq]
  cases Trie.getP T (bits t) <;> rfl

noncomputable def aevF (T : Tmps) (x : Operand) : Option AVal :=
  @Operand.rec (fun _ => Option AVal) (fun t => some (tgetF T t)) (fun v => cval v) (fun _ => none) (fun f => some (.func (.func f) [] [])) x
theorem aevF_eq (T : Tmps) (x : Operand) : aevF T x = aev T x := by
  cases x <;> first | rfl | (simp only [aevF, aev, tgetF_eq])

noncomputable def aevsF (T : Tmps) (l : List Operand) : Option (List AVal) :=
  @List.rec Operand (fun _ => Option (List AVal)) (some []) (fun x _ ih => @Option.rec AVal (fun _ => Option (List AVal)) none (fun v => fVal v fun v => @Option.rec (List AVal) (fun _ => Option (List AVal)) none (fun vs => some (v :: vs)) ih) (aevF T x)) l
theorem aevsF_eq (T : Tmps) : ∀ l, aevsF T l = aevs T l
  | [] => rfl
  | x :: l => by
    have ih := aevsF_eq T l
    show @Option.rec AVal (fun _ => Option (List AVal)) none (fun v => fVal v fun v => @Option.rec (List AVal) (fun _ => Option (List AVal)) none (fun vs => some (v :: vs)) (aevsF T l)) (aevF T x) = _
    rw [ih, aevF_eq]
    simp only [aevs]
    cases aev T x with
    | none => rfl
    | some v => simp only [fVal_eq]; cases aevs T l <;> rfl

noncomputable def hgetF (H : AHeap) (i : Nat) : Option ABlk := fNat i fun i => getF (bits i) H.tree
theorem hgetF_eq (H : AHeap) (i : Nat) : hgetF H i = H.get i := by simp only [hgetF, fNat_eq, getF_eq]; rfl
noncomputable def hputF (H : AHeap) (i : Nat) (b : ABlk) : AHeap := ⟨H.next, fNat i fun i => setF (bits i) (some b) H.tree⟩
theorem hputF_eq (H : AHeap) (i : Nat) (b : ABlk) : hputF H i b = H.put i b := by simp only [hputF, fNat_eq, setF_eq]; rfl
noncomputable def hkillF (H : AHeap) (i : Nat) : AHeap := ⟨H.next, fNat i fun i => setF (bits i) none H.tree⟩
theorem hkillF_eq (H : AHeap) (i : Nat) : hkillF H i = H.kill i := by simp only [hkillF, fNat_eq, setF_eq]; rfl
noncomputable def hnewF (H : AHeap) (b : ABlk) : AHeap := fNat H.next fun n => ⟨Nat.succ n, setF (bits n) (some b) H.tree⟩
theorem hnewF_eq (H : AHeap) (b : ABlk) : hnewF H b = H.new b := by simp only [hnewF, fNat_eq, setF_eq]; rfl

noncomputable def anatF (v : AVal) : Option Nat :=
  match v with
  | .int _ n => @Int.rec (fun _ => Option Nat) (fun m => some m) (fun _ => none) n
  | _ => none
theorem anatF_eq (v : AVal) : anatF v = anat v := by
  cases v <;> try rfl
  rename_i k n
  cases n with
  | ofNat m => simp [anatF, anat]
  | negSucc m => simp [anatF, anat]

noncomputable def retF (v : AVal) (H : AHeap) : Option (AOut × AHeap) := fVal v fun v => some (.val v, H)
theorem retF_eq (v : AVal) (H : AHeap) : retF v H = ret v H := by rw [retF, fVal_eq]; rfl

noncomputable def hload1F (H : AHeap) (i o : Nat) : Option AVal :=
  match hgetF H i with
  | some (.cells r _ _) => fNat o fun o => r.get o
  | _ => none
theorem hload1F_eq (H : AHeap) (i o : Nat) : hload1F H i o = hload1 H i o := by simp only [hload1F, hload1, hgetF_eq, fNat_eq]; rfl
noncomputable def hloadNF (H : AHeap) (i o n : Nat) : Option (Rope AVal) :=
  match hgetF H i with
  | some (.cells r _ _) => fNat o fun o => fNat n fun n => if o + n ≤ r.size then some (r.ext o n) else none
  | _ => none
theorem hloadNF_eq (H : AHeap) (i o n : Nat) : hloadNF H i o n = hloadN H i o n := by simp only [hloadNF, hloadN, hgetF_eq, fNat_eq]; rfl
noncomputable def hstoreF (H : AHeap) (i o : Nat) (c : Rope AVal) : Option AHeap :=
  match hgetF H i with
  | some (.cells r g true) => fNat o fun o => if o + c.size ≤ r.size then some (hputF H i (.cells (putAll r o c) g true)) else none
  | _ => none
theorem hstoreF_eq (H : AHeap) (i o : Nat) (c : Rope AVal) : hstoreF H i o c = hstore H i o c := by simp only [hstoreF, hstore, hgetF_eq, hputF_eq, fNat_eq]; rfl
noncomputable def hsrcF (H : AHeap) (q : Option (Nat × Nat)) (n : Nat) : Option (Rope AVal) :=
  match q with
  | none => some (.lst [])
  | some (j, o) => hloadNF H j o n
theorem hsrcF_eq (H : AHeap) (q : Option (Nat × Nat)) (n : Nat) : hsrcF H q n = hsrc H q n := by
  unfold hsrcF hsrc; split <;> (try simp only [hloadNF_eq])
noncomputable def hfindF (H : AHeap) (k : IntKind) (n : Int) (m : Option Nat) : Option (Option AVal) :=
  match m with
  | none => some none
  | some b => match hgetF H b with
    | some (.map es) => afind k n es
    | some (.pmap es) => if nodupK k es then afind k n es else none
    | _ => none
theorem hfindF_eq (H : AHeap) (k : IntKind) (n : Int) (m : Option Nat) : hfindF H k n m = hfind H k n m := by
  unfold hfindF hfind; split <;> (try simp only [hgetF_eq]) <;> rfl
noncomputable def aboundF (T : Tmps) (x : Option Operand) (d : Nat) : Option Nat :=
  match x with
  | none => some d
  | some x => match aevF T x with
    | some v => anatF v
    | none => none
theorem aboundF_eq (T : Tmps) (x : Option Operand) (d : Nat) : aboundF T x d = abound T x d := by
  unfold aboundF abound; split <;> (try simp only [aevF_eq, anatF_eq]) <;> rfl
noncomputable def fillAF (T : Tmps) (z : Rope AVal) : List (Nat × Nat × Operand) → Option (Rope AVal)
  | [] => some z
  | (o, s, x) :: ps => match aevF T x with
    | some v => match v.cells with
      | some c => if c.size = s && (o + s ≤ z.size) then fillAF T (putAll z o c) ps else none
      | none => none
    | none => none
theorem fillAF_eq (T : Tmps) : ∀ (ps : List (Nat × Nat × Operand)) (z : Rope AVal), fillAF T z ps = fillA T z ps
  | [], z => rfl
  | (o, s, x) :: ps, z => by simp only [fillAF, fillA, aevF_eq, fillAF_eq T ps]; rfl
noncomputable def aintF (k : IntKind) : AVal → Option Int
  | .int k' n => if k' = k then some n else none
  | _ => none
theorem aintF_eq (k : IntKind) (v : AVal) : aintF k v = aint k v := by cases v <;> rfl

/-- The least number that a kind does not hold. -/
noncomputable def limF (k : IntKind) : Nat := @IntKind.rec (fun _ => Nat) 128 32768 2147483648 9223372036854775808 256 65536 4294967296 18446744073709551616 k

theorem wrap_lim (k : IntKind) {c : Nat} (h : c < limF k) : k.wrap (c : Int) = c := by
  cases k <;> simp only [limF] at h <;> simp only [IntKind.wrap, IntKind.bits, IntKind.signed] <;> simp <;> omega

noncomputable def inLim (k : IntKind) (c : Nat) (slow : Option AVal) : Option AVal := @Bool.rec (fun _ => Option AVal) slow (fNat c fun c => some (.int k (Int.ofNat c))) (Nat.blt c (limF k))
theorem inLim_eq {k : IntKind} {c : Nat} {slow : Option AVal} (h : c < limF k → slow = some (.int k (Int.ofNat c))) : inLim k c slow = slow := by
  unfold inLim
  cases e : Nat.blt c (limF k) with
  | false => rfl
  | true =>
    rw [h (by simpa [Nat.blt_eq] using e)]
    simp only [fNat_eq]

noncomputable def ifB (b : Bool) (x y : Option AVal) : Option AVal := @Bool.rec (fun _ => Option AVal) y x b
theorem ifB_eq {b : Bool} {x y : Option AVal} (h : b = true → x = y) : ifB b x y = y := by cases b <;> first | rfl | exact h rfl

noncomputable def natBin (op : BinOp) (k : IntKind) (a b : Nat) (slow : Option AVal) : Option AVal :=
  @BinOp.rec (fun _ => Option AVal)
    (inLim k (Nat.add a b) slow)
    (ifB (Nat.ble b a) (inLim k (Nat.sub a b) slow) slow)
    (inLim k (Nat.mul a b) slow)
    (ifB (Nat.blt 0 b) (inLim k (Nat.div a b) slow) slow)
    (ifB (Nat.blt 0 b) (inLim k (Nat.mod a b) slow) slow)
    (ifB (Nat.blt a (limF k)) (ifB (Nat.blt b (limF k)) (inLim k (Nat.land a b) slow) slow) slow)
    (ifB (Nat.blt a (limF k)) (ifB (Nat.blt b (limF k)) (inLim k (Nat.lor a b) slow) slow) slow)
    (ifB (Nat.blt a (limF k)) (ifB (Nat.blt b (limF k)) (inLim k (Nat.xor a b) slow) slow) slow)
    slow slow slow
    (some (.bool (Nat.beq a b))) (some (.bool (not (Nat.beq a b)))) (some (.bool (Nat.blt a b))) (some (.bool (Nat.ble a b))) (some (.bool (Nat.blt b a))) (some (.bool (Nat.ble b a))) op

theorem lim_bits (k : IntKind) : limF k ≤ 2 ^ k.bits := by cases k <;> simp [limF, IntKind.bits]
theorem ofInt_lim {k : IntKind} {a : Nat} (h : a < limF k) : (BitVec.ofInt k.bits (Int.ofNat a)).toNat = a := by
  have := lim_bits k
  show (BitVec.ofInt k.bits (a : Int)).toNat = a
  simp only [BitVec.ofInt_natCast, BitVec.toNat_ofNat]
  exact Nat.mod_eq_of_lt (by omega)

theorem decide_blt (a b : Nat) : decide ((Int.ofNat a : Int) < Int.ofNat b) = Nat.blt a b := by
  rw [Bool.eq_iff_iff]; simp [Nat.blt_eq]
theorem decide_ble (a b : Nat) : decide ((Int.ofNat a : Int) ≤ Int.ofNat b) = Nat.ble a b := by
  rw [Bool.eq_iff_iff]; simp [Nat.ble_eq]
theorem beq_nat (a b : Nat) : ((Int.ofNat a : Int) == Int.ofNat b) = Nat.beq a b := by
  rw [Bool.eq_iff_iff]; simp [Nat.beq_eq]; omega

theorem natBin_eq (op : BinOp) (k : IntKind) (a b : Nat) (h1 : op ≠ .shl) (h2 : op ≠ .shr) : natBin op k a b (intBin op k (Int.ofNat a) (Int.ofNat b)) = intBin op k (Int.ofNat a) (Int.ofNat b) := by
  cases op
  case shl => exact absurd rfl h1
  case shr => exact absurd rfl h2
  case add => exact inLim_eq fun h => by simp only [intBin]; rw [show (Int.ofNat a + Int.ofNat b) = ((Nat.add a b : Nat) : Int) from rfl, wrap_lim k h]; rfl
  case sub =>
    refine ifB_eq fun hb => inLim_eq fun h => ?_
    have hb' : b ≤ a := Nat.le_of_ble_eq_true hb
    simp only [intBin]
    rw [show (Int.ofNat a - Int.ofNat b) = ((Nat.sub a b : Nat) : Int) from by show ((a : Int) - (b : Int)) = ((a - b : Nat) : Int); omega, wrap_lim k h]; rfl
  case mul => exact inLim_eq fun h => by simp only [intBin]; rw [show (Int.ofNat a * Int.ofNat b) = ((Nat.mul a b : Nat) : Int) from rfl, wrap_lim k h]; rfl
  case quo =>
    refine ifB_eq fun hb => inLim_eq fun h => ?_
    have hb' : 0 < b := by simpa [Nat.blt_eq] using hb
    simp only [intBin]
    rw [if_neg (by show ¬ ((b : Int) = 0); omega), show (Int.ofNat a).tdiv (Int.ofNat b) = ((Nat.div a b : Nat) : Int) from rfl, wrap_lim k h]; rfl
  case rem =>
    refine ifB_eq fun hb => inLim_eq fun h => ?_
    have hb' : 0 < b := by simpa [Nat.blt_eq] using hb
    simp only [intBin]
    rw [if_neg (by show ¬ ((b : Int) = 0); omega)]
    rfl
  case and =>
    refine ifB_eq fun ha => ifB_eq fun hb => inLim_eq fun h => ?_
    have ha : a < limF k := by simpa [Nat.blt_eq] using ha
    have hb : b < limF k := by simpa [Nat.blt_eq] using hb
    simp only [intBin, BitVec.toNat_and, ofInt_lim ha, ofInt_lim hb]
    rw [show a &&& b = Nat.land a b from rfl, wrap_lim k h]; rfl
  case or =>
    refine ifB_eq fun ha => ifB_eq fun hb => inLim_eq fun h => ?_
    have ha : a < limF k := by simpa [Nat.blt_eq] using ha
    have hb : b < limF k := by simpa [Nat.blt_eq] using hb
    simp only [intBin, BitVec.toNat_or, ofInt_lim ha, ofInt_lim hb]
    rw [show a ||| b = Nat.lor a b from rfl, wrap_lim k h]; rfl
  case xor =>
    refine ifB_eq fun ha => ifB_eq fun hb => inLim_eq fun h => ?_
    have ha : a < limF k := by simpa [Nat.blt_eq] using ha
    have hb : b < limF k := by simpa [Nat.blt_eq] using hb
    simp only [intBin, BitVec.toNat_xor, ofInt_lim ha, ofInt_lim hb]
    rw [show a ^^^ b = Nat.xor a b from rfl, wrap_lim k h]; rfl
  case andNot => rfl
  case eql => simp only [intBin, beq_nat]; rfl
  case neq => simp only [intBin, bne, beq_nat]; rfl
  case lss => simp only [intBin, decide_blt]; rfl
  case leq => simp only [intBin, decide_ble]; rfl
  case gtr => simp only [intBin, gt_iff_lt, decide_blt]; rfl
  case geq => simp only [intBin, ge_iff_le, decide_ble]; rfl

theorem lim_inj {k k' : IntKind} (h : Nat.beq (limF k) (limF k') = true) : k = k' := by
  have := Nat.eq_of_beq_eq_true h
  cases k <;> cases k' <;> simp [limF] at this <;> rfl

noncomputable def notShift (op : BinOp) : Bool := @BinOp.rec (fun _ => Bool) true true true true true true true true false false true true true true true true true op

noncomputable def abinF (op : BinOp) (k : Kd) (c : Bool) (x y : AVal) : Option AVal :=
  match x with
  | .int k1 a => (match y with
    | .int k2 b => @Int.rec (fun _ => Option AVal) (fun a => @Int.rec (fun _ => Option AVal) (fun b => ifB (Nat.beq (limF k1) (limF k2)) (ifB (notShift op) (natBin op k1 a b (intBin op k1 (Int.ofNat a) (Int.ofNat b))) (abin op k c (.int k1 (Int.ofNat a)) (.int k2 (Int.ofNat b)))) (abin op k c (.int k1 (Int.ofNat a)) (.int k2 (Int.ofNat b))))
        (fun b => abin op k c (.int k1 (Int.ofNat a)) (.int k2 (Int.negSucc b))) b) (fun a => abin op k c (.int k1 (Int.negSucc a)) (.int k2 b)) a
    | y => abin op k c (.int k1 a) y)
  | x => abin op k c x y

theorem abinF_eq (op : BinOp) (k : Kd) (c : Bool) (x y : AVal) : abinF op k c x y = abin op k c x y := by
  cases x <;> try rfl
  rename_i k1 a
  cases y <;> try rfl
  rename_i k2 b
  cases a with
  | negSucc a => rfl
  | ofNat a =>
    cases b with
    | negSucc b => rfl
    | ofNat b =>
      show ifB (Nat.beq (limF k1) (limF k2)) (ifB (notShift op) (natBin op k1 a b (intBin op k1 (Int.ofNat a) (Int.ofNat b))) (abin op k c (.int k1 (Int.ofNat a)) (.int k2 (Int.ofNat b)))) (abin op k c (.int k1 (Int.ofNat a)) (.int k2 (Int.ofNat b))) = _
      refine ifB_eq fun h => ?_
      have := lim_inj h
      subst this
      refine ifB_eq fun hs => ?_
      have h1 : op ≠ .shl := by rintro rfl; cases hs
      have h2 : op ≠ .shr := by rintro rfl; cases hs
      rw [natBin_eq op k1 a b h1 h2]
      cases op <;> first | exact absurd rfl h1 | exact absurd rfl h2 | simp [abin]

noncomputable def f_mov (x : Operand) (E : EnvD) (T : Tmps) (H : AHeap) : Option (AOut × AHeap) :=
  match aevF T x with
    | some v => retF v H
    | none => none
noncomputable def f_pick (c : Operand) (a : Operand) (b : Operand) (E : EnvD) (T : Tmps) (H : AHeap) : Option (AOut × AHeap) :=
  match aevF T c with
    | some (.bool true) => match aevF T a with | some v => (match aevF T b with | some _ => retF v H | none => none) | none => none
    | some (.bool false) => match aevF T b with | some v => (match aevF T a with | some _ => retF v H | none => none) | none => none
    | _ => none
noncomputable def f_new (z : Rope AVal) (E : EnvD) (T : Tmps) (H : AHeap) : Option (AOut × AHeap) :=
  retF (.ptr (some (H.next, 0))) (hnewF H (.cells z 0 true))
noncomputable def f_box (x : Operand) (E : EnvD) (T : Tmps) (H : AHeap) : Option (AOut × AHeap) :=
  match aevF T x with
    | some v => match v.cells with
      | some c => retF (.ptr (some (H.next, 0))) (hnewF H (.cells c 0 true))
      | none => none
    | none => none
noncomputable def f_build (z : Rope AVal) (ps : List (Nat × Nat × Operand)) (E : EnvD) (T : Tmps) (H : AHeap) : Option (AOut × AHeap) :=
  match fillAF T z ps with
    | some c => retF (.agg c) H
    | none => none
noncomputable def f_bsl (n : Nat) (z : Rope AVal) (ps : List (Nat × Nat × Operand)) (E : EnvD) (T : Tmps) (H : AHeap) : Option (AOut × AHeap) :=
  match fillAF T z ps with
    | some c => retF (.slice (some (H.next, 0)) n n) (hnewF H (.cells c 0 true))
    | none => none
noncomputable def f_ldc (x : Operand) (E : EnvD) (T : Tmps) (H : AHeap) : Option (AOut × AHeap) :=
  match aevF T x with
    | some (.ptr (some (i, o))) => match hload1F H i o with
      | some v => retF v H
      | none => none
    | _ => none
noncomputable def f_ldr (n : Nat) (x : Operand) (E : EnvD) (T : Tmps) (H : AHeap) : Option (AOut × AHeap) :=
  match aevF T x with
    | some (.ptr (some (i, o))) => match hloadNF H i o n with
      | some c => retF (.agg c) H
      | none => none
    | _ => none
noncomputable def f_sto (n : Nat) (a : Operand) (v : Operand) (E : EnvD) (T : Tmps) (H : AHeap) : Option (AOut × AHeap) :=
  match aevF T a, aevF T v with
    | some (.ptr (some (i, o))), some x => match x.cells with
      | some c => if c.size = n then (match hstoreF H i o c with
          | some H' => retF AVal.undef H'
          | none => none) else none
      | none => none
    | _, _ => none
noncomputable def f_nilc (x : Operand) (E : EnvD) (T : Tmps) (H : AHeap) : Option (AOut × AHeap) :=
  match aevF T x with
    | some (.ptr (some p)) => retF (.ptr (some p)) H
    | some (.func (.func f) a b) => retF (.func (.func f) a b) H
    | some (.iface t v) => retF (.iface t v) H
    | _ => none
noncomputable def f_bin (op : BinOp) (k : Kd) (c : Bool) (x : Operand) (y : Operand) (E : EnvD) (T : Tmps) (H : AHeap) : Option (AOut × AHeap) :=
  match aevF T x, aevF T y with
    | some a, some b => match abinF op k c a b with
      | some v => retF v H
      | none => none
    | _, _ => none
noncomputable def f_una (op : UnOp) (x : Operand) (E : EnvD) (T : Tmps) (H : AHeap) : Option (AOut × AHeap) :=
  match aevF T x with
    | some a => match aun op a with
      | some v => retF v H
      | none => none
    | none => none
noncomputable def f_cvt (k : IntKind) (x : Operand) (E : EnvD) (T : Tmps) (H : AHeap) : Option (AOut × AHeap) :=
  match aevF T x with
    | some (.int _ n) => retF (.int k (k.wrap n)) H
    | _ => none
noncomputable def f_mki (t : TypeId) (x : Operand) (E : EnvD) (T : Tmps) (H : AHeap) : Option (AOut × AHeap) :=
  match aevF T x with
    | some v => retF (.iface t v) H
    | none => none
noncomputable def f_mkf (fn : Fn) (a : List Operand) (b : List Operand) (E : EnvD) (T : Tmps) (H : AHeap) : Option (AOut × AHeap) :=
  match aevsF T a, aevsF T b with
    | some a, some b => retF (.func fn a b) H
    | _, _ => none
noncomputable def f_mkm  (E : EnvD) (T : Tmps) (H : AHeap) : Option (AOut × AHeap) :=
  retF (.mapv (some H.next)) (hnewF H (.map []))
noncomputable def f_mks (bytes : Nat) (z : Rope AVal) (l : Operand) (c : Operand) (E : EnvD) (T : Tmps) (H : AHeap) : Option (AOut × AHeap) :=
  match aevF T l, aevF T c with
    | some (.int .i64 a), some (.int .i64 b) =>
      if 0 ≤ a && a ≤ b && bytes * b.toNat ≤ 2 ^ 40 && b.toNat ≤ 2 ^ 40 then retF (.slice (some (H.next, 0)) a.toNat b.toNat) (hnewF H (.cells (tileN z b.toNat) 0 true))
      else none
    | _, _ => none
noncomputable def f_sls (s : Nat) (x : Operand) (lo : Option Operand) (hi : Option Operand) (E : EnvD) (T : Tmps) (H : AHeap) : Option (AOut × AHeap) :=
  match aevF T x with
    | some (.slice p n c) => match aboundF T hi n with
      | some h => match aboundF T lo 0 with
        | some l =>
          if l ≤ h && h ≤ c then
            match p with
            | none => retF (.slice none 0 0) H
            | some (i, o) => match hgetF H i with
              | some (.cells _ g _) =>
                if l < c then retF (.slice (some (i, o + l * s)) (h - l) (c - l)) H
                else if g = 0 then retF (.slice (some (i, o)) (h - l) (c - l)) H
                else if l = 0 then retF (.slice (some (i, o)) (h - l) (c - l)) H
                else none
              | _ => none
          else none
        | none => none
      | none => none
    | _ => none
noncomputable def f_sla (n : Nat) (s : Nat) (x : Operand) (lo : Option Operand) (hi : Option Operand) (E : EnvD) (T : Tmps) (H : AHeap) : Option (AOut × AHeap) :=
  match aevF T x with
    | some (.ptr (some (i, o))) => match hgetF H i with
      | some (.cells _ 0 _) => match aboundF T hi n with
        | some h => match aboundF T lo 0 with
          | some l => if l ≤ h && h ≤ n then retF (.slice (some (i, if n = l then o else o + l * s)) (h - l) (n - l)) H else none
          | none => none
        | none => none
      | _ => none
    | _ => none
noncomputable def f_fa (off : Nat) (x : Operand) (E : EnvD) (T : Tmps) (H : AHeap) : Option (AOut × AHeap) :=
  match aevF T x with
    | some (.ptr (some (i, o))) => retF (.ptr (some (i, o + off))) H
    | _ => none
noncomputable def f_fld (agg : Bool) (off : Nat) (s : Nat) (x : Operand) (E : EnvD) (T : Tmps) (H : AHeap) : Option (AOut × AHeap) :=
  match aevF T x with
    | some (.agg r) =>
      if agg then (if off + s ≤ r.size then retF (.agg (r.ext off s)) H else none)
      else match r.get off with
        | some v => retF v H
        | none => none
    | _ => none
noncomputable def f_iaa (n : Nat) (s : Nat) (x : Operand) (i : Operand) (E : EnvD) (T : Tmps) (H : AHeap) : Option (AOut × AHeap) :=
  match aevF T x, aevF T i with
    | some (.ptr (some (b, o))), some v => match anatF v with
      | some k => if k < n then retF (.ptr (some (b, o + k * s))) H else none
      | none => none
    | _, _ => none
noncomputable def f_ias (s : Nat) (x : Operand) (i : Operand) (E : EnvD) (T : Tmps) (H : AHeap) : Option (AOut × AHeap) :=
  match aevF T x, aevF T i with
    | some (.slice (some (b, o)) n _), some v => match anatF v with
      | some k => if k < n then retF (.ptr (some (b, o + k * s))) H else none
      | none => none
    | _, _ => none
noncomputable def f_ixa (n : Nat) (agg : Bool) (s : Nat) (x : Operand) (i : Operand) (E : EnvD) (T : Tmps) (H : AHeap) : Option (AOut × AHeap) :=
  match aevF T x, aevF T i with
    | some (.agg r), some v => match anatF v with
      | some k =>
        if k < n then
          if agg then (if k * s + s ≤ r.size then retF (.agg (r.ext (k * s) s)) H else none)
          else match r.get (k * s) with
            | some v => retF v H
            | none => none
        else none
      | none => none
    | _, _ => none
noncomputable def f_ixs (x : Operand) (i : Operand) (E : EnvD) (T : Tmps) (H : AHeap) : Option (AOut × AHeap) :=
  match aevF T x, aevF T i with
    | some (.str s), some v => match anatF v with
      | some k => match s[k]? with
        | some b => retF (.int .u8 b.toNat) H
        | none => none
      | none => none
    | _, _ => none
noncomputable def f_lkp (k : IntKind) (z : AVal) (ok : Bool) (x : Operand) (i : Operand) (E : EnvD) (T : Tmps) (H : AHeap) : Option (AOut × AHeap) :=
  match aevF T x, aevF T i with
    | some (.mapv m), some v => match aintF k v with
      | some n =>
        match hfindF H k n m with
        | some (some u) => retF (if ok then .tup [u, .bool true] else u) H
        | some none => retF (if ok then .tup [z, .bool false] else z) H
        | none => none
      | none => none
    | _, _ => none
noncomputable def f_mup (k : IntKind) (m : Operand) (i : Operand) (v : Operand) (E : EnvD) (T : Tmps) (H : AHeap) : Option (AOut × AHeap) :=
  match aevF T m, aevF T i, aevF T v with
    | some (.mapv (some b)), some key, some x => match aintF k key with
      | some n => match hgetF H b with
        | some (.map es) => match aput k n x es with
          | some es' => retF AVal.undef (hputF H b (.map es'))
          | none => none
        | _ => none
      | none => none
    | _, _, _ => none
noncomputable def f_tas (t : TypeId) (ok : Bool) (z : AVal) (x : Operand) (E : EnvD) (T : Tmps) (H : AHeap) : Option (AOut × AHeap) :=
  match aevF T x with
    | some (.iface u v) =>
      if u = t then retF (if ok then .tup [v, .bool true] else v) H
      else if ok then retF (.tup [z, .bool false]) H else none
    | some .nilIface => if ok then retF (.tup [z, .bool false]) H else none
    | _ => none
noncomputable def f_ext (x : Operand) (i : Nat) (E : EnvD) (T : Tmps) (H : AHeap) : Option (AOut × AHeap) :=
  match aevF T x with
    | some (.tup l) => match l[i]? with
      | some v => retF v H
      | none => none
    | _ => none
noncomputable def f_call (f : FuncId) (args : List Operand) (E : EnvD) (T : Tmps) (H : AHeap) : Option (AOut × AHeap) :=
  match aevsF T args with
    | some l => if E.isF f then some (.enter f l, H) else none
    | none => none
noncomputable def f_clv (f : Operand) (args : List Operand) (E : EnvD) (T : Tmps) (H : AHeap) : Option (AOut × AHeap) :=
  match aevF T f, aevsF T args with
    | some g, some l => match acallee E g l with
      | some (f, l) => some (.enter f l, H)
      | none => none
    | _, _ => none
noncomputable def f_inv (name : String) (r : Operand) (args : List Operand) (E : EnvD) (T : Tmps) (H : AHeap) : Option (AOut × AHeap) :=
  match aevF T r, aevsF T args with
    | some (.iface t v), some l => match E.meth t name with
      | some f => some (.enter f (v :: l), H)
      | none => none
    | _, _ => none
noncomputable def f_len (k : LK) (x : Operand) (E : EnvD) (T : Tmps) (H : AHeap) : Option (AOut × AHeap) :=
  match k, aevF T x with
    | .arr n, some _ => retF (.int .i64 n) H
    | .sl, some (.slice _ n _) => retF (.int .i64 n) H
    | .st, some (.str s) => retF (.int .i64 s.size) H
    | _, _ => none
noncomputable def f_app (s : Nat) (bytes : Nat) (x : Operand) (y : Operand) (E : EnvD) (T : Tmps) (H : AHeap) : Option (AOut × AHeap) :=
  match aevF T x, aevF T y with
    | some (.slice p n c), some (.slice q m _) =>
      -- what is appended
      match hsrcF H q (m * s) with
      | none => none
      | some new =>
        if m = 0 then (if n ≤ c then retF (.slice p n c) H else none)
        else if (n + m) * bytes ≤ 2 ^ 40 && (n + m) ≤ 2 ^ 40 && n ≤ c && s ≠ 0 then
          match p with
          | none => retF (.slice (some (H.next, 0)) m m) (hnewF H (.cells new s true))
          | some (i, o) => match hgetF H i with
            | some (.cells r g w) =>
              if n + m ≤ c then (match hstoreF H i (o + n * s) new with
                | some H' => retF (.slice (some (i, o)) (n + m) c) H'
                | none => none)
              else match hloadNF H i o (n * s) with
                | none => none
                | some old =>
                  if g = 0 then retF (.slice (some (H.next, 0)) (n + m) (n + m)) (hnewF H (.cells (old.cat new) s true))
                  else if w && (g == s) && (o + c * s == r.size) && (c == n) then retF (.slice (some (H.next, 0)) (n + m) (n + m)) (hnewF (hkillF H i) (.cells (old.cat new) s true))
                  else none
            | _ => none
        else none
    | _, _ => none
noncomputable def f_cpy (s : Nat) (x : Operand) (y : Operand) (E : EnvD) (T : Tmps) (H : AHeap) : Option (AOut × AHeap) :=
  match aevF T x, aevF T y with
    | some (.slice p n _), some (.slice q m _) =>
      match hsrcF H q (min m n * s) with
      | none => none
      | some new =>
        match p with
        | none => retF (.int .i64 (min m n : Nat)) H
        | some (i, o) => match hstoreF H i o new with
          | some H' => retF (.int .i64 (min m n : Nat)) H'
          | none => none
    | _, _ => none
noncomputable def f_mnx (isMax : Bool) (x : Operand) (y : Operand) (E : EnvD) (T : Tmps) (H : AHeap) : Option (AOut × AHeap) :=
  match aevF T x, aevF T y with
    | some (.int k a), some (.int k' b) =>
      if k = k' then retF (.int k (if isMax then (if b > a then b else a) else (if b < a then b else a))) H else none
    | _, _ => none
noncomputable def f_del (_x0 : IntKind) (_x1 : Operand) (_x2 : Operand) (E : EnvD) (T : Tmps) (H : AHeap) : Option (AOut × AHeap) :=
  none
noncomputable def f_dfr (f : Operand) (args : List Operand) (E : EnvD) (T : Tmps) (H : AHeap) : Option (AOut × AHeap) :=
  match aevF T f, aevsF T args with
    | some g, some l => match acallee E g l with
      | some (f, l) => some (.defer f l, H)
      | none => none
    | _, _ => none
noncomputable def f_pnc (x : Operand) (E : EnvD) (T : Tmps) (H : AHeap) : Option (AOut × AHeap) :=
  match aevF T x with
    | some (.iface t v) => some (.panic (.iface t v), H)
    | _ => none
noncomputable def f_rcv  (E : EnvD) (T : Tmps) (H : AHeap) : Option (AOut × AHeap) :=
  some (.recov, H)
noncomputable def f_bad  (E : EnvD) (T : Tmps) (H : AHeap) : Option (AOut × AHeap) :=
  none

/-- One operation, by its kind: each kind is a function of its own, so that little is copied where the kernel runs it. -/
noncomputable def disp (op : AOp) : EnvD → Tmps → AHeap → Option (AOut × AHeap) :=
  @AOp.rec (fun _ => EnvD → Tmps → AHeap → Option (AOut × AHeap)) f_mov f_pick f_new f_box f_build f_bsl f_ldc f_ldr f_sto f_nilc f_bin f_una f_cvt f_mki f_mkf f_mkm f_mks f_sls f_sla f_fa f_fld f_iaa f_ias f_ixa f_ixs f_lkp f_mup f_tas f_ext f_call f_clv f_inv f_len f_app f_cpy f_mnx f_del f_dfr f_pnc f_rcv f_bad op

theorem disp_eq (E : EnvD) (T : Tmps) (H : AHeap) (op : AOp) : disp op E T H = aop E T H op := by
  cases op <;> (try simp only [disp, f_mov, f_pick, f_new, f_box, f_build, f_bsl, f_ldc, f_ldr, f_sto, f_nilc, f_bin, f_una, f_cvt, f_mki, f_mkf, f_mkm, f_mks, f_sls, f_sla, f_fa, f_fld, f_iaa, f_ias, f_ixa, f_ixs, f_lkp, f_mup, f_tas, f_ext, f_call, f_clv, f_inv, f_len, f_app, f_cpy, f_mnx, f_del, f_dfr, f_pnc, f_rcv, f_bad, aop, aevF_eq, aevsF_eq, retF_eq, abinF_eq, hload1F_eq, hloadNF_eq, hstoreF_eq, hsrcF_eq, anatF_eq, aintF_eq, hgetF_eq, hputF_eq, hnewF_eq, hkillF_eq, hfindF_eq, fillAF_eq, aboundF_eq]) <;> rfl
end Go.Sim
