/- A part of the proof that LockParts returns true for every input. No condition. -/
import Derived.Test.YtdppeaciahdekaaGreatG00
set_option linter.all false
section
namespace Go.Sim
noncomputable def fNat {β : Type} (n : Nat) (K : Nat → β) : β := @Nat.rec (fun _ => β) (K 0) (fun m _ => K (Nat.succ m)) n
theorem fNat_eq {β : Type} (n : Nat) (K : Nat → β) : fNat n K = K n := by cases n <;> rfl
noncomputable def fInt {β : Type} (n : Int) (K : Int → β) : β := @Int.rec (fun _ => β) (fun m => fNat m fun m => K (Int.ofNat m)) (fun m => fNat m fun m => K (Int.negSucc m)) n
theorem fInt_eq {β : Type} (n : Int) (K : Int → β) : fInt n K = K n := by cases n <;> simp only [fInt, fNat_eq]
noncomputable def fLoc {β : Type} (p : Option (Nat × Nat)) (K : Option (Nat × Nat) → β) : β :=
 @Option.rec (Nat × Nat) (fun _ => β) (K none) (fun q => @Prod.rec Nat Nat (fun _ => β) (fun i o => fNat i fun i => fNat o fun o => K (some (i, o))) q) p
theorem fLoc_eq {β : Type} (p : Option (Nat × Nat)) (K : Option (Nat × Nat) → β) : fLoc p K = K p := by
 cases p with
 | none => rfl
 | some q => obtain ⟨i, o⟩ := q; simp only [fLoc, fNat_eq]
noncomputable def fVal {β : Type} (v : AVal) (K : AVal → β) : β :=
 match v with
 | .int k n => fInt n fun n => K (.int k n)
 | .ptr p => fLoc p fun p => K (.ptr p)
 | .slice p n c => fLoc p fun p => fNat n fun n => fNat c fun c => K (.slice p n c)
 | .mapv (some r) => fNat r fun r => K (.mapv (some r))
 | .bool b => @Bool.rec (fun _ => β) (K (.bool false)) (K (.bool true)) b
 | v => K v
theorem fVal_eq {β : Type} (v : AVal) (K : AVal → β) : fVal v K = K v := by
 unfold fVal
 split <;> (try simp only [fInt_eq, fLoc_eq, fNat_eq])
 rename_i b; cases b <;> rfl
noncomputable def getF {α : Type} (p : List Bool) : Trie α → Option α :=
 @List.rec Bool (fun _ => Trie α → Option α) (fun t => @Trie.rec α (fun _ => Option α) none (fun _ v _ _ _ => v) t)
  (fun b _ ih t => @Trie.rec α (fun _ => Option α) none (fun l _ r _ _ => @Bool.rec (fun _ => Option α) (ih l) (ih r) b) t) p
theorem getF_eq {α : Type} : ∀ (p : List Bool) (t : Trie α), getF p t = t.getP p
 | [], t => by cases t <;> rfl
 | b :: p, t => by
  have ih := getF_eq (α := α) p
  cases t with
  | leaf => rfl
  | node l v r => cases b <;> exact ih _
noncomputable def setF {α : Type} (p : List Bool) (x : Option α) : Trie α → Trie α :=
 @List.rec Bool (fun _ => Trie α → Trie α)
  (fun t => @Trie.rec α (fun _ => Trie α) (.node .leaf x .leaf) (fun l _ r _ _ => .node l x r) t)
  (fun b _ ih t => @Bool.rec (fun _ => Trie α)
   (@Trie.rec α (fun _ => Trie α) (.node (ih .leaf) none .leaf) (fun l v r _ _ => .node (ih l) v r) t)
   (@Trie.rec α (fun _ => Trie α) (.node .leaf none (ih .leaf)) (fun l v r _ _ => .node l v (ih r)) t) b) p
theorem setF_eq {α : Type} : ∀ (p : List Bool) (x : Option α) (t : Trie α), setF p x t = t.setP p x
 | [], x, t => by cases t <;> rfl
 | b :: p, x, t => by
  have ih := setF_eq (α := α) p x
  cases t <;> cases b <;> simp only [Trie.setP, ← ih] <;> rfl
noncomputable def tgetF (T : Tmps) (t : Nat) : AVal := @Option.rec AVal (fun _ => AVal) AVal.undef (fun v => v) (getF (bits t) T)
theorem tgetF_eq (T : Tmps) (t : Nat) : tgetF T t = tget T t := by
 unfold tgetF tget Trie.get
 rw [getF_eq]
 cases Trie.getP T (bits t) <;> rfl
noncomputable def aevF (T : Tmps) (x : Operand) : Option AVal :=
 @Operand.rec (fun _ => Option AVal) (fun t => some (tgetF T t)) (fun v => cval v) (fun _ => none) (fun f => some (.func (.func f) [] [])) x
theorem aevF_eq (T : Tmps) (x : Operand) : aevF T x = aev T x := by
 cases x <;> first | rfl | (simp only [aevF, aev, tgetF_eq])
noncomputable def aevsF (T : Tmps) (l : List Operand) : Option (List AVal) :=
 @List.rec Operand (fun _ => Option (List AVal)) (some []) (fun x _ ih => @Option.rec AVal (fun _ => Option (List AVal)) none (fun v => fVal v fun v => @Option.rec (List AVal) (fun _ => Option (List AVal)) none (fun vs => some (v :: vs)) ih) (aevF T x)) l
theorem aevsF_eq (T : Tmps) : ∀ l, aevsF T l = aevs T l
 | [] => rfl
 | x :: l => by
  have ih := aevsF_eq T l
  show @Option.rec AVal (fun _ => Option (List AVal)) none (fun v => fVal v fun v => @Option.rec (List AVal) (fun _ => Option (List AVal)) none (fun vs => some (v :: vs)) (aevsF T l)) (aevF T x) = _
  rw [ih, aevF_eq]
  simp only [aevs]
  cases aev T x with
  | none => rfl
  | some v => simp only [fVal_eq]; cases aevs T l <;> rfl
noncomputable def hgetF (H : AHeap) (i : Nat) : Option ABlk := fNat i fun i => getF (bits i) H.tree
theorem hgetF_eq (H : AHeap) (i : Nat) : hgetF H i = H.get i := by simp only [hgetF, fNat_eq, getF_eq]; rfl
noncomputable def hputF (H : AHeap) (i : Nat) (b : ABlk) : AHeap := ⟨H.next, fNat i fun i => setF (bits i) (some b) H.tree⟩
theorem hputF_eq (H : AHeap) (i : Nat) (b : ABlk) : hputF H i b = H.put i b := by simp only [hputF, fNat_eq, setF_eq]; rfl
noncomputable def hkillF (H : AHeap) (i : Nat) : AHeap := ⟨H.next, fNat i fun i => setF (bits i) none H.tree⟩
theorem hkillF_eq (H : AHeap) (i : Nat) : hkillF H i = H.kill i := by simp only [hkillF, fNat_eq, setF_eq]; rfl
noncomputable def hnewF (H : AHeap) (b : ABlk) : AHeap := fNat H.next fun n => ⟨Nat.succ n, setF (bits n) (some b) H.tree⟩
theorem hnewF_eq (H : AHeap) (b : ABlk) : hnewF H b = H.new b := by simp only [hnewF, fNat_eq, setF_eq]; rfl
noncomputable def anatF (v : AVal) : Option Nat :=
 match v with
 | .int _ n => @Int.rec (fun _ => Option Nat) (fun m => some m) (fun _ => none) n
 | _ => none
theorem anatF_eq (v : AVal) : anatF v = anat v := by
 cases v <;> try rfl
 rename_i k n
 cases n with
 | ofNat m => simp [anatF, anat]
 | negSucc m => simp [anatF, anat]
noncomputable def retF (v : AVal) (H : AHeap) : Option (AOut × AHeap) := fVal v fun v => some (.val v, H)
theorem retF_eq (v : AVal) (H : AHeap) : retF v H = ret v H := by rw [retF, fVal_eq]; rfl
noncomputable def hload1F (H : AHeap) (i o : Nat) : Option AVal :=
 match hgetF H i with
 | some (.cells r _ _) => fNat o fun o => r.get o
 | _ => none
theorem hload1F_eq (H : AHeap) (i o : Nat) : hload1F H i o = hload1 H i o := by simp only [hload1F, hload1, hgetF_eq, fNat_eq]; rfl
noncomputable def hloadNF (H : AHeap) (i o n : Nat) : Option (Rope AVal) :=
 match hgetF H i with
 | some (.cells r _ _) => fNat o fun o => fNat n fun n => if o + n ≤ r.size then some (r.ext o n) else none
 | _ => none
theorem hloadNF_eq (H : AHeap) (i o n : Nat) : hloadNF H i o n = hloadN H i o n := by simp only [hloadNF, hloadN, hgetF_eq, fNat_eq]; rfl
noncomputable def hstoreF (H : AHeap) (i o : Nat) (c : Rope AVal) : Option AHeap :=
 match hgetF H i with
 | some (.cells r g true) => fNat o fun o => if o + c.size ≤ r.size then some (hputF H i (.cells (putAll r o c) g true)) else none
 | _ => none
theorem hstoreF_eq (H : AHeap) (i o : Nat) (c : Rope AVal) : hstoreF H i o c = hstore H i o c := by simp only [hstoreF, hstore, hgetF_eq, hputF_eq, fNat_eq]; rfl
noncomputable def hsrcF (H : AHeap) (q : Option (Nat × Nat)) (n : Nat) : Option (Rope AVal) :=
 match q with
 | none => some (.lst [])
 | some (j, o) => if n = 0 then some (.lst []) else hloadNF H j o n
theorem hsrcF_eq (H : AHeap) (q : Option (Nat × Nat)) (n : Nat) : hsrcF H q n = hsrc H q n := by
 unfold hsrcF hsrc; split <;> (try simp only [hloadNF_eq])
noncomputable def hfindF (H : AHeap) (k : IntKind) (n : Int) (m : Option Nat) : Option (Option AVal) :=
 match m with
 | none => some none
 | some b => match hgetF H b with
  | some (.map es) => afind k n es
  | some (.pmap es) => if nodupK k es then afind k n es else none
  | _ => none
theorem hfindF_eq (H : AHeap) (k : IntKind) (n : Int) (m : Option Nat) : hfindF H k n m = hfind H k n m := by
 unfold hfindF hfind; split <;> (try simp only [hgetF_eq]) <;> rfl
noncomputable def aboundF (T : Tmps) (x : Option Operand) (d : Nat) : Option Nat :=
 match x with
 | none => some d
 | some x => match aevF T x with
  | some v => anatF v
  | none => none
theorem aboundF_eq (T : Tmps) (x : Option Operand) (d : Nat) : aboundF T x d = abound T x d := by
 unfold aboundF abound; split <;> (try simp only [aevF_eq, anatF_eq]) <;> rfl
noncomputable def fillAF (T : Tmps) (z : Rope AVal) : List (Nat × Nat × Operand) → Option (Rope AVal)
 | [] => some z
 | (o, s, x) :: ps => match aevF T x with
  | some v => match v.cells with
   | some c => if c.size = s && (o + s ≤ z.size) then fillAF T (putAll z o c) ps else none
   | none => none
  | none => none
theorem fillAF_eq (T : Tmps) : ∀ (ps : List (Nat × Nat × Operand)) (z : Rope AVal), fillAF T z ps = fillA T z ps
 | [], z => rfl
 | (o, s, x) :: ps, z => by simp only [fillAF, fillA, aevF_eq, fillAF_eq T ps]; rfl
noncomputable def aintF (k : IntKind) : AVal → Option Int
 | .int k' n => if k' = k then some n else none
 | _ => none
theorem aintF_eq (k : IntKind) (v : AVal) : aintF k v = aint k v := by cases v <;> rfl
noncomputable def limF (k : IntKind) : Nat := @IntKind.rec (fun _ => Nat) 128 32768 2147483648 9223372036854775808 256 65536 4294967296 18446744073709551616 k
theorem wrap_lim (k : IntKind) {c : Nat} (h : c < limF k) : k.wrap (c : Int) = c := by
 cases k <;> simp only [limF] at h <;> simp only [IntKind.wrap, IntKind.bits, IntKind.signed] <;> simp <;> omega
noncomputable def inLim (k : IntKind) (c : Nat) (slow : Option AVal) : Option AVal := @Bool.rec (fun _ => Option AVal) slow (fNat c fun c => some (.int k (Int.ofNat c))) (Nat.blt c (limF k))
theorem inLim_eq {k : IntKind} {c : Nat} {slow : Option AVal} (h : c < limF k → slow = some (.int k (Int.ofNat c))) : inLim k c slow = slow := by
 unfold inLim
 cases e : Nat.blt c (limF k) with
 | false => rfl
 | true =>
  rw [h (by simpa [Nat.blt_eq] using e)]
  simp only [fNat_eq]
noncomputable def ifB (b : Bool) (x y : Option AVal) : Option AVal := @Bool.rec (fun _ => Option AVal) y x b
theorem ifB_eq {b : Bool} {x y : Option AVal} (h : b = true → x = y) : ifB b x y = y := by cases b <;> first | rfl | exact h rfl
noncomputable def natBin (op : BinOp) (k : IntKind) (a b : Nat) (slow : Option AVal) : Option AVal :=
 @BinOp.rec (fun _ => Option AVal)
  (inLim k (Nat.add a b) slow)
  (ifB (Nat.ble b a) (inLim k (Nat.sub a b) slow) slow)
  (inLim k (Nat.mul a b) slow)
  (ifB (Nat.blt 0 b) (inLim k (Nat.div a b) slow) slow)
  (ifB (Nat.blt 0 b) (inLim k (Nat.mod a b) slow) slow)
  (ifB (Nat.blt a (limF k)) (ifB (Nat.blt b (limF k)) (inLim k (Nat.land a b) slow) slow) slow)
  (ifB (Nat.blt a (limF k)) (ifB (Nat.blt b (limF k)) (inLim k (Nat.lor a b) slow) slow) slow)
  (ifB (Nat.blt a (limF k)) (ifB (Nat.blt b (limF k)) (inLim k (Nat.xor a b) slow) slow) slow)
  slow slow slow
  (some (.bool (Nat.beq a b))) (some (.bool (not (Nat.beq a b)))) (some (.bool (Nat.blt a b))) (some (.bool (Nat.ble a b))) (some (.bool (Nat.blt b a))) (some (.bool (Nat.ble b a))) op
theorem lim_bits (k : IntKind) : limF k ≤ 2 ^ k.bits := by cases k <;> simp [limF, IntKind.bits]
theorem ofInt_lim {k : IntKind} {a : Nat} (h : a < limF k) : (BitVec.ofInt k.bits (Int.ofNat a)).toNat = a := by
 have := lim_bits k
 show (BitVec.ofInt k.bits (a : Int)).toNat = a
 simp only [BitVec.ofInt_natCast, BitVec.toNat_ofNat]
 exact Nat.mod_eq_of_lt (by omega)
theorem decide_blt (a b : Nat) : decide ((Int.ofNat a : Int) < Int.ofNat b) = Nat.blt a b := by
 rw [Bool.eq_iff_iff]; simp [Nat.blt_eq]
theorem decide_ble (a b : Nat) : decide ((Int.ofNat a : Int) ≤ Int.ofNat b) = Nat.ble a b := by
 rw [Bool.eq_iff_iff]; simp [Nat.ble_eq]
theorem beq_nat (a b : Nat) : ((Int.ofNat a : Int) == Int.ofNat b) = Nat.beq a b := by
 rw [Bool.eq_iff_iff]; simp [Nat.beq_eq]; omega
theorem natBin_eq (op : BinOp) (k : IntKind) (a b : Nat) (h1 : op ≠ .shl) (h2 : op ≠ .shr) : natBin op k a b (intBin op k (Int.ofNat a) (Int.ofNat b)) = intBin op k (Int.ofNat a) (Int.ofNat b) := by
 cases op
 case shl => exact absurd rfl h1
 case shr => exact absurd rfl h2
 case add => exact inLim_eq fun h => by simp only [intBin]; rw [show (Int.ofNat a + Int.ofNat b) = ((Nat.add a b : Nat) : Int) from rfl, wrap_lim k h]; rfl
 case sub =>
  refine ifB_eq fun hb => inLim_eq fun h => ?_
  have hb' : b ≤ a := Nat.le_of_ble_eq_true hb
  simp only [intBin]
  rw [show (Int.ofNat a - Int.ofNat b) = ((Nat.sub a b : Nat) : Int) from by show ((a : Int) - (b : Int)) = ((a - b : Nat) : Int); omega, wrap_lim k h]; rfl
 case mul => exact inLim_eq fun h => by simp only [intBin]; rw [show (Int.ofNat a * Int.ofNat b) = ((Nat.mul a b : Nat) : Int) from rfl, wrap_lim k h]; rfl
 case quo =>
  refine ifB_eq fun hb => inLim_eq fun h => ?_
  have hb' : 0 < b := by simpa [Nat.blt_eq] using hb
  simp only [intBin]
  rw [if_neg (by show ¬ ((b : Int) = 0); omega), show (Int.ofNat a).tdiv (Int.ofNat b) = ((Nat.div a b : Nat) : Int) from rfl, wrap_lim k h]; rfl
 case rem =>
  refine ifB_eq fun hb => inLim_eq fun h => ?_
  have hb' : 0 < b := by simpa [Nat.blt_eq] using hb
  simp only [intBin]
  rw [if_neg (by show ¬ ((b : Int) = 0); omega)]
  rfl
 case and =>
  refine ifB_eq fun ha => ifB_eq fun hb => inLim_eq fun h => ?_
  have ha : a < limF k := by simpa [Nat.blt_eq] using ha
  have hb : b < limF k := by simpa [Nat.blt_eq] using hb
  simp only [intBin, BitVec.toNat_and, ofInt_lim ha, ofInt_lim hb]
  rw [show a &&& b = Nat.land a b from rfl, wrap_lim k h]; rfl
 case or =>
  refine ifB_eq fun ha => ifB_eq fun hb => inLim_eq fun h => ?_
  have ha : a < limF k := by simpa [Nat.blt_eq] using ha
  have hb : b < limF k := by simpa [Nat.blt_eq] using hb
  simp only [intBin, BitVec.toNat_or, ofInt_lim ha, ofInt_lim hb]
  rw [show a ||| b = Nat.lor a b from rfl, wrap_lim k h]; rfl
 case xor =>
  refine ifB_eq fun ha => ifB_eq fun hb => inLim_eq fun h => ?_
  have ha : a < limF k := by simpa [Nat.blt_eq] using ha
  have hb : b < limF k := by simpa [Nat.blt_eq] using hb
  simp only [intBin, BitVec.toNat_xor, ofInt_lim ha, ofInt_lim hb]
  rw [show a ^^^ b = Nat.xor a b from rfl, wrap_lim k h]; rfl
 case andNot => rfl
 case eql => simp only [intBin, beq_nat]; rfl
 case neq => simp only [intBin, bne, beq_nat]; rfl
 case lss => simp only [intBin, decide_blt]; rfl
 case leq => simp only [intBin, decide_ble]; rfl
 case gtr => simp only [intBin, gt_iff_lt, decide_blt]; rfl
 case geq => simp only [intBin, ge_iff_le, decide_ble]; rfl
theorem lim_inj {k k' : IntKind} (h : Nat.beq (limF k) (limF k') = true) : k = k' := by
 have := Nat.eq_of_beq_eq_true h
 cases k <;> cases k' <;> simp [limF] at this <;> rfl
noncomputable def notShift (op : BinOp) : Bool := @BinOp.rec (fun _ => Bool) true true true true true true true true false false true true true true true true true op
noncomputable def abinF (op : BinOp) (k : Kd) (c : Bool) (x y : AVal) : Option AVal :=
 match x with
 | .int k1 a => (match y with
  | .int k2 b => @Int.rec (fun _ => Option AVal) (fun a => @Int.rec (fun _ => Option AVal) (fun b => ifB (Nat.beq (limF k1) (limF k2)) (ifB (notShift op) (natBin op k1 a b (intBin op k1 (Int.ofNat a) (Int.ofNat b))) (abin op k c (.int k1 (Int.ofNat a)) (.int k2 (Int.ofNat b)))) (abin op k c (.int k1 (Int.ofNat a)) (.int k2 (Int.ofNat b))))
    (fun b => abin op k c (.int k1 (Int.ofNat a)) (.int k2 (Int.negSucc b))) b) (fun a => abin op k c (.int k1 (Int.negSucc a)) (.int k2 b)) a
  | y => abin op k c (.int k1 a) y)
 | x => abin op k c x y
theorem abinF_eq (op : BinOp) (k : Kd) (c : Bool) (x y : AVal) : abinF op k c x y = abin op k c x y := by
 cases x <;> try rfl
 rename_i k1 a
 cases y <;> try rfl
 rename_i k2 b
 cases a with
 | negSucc a => rfl
 | ofNat a =>
  cases b with
  | negSucc b => rfl
  | ofNat b =>
   show ifB (Nat.beq (limF k1) (limF k2)) (ifB (notShift op) (natBin op k1 a b (intBin op k1 (Int.ofNat a) (Int.ofNat b))) (abin op k c (.int k1 (Int.ofNat a)) (.int k2 (Int.ofNat b)))) (abin op k c (.int k1 (Int.ofNat a)) (.int k2 (Int.ofNat b))) = _
   refine ifB_eq fun h => ?_
   have := lim_inj h
   subst this
   refine ifB_eq fun hs => ?_
   have h1 : op ≠ .shl := by rintro rfl; cases hs
   have h2 : op ≠ .shr := by rintro rfl; cases hs
   rw [natBin_eq op k1 a b h1 h2]
   cases op <;> first | exact absurd rfl h1 | exact absurd rfl h2 | simp [abin]
noncomputable def f_mov (x : Operand) (E : EnvD) (T : Tmps) (H : AHeap) : Option (AOut × AHeap) :=
 match aevF T x with
  | some v => retF v H
  | none => none
noncomputable def f_pick (c : Operand) (a : Operand) (b : Operand) (E : EnvD) (T : Tmps) (H : AHeap) : Option (AOut × AHeap) :=
 match aevF T c with
  | some (.bool true) => match aevF T a with | some v => (match aevF T b with | some _ => retF v H | none => none) | none => none
  | some (.bool false) => match aevF T b with | some v => (match aevF T a with | some _ => retF v H | none => none) | none => none
  | _ => none
noncomputable def f_new (z : Rope AVal) (E : EnvD) (T : Tmps) (H : AHeap) : Option (AOut × AHeap) :=
 retF (.ptr (some (H.next, 0))) (hnewF H (.cells z 0 true))
noncomputable def f_box (x : Operand) (E : EnvD) (T : Tmps) (H : AHeap) : Option (AOut × AHeap) :=
 match aevF T x with
  | some v => match v.cells with
   | some c => retF (.ptr (some (H.next, 0))) (hnewF H (.cells c 0 true))
   | none => none
  | none => none
noncomputable def f_build (z : Rope AVal) (ps : List (Nat × Nat × Operand)) (E : EnvD) (T : Tmps) (H : AHeap) : Option (AOut × AHeap) :=
 match fillAF T z ps with
  | some c => retF (.agg c) H
  | none => none
noncomputable def f_bsl (n : Nat) (z : Rope AVal) (ps : List (Nat × Nat × Operand)) (E : EnvD) (T : Tmps) (H : AHeap) : Option (AOut × AHeap) :=
 match fillAF T z ps with
  | some c => retF (.slice (some (H.next, 0)) n n) (hnewF H (.cells c 0 true))
  | none => none
noncomputable def f_ldc (x : Operand) (E : EnvD) (T : Tmps) (H : AHeap) : Option (AOut × AHeap) :=
 match aevF T x with
  | some (.ptr (some (i, o))) => match hload1F H i o with
   | some v => retF v H
   | none => none
  | _ => none
noncomputable def f_ldr (n : Nat) (x : Operand) (E : EnvD) (T : Tmps) (H : AHeap) : Option (AOut × AHeap) :=
 match aevF T x with
  | some (.ptr (some (i, o))) => match hloadNF H i o n with
   | some c => retF (.agg c) H
   | none => none
  | _ => none
noncomputable def f_sto (n : Nat) (a : Operand) (v : Operand) (E : EnvD) (T : Tmps) (H : AHeap) : Option (AOut × AHeap) :=
 match aevF T a, aevF T v with
  | some (.ptr (some (i, o))), some x => match x.cells with
   | some c => if c.size = n then (match hstoreF H i o c with
     | some H' => retF AVal.undef H'
     | none => none) else none
   | none => none
  | _, _ => none
noncomputable def f_nilc (x : Operand) (E : EnvD) (T : Tmps) (H : AHeap) : Option (AOut × AHeap) :=
 match aevF T x with
  | some (.ptr (some p)) => retF (.ptr (some p)) H
  | some (.func (.func f) a b) => retF (.func (.func f) a b) H
  | some (.iface t v) => retF (.iface t v) H
  | _ => none
noncomputable def f_bin (op : BinOp) (k : Kd) (c : Bool) (x : Operand) (y : Operand) (E : EnvD) (T : Tmps) (H : AHeap) : Option (AOut × AHeap) :=
 match aevF T x, aevF T y with
  | some a, some b => match abinF op k c a b with
   | some v => retF v H
   | none => none
  | _, _ => none
noncomputable def f_una (op : UnOp) (x : Operand) (E : EnvD) (T : Tmps) (H : AHeap) : Option (AOut × AHeap) :=
 match aevF T x with
  | some a => match aun op a with
   | some v => retF v H
   | none => none
  | none => none
noncomputable def f_cvt (k : IntKind) (x : Operand) (E : EnvD) (T : Tmps) (H : AHeap) : Option (AOut × AHeap) :=
 match aevF T x with
  | some (.int _ n) => retF (.int k (k.wrap n)) H
  | _ => none
noncomputable def f_mki (t : TypeId) (x : Operand) (E : EnvD) (T : Tmps) (H : AHeap) : Option (AOut × AHeap) :=
 match aevF T x with
  | some v => retF (.iface t v) H
  | none => none
noncomputable def f_mkf (fn : Fn) (a : List Operand) (b : List Operand) (E : EnvD) (T : Tmps) (H : AHeap) : Option (AOut × AHeap) :=
 match aevsF T a, aevsF T b with
  | some a, some b => retF (.func fn a b) H
  | _, _ => none
noncomputable def f_mkm  (E : EnvD) (T : Tmps) (H : AHeap) : Option (AOut × AHeap) :=
 retF (.mapv (some H.next)) (hnewF H (.map []))
noncomputable def f_mks (bytes : Nat) (z : Rope AVal) (l : Operand) (c : Operand) (E : EnvD) (T : Tmps) (H : AHeap) : Option (AOut × AHeap) :=
 match aevF T l, aevF T c with
  | some (.int .i64 a), some (.int .i64 b) =>
   if 0 ≤ a && a ≤ b && bytes * b.toNat ≤ 2 ^ 40 && b.toNat ≤ 2 ^ 40 then retF (.slice (some (H.next, 0)) a.toNat b.toNat) (hnewF H (.cells (tileN z b.toNat) 0 true))
   else none
  | _, _ => none
noncomputable def f_sls (s : Nat) (x : Operand) (lo : Option Operand) (hi : Option Operand) (E : EnvD) (T : Tmps) (H : AHeap) : Option (AOut × AHeap) :=
 match aevF T x with
  | some (.slice p n c) => match aboundF T hi n with
   | some h => match aboundF T lo 0 with
    | some l =>
     if l ≤ h && h ≤ c then
      match p with
      | none => retF (.slice none 0 0) H
      | some (i, o) => if l = 0 then retF (.slice (some (i, o)) (h - l) (c - l)) H else match hgetF H i with
       | some (.cells _ g _) =>
        if l < c then retF (.slice (some (i, o + l * s)) (h - l) (c - l)) H
        else if g = 0 then retF (.slice (some (i, o)) (h - l) (c - l)) H
        else if l = 0 then retF (.slice (some (i, o)) (h - l) (c - l)) H
        else none
       | _ => none
     else none
    | none => none
   | none => none
  | _ => none
noncomputable def f_sla (n : Nat) (s : Nat) (x : Operand) (lo : Option Operand) (hi : Option Operand) (E : EnvD) (T : Tmps) (H : AHeap) : Option (AOut × AHeap) :=
 match aevF T x with
  | some (.ptr (some (i, o))) => match hgetF H i with
   | some (.cells _ 0 _) => match aboundF T hi n with
    | some h => match aboundF T lo 0 with
     | some l => if l ≤ h && h ≤ n then retF (.slice (some (i, if n = l then o else o + l * s)) (h - l) (n - l)) H else none
     | none => none
    | none => none
   | _ => none
  | _ => none
noncomputable def f_fa (off : Nat) (x : Operand) (E : EnvD) (T : Tmps) (H : AHeap) : Option (AOut × AHeap) :=
 match aevF T x with
  | some (.ptr (some (i, o))) => retF (.ptr (some (i, o + off))) H
  | _ => none
noncomputable def f_fld (agg : Bool) (off : Nat) (s : Nat) (x : Operand) (E : EnvD) (T : Tmps) (H : AHeap) : Option (AOut × AHeap) :=
 match aevF T x with
  | some (.agg r) =>
   if agg then (if off + s ≤ r.size then retF (.agg (r.ext off s)) H else none)
   else match r.get off with
    | some v => retF v H
    | none => none
  | _ => none
noncomputable def f_iaa (n : Nat) (s : Nat) (x : Operand) (i : Operand) (E : EnvD) (T : Tmps) (H : AHeap) : Option (AOut × AHeap) :=
 match aevF T x, aevF T i with
  | some (.ptr (some (b, o))), some v => match anatF v with
   | some k => if k < n then retF (.ptr (some (b, o + k * s))) H else none
   | none => none
  | _, _ => none
noncomputable def f_ias (s : Nat) (x : Operand) (i : Operand) (E : EnvD) (T : Tmps) (H : AHeap) : Option (AOut × AHeap) :=
 match aevF T x, aevF T i with
  | some (.slice (some (b, o)) n _), some v => match anatF v with
   | some k => if k < n then retF (.ptr (some (b, o + k * s))) H else none
   | none => none
  | _, _ => none
noncomputable def f_ixa (n : Nat) (agg : Bool) (s : Nat) (x : Operand) (i : Operand) (E : EnvD) (T : Tmps) (H : AHeap) : Option (AOut × AHeap) :=
 match aevF T x, aevF T i with
  | some (.agg r), some v => match anatF v with
   | some k =>
    if k < n then
     if agg then (if k * s + s ≤ r.size then retF (.agg (r.ext (k * s) s)) H else none)
     else match r.get (k * s) with
      | some v => retF v H
      | none => none
    else none
   | none => none
  | _, _ => none
noncomputable def f_ixs (x : Operand) (i : Operand) (E : EnvD) (T : Tmps) (H : AHeap) : Option (AOut × AHeap) :=
 match aevF T x, aevF T i with
  | some (.str s), some v => match anatF v with
   | some k => match s[k]? with
    | some b => retF (.int .u8 b.toNat) H
    | none => none
   | none => none
  | _, _ => none
noncomputable def f_lkp (k : IntKind) (z : AVal) (ok : Bool) (x : Operand) (i : Operand) (E : EnvD) (T : Tmps) (H : AHeap) : Option (AOut × AHeap) :=
 match aevF T x, aevF T i with
  | some (.mapv m), some v => match aintF k v with
   | some n =>
    match hfindF H k n m with
    | some (some u) => retF (if ok then .tup [u, .bool true] else u) H
    | some none => retF (if ok then .tup [z, .bool false] else z) H
    | none => none
   | none => none
  | _, _ => none
noncomputable def f_mup (k : IntKind) (m : Operand) (i : Operand) (v : Operand) (E : EnvD) (T : Tmps) (H : AHeap) : Option (AOut × AHeap) :=
 match aevF T m, aevF T i, aevF T v with
  | some (.mapv (some b)), some key, some x => match aintF k key with
   | some n => match hgetF H b with
    | some (.map es) => match aput k n x es with
     | some es' => retF AVal.undef (hputF H b (.map es'))
     | none => none
    | _ => none
   | none => none
  | _, _, _ => none
noncomputable def f_tas (t : TypeId) (ok : Bool) (z : AVal) (x : Operand) (E : EnvD) (T : Tmps) (H : AHeap) : Option (AOut × AHeap) :=
 match aevF T x with
  | some (.iface u v) =>
   if u = t then retF (if ok then .tup [v, .bool true] else v) H
   else if ok then retF (.tup [z, .bool false]) H else none
  | some .nilIface => if ok then retF (.tup [z, .bool false]) H else none
  | _ => none
noncomputable def f_ext (x : Operand) (i : Nat) (E : EnvD) (T : Tmps) (H : AHeap) : Option (AOut × AHeap) :=
 match aevF T x with
  | some (.tup l) => match l[i]? with
   | some v => retF v H
   | none => none
  | _ => none
noncomputable def f_call (f : FuncId) (args : List Operand) (E : EnvD) (T : Tmps) (H : AHeap) : Option (AOut × AHeap) :=
 match aevsF T args with
  | some l => if E.isF f then some (.enter f l, H) else none
  | none => none
noncomputable def f_clv (f : Operand) (args : List Operand) (E : EnvD) (T : Tmps) (H : AHeap) : Option (AOut × AHeap) :=
 match aevF T f, aevsF T args with
  | some g, some l => match acallee E g l with
   | some (f, l) => some (.enter f l, H)
   | none => none
  | _, _ => none
noncomputable def f_inv (name : String) (r : Operand) (args : List Operand) (E : EnvD) (T : Tmps) (H : AHeap) : Option (AOut × AHeap) :=
 match aevF T r, aevsF T args with
  | some (.iface t v), some l => match E.meth t name with
   | some f => some (.enter f (v :: l), H)
   | none => none
  | _, _ => none
noncomputable def f_len (k : LK) (x : Operand) (E : EnvD) (T : Tmps) (H : AHeap) : Option (AOut × AHeap) :=
 match k, aevF T x with
  | .arr n, some _ => retF (.int .i64 n) H
  | .sl, some (.slice _ n _) => retF (.int .i64 n) H
  | .sl, some .es => retF (.int .i64 0) H
  | .st, some (.str s) => retF (.int .i64 s.size) H
  | _, _ => none
noncomputable def f_app (s : Nat) (bytes : Nat) (x : Operand) (y : Operand) (E : EnvD) (T : Tmps) (H : AHeap) : Option (AOut × AHeap) :=
 match aevF T x, aevF T y with
  | some (.slice p n c), some (.slice q m _) =>
   -- what is appended
   match hsrcF H q (m * s) with
   | none => none
   | some new =>
    if m = 0 then (if n ≤ c then retF (.slice p n c) H else none)
    else if (n + m) * bytes ≤ 2 ^ 40 && (n + m) ≤ 2 ^ 40 && n ≤ c && s ≠ 0 then
     match p with
     | none => retF (.slice (some (H.next, 0)) m m) (hnewF H (.cells new s true))
     | some (i, o) => match hgetF H i with
      | some (.cells r g w) =>
       if n + m ≤ c then (match hstoreF H i (o + n * s) new with
        | some H' => retF (.slice (some (i, o)) (n + m) c) H'
        | none => none)
       else match hloadNF H i o (n * s) with
        | none => none
        | some old =>
         if g = 0 then retF (.slice (some (H.next, 0)) (n + m) (n + m)) (hnewF H (.cells (old.cat new) s true))
         else if w && (g == s) && (o + c * s == r.size) && (c == n) then retF (.slice (some (H.next, 0)) (n + m) (n + m)) (hnewF (hkillF H i) (.cells (old.cat new) s true))
         else none
      | _ => none
    else none
  | some (.slice p n c), some .es => if n ≤ c then retF (.slice p n c) H else none
  | _, _ => none
noncomputable def f_cpy (s : Nat) (x : Operand) (y : Operand) (E : EnvD) (T : Tmps) (H : AHeap) : Option (AOut × AHeap) :=
 match aevF T x, aevF T y with
  | some (.slice p n _), some (.slice q m _) =>
   match hsrcF H q (min m n * s) with
   | none => none
   | some new =>
    match p with
    | none => retF (.int .i64 (min m n : Nat)) H
    | some (i, o) => match hstoreF H i o new with
     | some H' => retF (.int .i64 (min m n : Nat)) H'
     | none => none
  | some (.slice _ _ _), some .es => retF (.int .i64 0) H
  | _, _ => none
noncomputable def f_mnx (isMax : Bool) (x : Operand) (y : Operand) (E : EnvD) (T : Tmps) (H : AHeap) : Option (AOut × AHeap) :=
 match aevF T x, aevF T y with
  | some (.int k a), some (.int k' b) =>
   if k = k' then retF (.int k (if isMax then (if b > a then b else a) else (if b < a then b else a))) H else none
  | _, _ => none
noncomputable def f_del (_x0 : IntKind) (_x1 : Operand) (_x2 : Operand) (E : EnvD) (T : Tmps) (H : AHeap) : Option (AOut × AHeap) :=
 none
noncomputable def f_dfr (f : Operand) (args : List Operand) (E : EnvD) (T : Tmps) (H : AHeap) : Option (AOut × AHeap) :=
 match aevF T f, aevsF T args with
  | some g, some l => match acallee E g l with
   | some (f, l) => some (.defer f l, H)
   | none => none
  | _, _ => none
noncomputable def f_pnc (x : Operand) (E : EnvD) (T : Tmps) (H : AHeap) : Option (AOut × AHeap) :=
 match aevF T x with
  | some (.iface t v) => some (.panic (.iface t v), H)
  | _ => none
noncomputable def f_rcv  (E : EnvD) (T : Tmps) (H : AHeap) : Option (AOut × AHeap) :=
 some (.recov, H)
noncomputable def f_bad  (E : EnvD) (T : Tmps) (H : AHeap) : Option (AOut × AHeap) :=
 none
noncomputable def disp (op : AOp) : EnvD → Tmps → AHeap → Option (AOut × AHeap) :=
 @AOp.rec (fun _ => EnvD → Tmps → AHeap → Option (AOut × AHeap)) f_mov f_pick f_new f_box f_build f_bsl f_ldc f_ldr f_sto f_nilc f_bin f_una f_cvt f_mki f_mkf f_mkm f_mks f_sls f_sla f_fa f_fld f_iaa f_ias f_ixa f_ixs f_lkp f_mup f_tas f_ext f_call f_clv f_inv f_len f_app f_cpy f_mnx f_del f_dfr f_pnc f_rcv f_bad op
theorem disp_eq (E : EnvD) (T : Tmps) (H : AHeap) (op : AOp) : disp op E T H = aop E T H op := by
 cases op <;> (try simp only [disp, f_mov, f_pick, f_new, f_box, f_build, f_bsl, f_ldc, f_ldr, f_sto, f_nilc, f_bin, f_una, f_cvt, f_mki, f_mkf, f_mkm, f_mks, f_sls, f_sla, f_fa, f_fld, f_iaa, f_ias, f_ixa, f_ixs, f_lkp, f_mup, f_tas, f_ext, f_call, f_clv, f_inv, f_len, f_app, f_cpy, f_mnx, f_del, f_dfr, f_pnc, f_rcv, f_bad, aop, aevF_eq, aevsF_eq, retF_eq, abinF_eq, hload1F_eq, hloadNF_eq, hstoreF_eq, hsrcF_eq, anatF_eq, aintF_eq, hgetF_eq, hputF_eq, hnewF_eq, hkillF_eq, hfindF_eq, fillAF_eq, aboundF_eq]) <;> rfl
end Go.Sim
end
section
namespace Go.Sim
noncomputable def putK {β : Type} (n : Nat) (d : Option Nat) (v : AVal) (T : Tmps) (no : β) (k : Tmps → β) : β :=
 @Option.rec Nat (fun _ => β) (k T) (fun d => @Bool.rec (fun _ => β) no (k (setF (bits d) (some v) T)) (Nat.blt d n)) d
theorem putK_eq {β : Type} (n : Nat) (d : Option Nat) (v : AVal) (T : Tmps) (no : β) (k : Tmps → β) : putK n d v T no k = (match tput n d v T with | some T => k T | none => no) := by
 cases d with
 | none => rfl
 | some d =>
  simp only [putK, tput]
  cases e : Nat.blt d n with
  | true => rw [if_pos (by simpa [Nat.blt_eq] using e)]; simp only [setF_eq]; rfl
  | false =>
   have : ¬ d < n := fun h => by rw [show Nat.blt d n = true by simpa [Nat.blt_eq] using h] at e; cases e
   rw [if_neg this]
noncomputable def wantF (T : Tmps) (g : Option (Nat × Bool)) : Option Bool :=
 match g with
 | none => some true
 | some (t, b) => match tgetF T t with
  | .bool c => some (c == b)
  | .junk => none
  | _ => some false
theorem wantF_eq (T : Tmps) (g : Option (Nat × Bool)) : wantF T g = wantedA T g := by
 cases g with
 | none => rfl
 | some g => obtain ⟨t, b⟩ := g; simp only [wantF, wantedA, tgetF_eq]; rfl
abbrev RS := Option (AX × St)
noncomputable def callK (call : CallF) (n : Nat) (dst : Option Nat) (ih : St → RS) (T : Tmps) (D : List (FuncId × List AVal)) (r : Option CRes) : RS :=
 @Option.rec CRes (fun _ => RS) none (fun c => @CRes.rec (fun _ => RS) (fun v H => putK n dst v T none fun T => ih ⟨T, H, D⟩) (fun v H => some (.panic v, ⟨T, H, D⟩)) c) r
noncomputable def stepF (call : CallF) (E : EnvD) (n : Nat) (dst : Option Nat) (op : AOp) (ih : St → RS) (T : Tmps) (H : AHeap) (D : List (FuncId × List AVal)) : RS :=
 @Option.rec (AOut × AHeap) (fun _ => RS) none (fun r => @Prod.rec AOut AHeap (fun _ => RS) (fun out H => @AOut.rec (fun _ => RS)
  (fun v => putK n dst v T none fun T => ih ⟨T, H, D⟩)
  (fun f args => callK call n dst ih T D (call f args H))
  (fun v => some (.panic v, ⟨T, H, D⟩))
  (fun f args => putK n dst AVal.undef T none fun T => ih ⟨T, H, (f, args) :: D⟩)
  none out) r) (disp op E T H)
noncomputable def guardF (call : CallF) (E : EnvD) (n : Nat) (dst : Option Nat) (op : AOp) (ih : St → RS) (T : Tmps) (H : AHeap) (D : List (FuncId × List AVal)) (g : Nat × Bool) : RS :=
 match wantF T (some g) with
 | none => none
 | some true => stepF call E n dst op ih T H D
 | some false => putK n dst AVal.undef T none fun T => ih ⟨T, H, D⟩
noncomputable def itemF (call : CallF) (E : EnvD) (n : Nat) (it : AItem) (ih : St → RS) (s : St) : RS :=
 @St.rec (fun _ => RS) (fun T H D => @AItem.rec (fun _ => RS) (fun dst op g => @Option.rec (Nat × Bool) (fun _ => RS) (stepF call E n dst op ih T H D) (fun g => guardF call E n dst op ih T H D g) g) it) s
noncomputable def aitemsF (call : CallF) (E : EnvD) (n : Nat) (l : List AItem) : St → RS :=
 @List.rec AItem (fun _ => St → RS) (fun s => some (.normal, s)) (fun it _ ih s => itemF call E n it ih s) l
theorem stepF_eq (call : CallF) (E : EnvD) (n : Nat) (dst : Option Nat) (op : AOp) (ih : St → RS) (T : Tmps) (H : AHeap) (D : List (FuncId × List AVal)) :
  stepF call E n dst op ih T H D = (match aop E T H op with
   | some (.val v, H) => match tput n dst v T with
    | some T => ih ⟨T, H, D⟩
    | none => none
   | some (.enter f args, H) => match call f args H with
    | some (.ret v H) => match tput n dst v T with
     | some T => ih ⟨T, H, D⟩
     | none => none
    | some (.pan v H) => some (.panic v, ⟨T, H, D⟩)
    | none => none
   | some (.panic v, H) => some (.panic v, ⟨T, H, D⟩)
   | some (.defer f args, H) => match tput n dst AVal.undef T with
    | some T => ih ⟨T, H, (f, args) :: D⟩
    | none => none
   | _ => none) := by
 unfold stepF
 rw [disp_eq]
 rcases aop E T H op with _ | ⟨out, H'⟩
 ·rfl
 ·cases out with
  | val v => exact putK_eq ..
  | enter f args =>
   show callK call n dst ih T D (call f args H') = _
   unfold callK
   simp only
   rcases call f args H' with _ | c
   ·rfl
   ·cases c with
    | ret v H'' => exact putK_eq ..
    | pan v H'' => rfl
  | panic v => rfl
  | defer f args => exact putK_eq ..
  | recov => rfl
theorem itemF_eq (call : CallF) (E : EnvD) (n : Nat) (it : AItem) (l : List AItem) (s : St) : itemF call E n it (aitems call E n l) s = aitems call E n (it :: l) s := by
 obtain ⟨T, H, D⟩ := s
 obtain ⟨dst, op, g⟩ := it
 cases g with
 | none =>
  show stepF call E n dst op (aitems call E n l) T H D = _
  rw [stepF_eq]
  simp only [aitems, wantedA]
  rfl
 | some g =>
  show guardF call E n dst op (aitems call E n l) T H D g = _
  unfold guardF
  rw [wantF_eq]
  simp only [aitems]
  rcases wantedA T (some g) with _ | b
  ·rfl
  ·cases b with
   | true => simp only [stepF_eq]; rfl
   | false => exact putK_eq ..
theorem aitemsF_eq (call : CallF) (E : EnvD) (n : Nat) : ∀ l s, aitemsF call E n l s = aitems call E n l s
 | [], s => rfl
 | it :: l, s => by
  show itemF call E n it (aitemsF call E n l) s = _
  rw [show aitemsF call E n l = aitems call E n l from funext (aitemsF_eq call E n l)]
  exact itemF_eq ..
noncomputable def dstepF (call : CallF) (E : EnvD) (T : Tmps) (H : AHeap) (it : AItem) : Option DRes :=
 match wantF T it.guard with
 | none => none
 | some true => @Option.rec (AOut × AHeap) (fun _ => Option DRes) none (fun r => @Prod.rec AOut AHeap (fun _ => Option DRes) (fun out H => @AOut.rec (fun _ => Option DRes)
   (fun v => some (.val v H))
   (fun f args => @Option.rec CRes (fun _ => Option DRes) none (fun c => @CRes.rec (fun _ => Option DRes) (fun v H => some (.val v H)) (fun v H => some (.pan v H)) c) (call f args H))
   (fun _ => none) (fun _ _ => none) none out) r) (disp it.op E T H)
 | some false => some (.val AVal.undef H)
theorem dstepF_eq (call : CallF) (E : EnvD) (T : Tmps) (H : AHeap) (it : AItem) : dstepF call E T H it = dstep call E T H it := by
 unfold dstepF dstep
 rw [wantF_eq, disp_eq]
 rcases wantedA T it.guard with _ | b
 ·rfl
 ·cases b with
  | false => rfl
  | true =>
   rcases aop E T H it.op with _ | ⟨out, H'⟩
   ·rfl
   ·cases out with
    | enter f args =>
     simp only
     rcases call f args H' with _ | c
     ·rfl
     ·cases c <;> rfl
    | _ => rfl
noncomputable def drunF (call : CallF) (E : EnvD) (n : Nat) (l : List DItem) : Nat → List DRow → Tmps → AHeap → Option DRun :=
 @List.rec DItem (fun _ => Nat → List DRow → Tmps → AHeap → Option DRun) (fun _ acc T H => some (.done acc.reverse T H))
  (fun d _ ih k acc T H => @Bool.rec (fun _ => Option DRun) none
   (@Option.rec DRes (fun _ => Option DRun) none (fun r => @DRes.rec (fun _ => Option DRun)
    (fun v H' => @Bool.rec (fun _ => Option DRun) none (putK n d.it.dst v T none fun T' => ih (k + 1) (⟨v, T, H⟩ :: acc) T' H') (achk d H H'))
    (fun v H' => some (.pan acc.reverse T H k v H')) r) (dstepF call E T H d.it)) (wchk d T H)) l
theorem drunF_eq (call : CallF) (E : EnvD) (n : Nat) : ∀ l k acc T H, drunF call E n l k acc T H = drun call E n l k acc T H
 | [], _, _, _, _ => rfl
 | d :: l, k, acc, T, H => by
  simp only [drun]
  show @Bool.rec (fun _ => Option DRun) none
   (@Option.rec DRes (fun _ => Option DRun) none (fun r => @DRes.rec (fun _ => Option DRun)
    (fun v H' => @Bool.rec (fun _ => Option DRun) none (putK n d.it.dst v T none fun T' => drunF call E n l (k + 1) (⟨v, T, H⟩ :: acc) T' H') (achk d H H'))
    (fun v H' => some (.pan acc.reverse T H k v H')) r) (dstepF call E T H d.it)) (wchk d T H) = _
  rw [dstepF_eq]
  cases wchk d T H with
  | false => rfl
  | true =>
   rcases dstep call E T H d.it with _ | r
   ·rfl
   ·cases r with
    | pan v H' => rfl
    | val v H' =>
     simp only
     cases achk d H H' with
     | false => rfl
     | true =>
      simp only [putK_eq]
      cases tput n d.it.dst v T with
      | none => rfl
      | some T' => exact drunF_eq call E n l _ _ _ _
noncomputable def rcheckF (E : EnvD) (Hs : List AHeap) (d : DItem) (r : DRow) (most : Nat) : List Nat → Bool
 | [] => true
 | k :: l =>
  (bif Nat.ble k most then
   match Hs[k]? with
   | some H => (match wantF r.T d.it.guard with
    | some true => match disp d.it.op E r.T H with
     | some (.val v, _) => beqV depth v r.val
     | _ => false
    | _ => true)
   | none => false
  else true) && rcheckF E Hs d r most l
theorem rcheckF_eq (E : EnvD) (Hs : List AHeap) (d : DItem) (r : DRow) (most : Nat) : ∀ l, rcheckF E Hs d r most l = rcheck E Hs d r most l
 | [] => rfl
 | k :: l => by
  simp only [rcheckF, rcheck, rcheckF_eq E Hs d r most l, wantF_eq, disp_eq]
  congr 1
  cases e : Nat.ble k most with
  | true => rw [if_pos (Nat.le_of_ble_eq_true e)]; rfl
  | false =>
   have : ¬ k ≤ most := fun h => by rw [Nat.ble_eq_true_of_le h] at e; cases e
   rw [if_neg this]; rfl
noncomputable def rchecksF (E : EnvD) (Hs : List AHeap) (most : Nat) (skip : DItem → Bool) : List DItem → List DRow → Bool
 | d :: l, r :: m => (match d.cls with | .R => skip d || rcheckF E Hs d r most d.cand | _ => true) && rchecksF E Hs most skip l m
 | _, _ => true
theorem rchecksF_eq (E : EnvD) (Hs : List AHeap) (most : Nat) (skip : DItem → Bool) : ∀ l m, rchecksF E Hs most skip l m = rchecks E Hs most skip l m
 | [], _ => rfl
 | _ :: _, [] => rfl
 | d :: l, r :: m => by simp only [rchecksF, rchecks, rcheckF_eq, rchecksF_eq E Hs most skip l m]; rfl
noncomputable def dregF (call : CallF) (E : EnvD) (n : Nat) (l : List DItem) (s : St) : RS :=
 match drunF call E n l 0 [] s.T s.H with
 | some (.done rows T H) => match rchecksF E (rows.map (·.H) ++ [H]) rows.length (fun _ => false) l rows with
  | true => some (.normal, ⟨T, H, s.D⟩)
  | false => none
 | some (.pan rows T0 H0 k v H) => match ddry E n k (l.drop (k + 1)) [] T0 H0 with
  | some more => match rchecksF E (rows.map (·.H) ++ [H0]) k (fun d => d.pre.testBit k) l (rows ++ ⟨AVal.undef, T0, H0⟩ :: more) with
   | true => some (.panic v, ⟨junkAll (ddsts l) s.T, H, s.D⟩)
   | false => none
  | none => none
 | none => none
theorem dregF_eq (call : CallF) (E : EnvD) (n : Nat) (l : List DItem) (s : St) : dregF call E n l s = dreg call E n l s := by
 unfold dregF dreg
 rw [drunF_eq]
 simp only [rchecksF_eq]
 rfl
noncomputable def thenF (r : RS) (k : St → RS) : RS :=
 @Option.rec (AX × St) (fun _ => RS) none (fun p => @Prod.rec AX St (fun _ => RS) (fun x s => @AX.rec (fun _ => RS) (k s) (fun id => some (.exit id, s)) (some (.ret, s)) (fun v => some (.panic v, s)) x) p) r
theorem thenF_eq (r : RS) (k : St → RS) : thenF r k = (match r with | some (.normal, s) => k s | r => r) := by
 rcases r with _ | ⟨x, s⟩
 ·rfl
 ·cases x <;> rfl
noncomputable def blkF (id : Nat) (r : RS) : RS :=
 @Option.rec (AX × St) (fun _ => RS) none (fun p => @Prod.rec AX St (fun _ => RS) (fun x s => @AX.rec (fun _ => RS) (some (.normal, s)) (fun i => @Bool.rec (fun _ => RS) (some (.exit i, s)) (some (.normal, s)) (Nat.beq i id)) (some (.ret, s)) (fun v => some (.panic v, s)) x) p) r
theorem blkF_eq (id : Nat) (r : RS) : blkF id r = (match r with | some (.exit i, s') => if i = id then some (.normal, s') else some (.exit i, s') | r => r) := by
 rcases r with _ | ⟨x, s⟩
 ·rfl
 ·cases x <;> try rfl
  rename_i i
  show @Bool.rec (fun _ => RS) (some (.exit i, s)) (some (.normal, s)) (Nat.beq i id) = _
  simp only
  cases e : Nat.beq i id with
  | true => rw [if_pos (Nat.eq_of_beq_eq_true e)]
  | false => rw [if_neg (Nat.ne_of_beq_eq_false e)]
noncomputable def condF (c : Option AVal) (x y : RS) : RS :=
 match c with
 | some (.bool b) => @Bool.rec (fun _ => RS) y x b
 | _ => none
noncomputable def iterF (f : St → RS) (n : Nat) : St → RS :=
 @Nat.rec (fun _ => St → RS) (fun _ => none) (fun _ ih s => thenF (f s) ih) n
theorem iterF_eq (f : St → RS) : ∀ n s, iterF f n s = aiter f n s
 | 0, _ => rfl
 | n + 1, s => by
  show thenF (f s) (iterF f n) = _
  rw [thenF_eq, show iterF f n = aiter f n from funext (iterF_eq f n)]
  rfl
noncomputable def aexecF (call : CallF) (E : EnvD) (n lf : Nat) (c : ACode) : St → RS :=
 @ACode.rec (fun _ => St → RS) (fun s => some (.normal, s)) (fun l s => aitemsF call E n l s) (fun l s => dregF call E n l s)
  (fun _ _ iha ihb s => thenF (iha s) ihb) (fun c _ _ iha ihb s => @St.rec (fun _ => RS) (fun T H D => condF (aevF T c) (iha ⟨T, H, D⟩) (ihb ⟨T, H, D⟩)) s) (fun id _ ih s => blkF id (ih s)) (fun _ ih s => iterF ih lf s)
  (fun id s => some (.exit id, s)) (fun s => some (.ret, s)) (fun _ => none) c
theorem aexecF_eq (call : CallF) (E : EnvD) (n lf : Nat) : ∀ c s, aexecF call E n lf c s = aexec call E n lf c s := by
 intro c
 induction c with
 | skip => intro s; rfl
 | reg l => intro s; exact aitemsF_eq ..
 | drg l => intro s; exact dregF_eq ..
 | seq a b iha ihb =>
  intro s
  show thenF (aexecF call E n lf a s) (aexecF call E n lf b) = _
  rw [thenF_eq, iha, show aexecF call E n lf b = aexec call E n lf b from funext ihb]
  rfl
 | cond c a b iha ihb =>
  intro s
  obtain ⟨T, H, D⟩ := s
  show condF (aevF T c) (aexecF call E n lf a ⟨T, H, D⟩) (aexecF call E n lf b ⟨T, H, D⟩) = _
  rw [aevF_eq, iha, ihb]
  simp only [aexec, condF]
  rcases aev T c with _ | v
  ·rfl
  ·cases v <;> try rfl
   rename_i b; cases b <;> rfl
 | blk id a ih =>
  intro s
  show blkF id (aexecF call E n lf a s) = _
  rw [blkF_eq, ih]
  rfl
 | loop a ih =>
  intro s
  show iterF (aexecF call E n lf a) lf s = _
  rw [show aexecF call E n lf a = aexec call E n lf a from funext ih, iterF_eq]
  rfl
 | exit id => intro s; rfl
 | ret => intro s; rfl
 | bad => intro s; rfl
noncomputable def tinitF (l : List AVal) : Nat → Tmps :=
 @List.rec AVal (fun _ => Nat → Tmps) (fun _ => .leaf) (fun v _ ih k => setF (bits k) (some v) (ih (Nat.succ k))) l
theorem tinitF_eq : ∀ l k, tinitF l k = tinit l k
 | [], _ => rfl
 | v :: l, k => by
  show setF (bits k) (some v) (tinitF l (k + 1)) = _
  rw [tinitF_eq l (k + 1), setF_eq]; rfl
noncomputable def ares1F (T : Tmps) (H : AHeap) : ARes → Option AVal
 | .tmp t => some (tgetF T t)
 | .cell a g n => match tgetF T a with
  | .ptr (some (i, o)) => if g then (match hloadNF H i o n with
    | some c => some (.agg c)
    | none => none) else hload1F H i o
  | _ => none
theorem ares1F_eq (T : Tmps) (H : AHeap) (r : ARes) : ares1F T H r = ares1 T H r := by
 cases r <;> simp only [ares1F, ares1, tgetF_eq, hloadNF_eq, hload1F_eq] <;> rfl
noncomputable def aresLF (T : Tmps) (H : AHeap) : List ARes → Option (List AVal)
 | [] => some []
 | r :: l => match ares1F T H r with
  | some v => match aresLF T H l with
   | some vs => some (v :: vs)
   | none => none
  | none => none
theorem aresLF_eq (T : Tmps) (H : AHeap) : ∀ l, aresLF T H l = aresL T H l
 | [] => rfl
 | r :: l => by simp only [aresLF, aresL, ares1F_eq, aresLF_eq T H l]; rfl
noncomputable def aresultsF (T : Tmps) (H : AHeap) (l : List ARes) : Option AVal :=
 match aresLF T H l with
 | some [v] => fVal v fun v => some v
 | some vs => some (.tup vs)
 | none => none
theorem aresultsF_eq (T : Tmps) (H : AHeap) (l : List ARes) : aresultsF T H l = aresults T H l := by
 unfold aresultsF aresults
 rw [aresLF_eq]
 rcases aresL T H l with _ | vs
 ·rfl
 ·match vs with
  | [] => rfl
  | [v] => exact fVal_eq ..
  | _ :: _ :: _ => rfl
noncomputable def leaveF (call : CallF) (C : FuncId → Option AFunc) (E : EnvD) (lf : Nat) (T : Tmps) (res : List ARes) (D : List (FuncId × List AVal)) (m : Option AVal) (H : AHeap) : Option CRes :=
 match D, m with
 | [], none => match aresultsF T H res with
  | some v => some (.ret v H)
  | none => none
 | [], some v => some (.pan v H)
 | d :: ds, m => aleave call C E lf T res (d :: ds) m H
theorem leaveF_eq (call : CallF) (C : FuncId → Option AFunc) (E : EnvD) (lf : Nat) (T : Tmps) (res : List ARes) (D : List (FuncId × List AVal)) (m : Option AVal) (H : AHeap) : leaveF call C E lf T res D m H = aleave call C E lf T res D m H := by
 unfold leaveF
 split
 ·simp only [aresultsF_eq, aleave]; rfl
 ·rfl
 ·rfl
noncomputable def endF (call : CallF) (C : FuncId → Option AFunc) (E : EnvD) (lf : Nat) (res : List ARes) (r : RS) : Option CRes :=
 @Option.rec (AX × St) (fun _ => Option CRes) none (fun p => @Prod.rec AX St (fun _ => Option CRes) (fun x s => @AX.rec (fun _ => Option CRes)
  (leaveF call C E lf s.T res s.D none s.H) (fun _ => none) (leaveF call C E lf s.T res s.D none s.H) (fun v => leaveF call C E lf s.T res s.D (some v) s.H) x) p) r
noncomputable def bodyF (call : CallF) (C : FuncId → Option AFunc) (E : EnvD) (lf : Nat) (af : AFunc) (args : List AVal) (H : AHeap) : Option CRes :=
 @AFunc.rec (fun _ => Option CRes) (fun n body res => @Bool.rec (fun _ => Option CRes) none (endF call C E lf res (aexecF call E n lf body ⟨tinitF args 0, H, []⟩)) (Nat.ble args.length n)) af
noncomputable def acallF (C : FuncId → Option AFunc) (ext : CallF) (E : EnvD) (lf : Nat) (k : Nat) : CallF :=
 @Nat.rec (fun _ => CallF) (fun _ _ _ => none) (fun _ ih f args H =>
  @Option.rec CRes (fun _ => Option CRes) (@Option.rec AFunc (fun _ => Option CRes) none (fun af => bodyF ih C E lf af args H) (C f)) (fun r => some r) (ext f args H)) k
theorem bodyF_eq (call : CallF) (C : FuncId → Option AFunc) (E : EnvD) (lf : Nat) (af : AFunc) (args : List AVal) (H : AHeap) : bodyF call C E lf af args H = (if args.length ≤ af.n then
          match aexec call E af.n lf af.body ⟨tinit args 0, H, []⟩ with
          | some (.normal, s) => aleave call C E lf s.T af.res s.D none s.H
          | some (.ret, s) => aleave call C E lf s.T af.res s.D none s.H
          | some (.panic v, s) => aleave call C E lf s.T af.res s.D (some v) s.H
          | _ => none
    else none) := by
 obtain ⟨n, body, res⟩ := af
 show @Bool.rec (fun _ => Option CRes) none (endF call C E lf res (aexecF call E n lf body ⟨tinitF args 0, H, []⟩)) (Nat.ble args.length n) = _
 cases e : Nat.ble args.length n with
 | false =>
  have : ¬ args.length ≤ n := fun h => by rw [Nat.ble_eq_true_of_le h] at e; cases e
  simp only [if_neg this]
 | true =>
  rw [if_pos (Nat.le_of_ble_eq_true e)]
  show endF call C E lf res (aexecF call E n lf body ⟨tinitF args 0, H, []⟩) = _
  rw [aexecF_eq, tinitF_eq]
  simp only
  rcases aexec call E n lf body ⟨tinit args 0, H, []⟩ with _ | ⟨x, s⟩
  ·rfl
  ·cases x with
   | exit id => rfl
   | normal => exact leaveF_eq ..
   | ret => exact leaveF_eq ..
   | panic v => exact leaveF_eq ..
theorem acallF_eq (C : FuncId → Option AFunc) (ext : CallF) (E : EnvD) (lf : Nat) : ∀ k, acallF C ext E lf k = acall C ext E lf k
 | 0 => by funext f args H; rfl
 | k + 1 => by
  funext f args H
  show @Option.rec CRes (fun _ => Option CRes) (@Option.rec AFunc (fun _ => Option CRes) none (fun af => bodyF (acallF C ext E lf k) C E lf af args H) (C f)) (fun r => some r) (ext f args H) = _
  rw [acallF_eq C ext E lf k]
  simp only [acall]
  rcases ext f args H with _ | r
  ·rcases C f with _ | af
   ·rfl
   ·exact bodyF_eq ..
  ·rfl
end Go.Sim
end
