/- The evaluator, cheap for the kernel: regions, code, calls. -/
import Derived.Test.YtdppeaciahdekaaGreatSimFastA
set_option linter.unusedVariables false
namespace Go.Sim

noncomputable def putK {β : Type} (n : Nat) (d : Option Nat) (v : AVal) (T : Tmps) (no : β) (k : Tmps → β) : β :=
  @Option.rec Nat (fun _ => β) (k T) (fun d => @Bool.rec (fun _ => β) no (k (setF (bits d) (some v) T)) (Nat.blt d n)) d
theorem putK_eq {β : Type} (n : Nat) (d : Option Nat) (v : AVal) (T : Tmps) (no : β) (k : Tmps → β) : putK n d v T no k = (match tput n d v T with | some T => k T | none => no) := by
  cases d with
  | none => rfl
  | some d =>
    simp only [putK, tput]
    cases e : Nat.blt d n with
    | true => rw [if_pos (by simpa [Nat.blt_eq] using e)]; simp only [setF_eq]; rfl
    | false =>
      have : ¬ d < n := fun h => by rw [show Nat.blt d n = true by simpa [Nat.blt_eq] using h] at e; cases e
      rw [if_neg this]

noncomputable def wantF (T : Tmps) (g : Option (Nat × Bool)) : Option Bool :=
  match g with
  | none => some true
  | some (t, b) => match tgetF T t with
    | .bool c => some (c == b)
    | .junk => none
    | _ => some false
theorem wantF_eq (T : Tmps) (g : Option (Nat × Bool)) : wantF T g = wantedA T g := by
  cases g with
  | none => rfl
  | some g => obtain ⟨t, b⟩ := g; simp only [wantF, wantedA, tgetF_eq]; rfl

abbrev RS := Option (AX × St)

noncomputable def callK (call : CallF) (n : Nat) (dst : Option Nat) (ih : St → RS) (T : Tmps) (D : List (FuncId × List AVal)) (r : Option CRes) : RS :=
  @Option.rec CRes (fun _ => RS) none (fun c => @CRes.rec (fun _ => RS) (fun v H => putK n dst v T none fun T => ih ⟨T, H, D⟩) (fun v H => some (.panic v, ⟨T, H, D⟩)) c) r

noncomputable def stepF (call : CallF) (E : EnvD) (n : Nat) (dst : Option Nat) (op : AOp) (ih : St → RS) (T : Tmps) (H : AHeap) (D : List (FuncId × List AVal)) : RS :=
  @Option.rec (AOut × AHeap) (fun _ => RS) none (fun r => @Prod.rec AOut AHeap (fun _ => RS) (fun out H => @AOut.rec (fun _ => RS)
    (fun v => putK n dst v T none fun T => ih ⟨T, H, D⟩)
    (fun f args => callK call n dst ih T D (call f args H))
    (fun v => some (.panic v, ⟨T, H, D⟩))
    (fun f args => putK n dst AVal.undef T none fun T => ih ⟨T, H, (f, args) :: D⟩)
    none out) r) (disp op E T H)

noncomputable def guardF (call : CallF) (E : EnvD) (n : Nat) (dst : Option Nat) (op : AOp) (ih : St → RS) (T : Tmps) (H : AHeap) (D : List (FuncId × List AVal)) (g : Nat × Bool) : RS :=
  match wantF T (some g) with
  | none => none
  | some true => stepF call E n dst op ih T H D
  | some false => putK n dst AVal.undef T none fun T => ih ⟨T, H, D⟩

noncomputable def itemF (call : CallF) (E : EnvD) (n : Nat) (it : AItem) (ih : St → RS) (s : St) : RS :=
  @St.rec (fun _ => RS) (fun T H D => @AItem.rec (fun _ => RS) (fun dst op g => @Option.rec (Nat × Bool) (fun _ => RS) (stepF call E n dst op ih T H D) (fun g => guardF call E n dst op ih T H D g) g) it) s

noncomputable def aitemsF (call : CallF) (E : EnvD) (n : Nat) (l : List AItem) : St → RS :=
  @List.rec AItem (fun _ => St → RS) (fun s => some (.normal, s)) (fun it _ ih s => itemF call E n it ih s) l

theorem stepF_eq (call : CallF) (E : EnvD) (n : Nat) (dst : Option Nat) (op : AOp) (ih : St → RS) (T : Tmps) (H : AHeap) (D : List (FuncId × List AVal)) :
    stepF call E n dst op ih T H D = (match aop E T H op with
      | some (.val v, H) => match tput n dst v T with
        | some T => ih ⟨T, H, D⟩
        | none => none
      | some (.enter f args, H) => match call f args H with
        | some (.ret v H) => match tput n dst v T with
          | some T => ih ⟨T, H, D⟩
          | none => none
        | some (.pan v H) => some (.panic v, ⟨T, H, D⟩)
        | none => none
      | some (.panic v, H) => some (.panic v, ⟨T, H, D⟩)
      | some (.defer f args, H) => match tput n dst AVal.undef T with
        | some T => ih ⟨T, H, (f, args) :: D⟩
        | none => none
      | _ => none) := by
  unfold stepF
  rw [disp_eq]
  rcases aop E T H op with _ | ⟨out, H'⟩
  · rfl
  · cases out with
    | val v => exact putK_eq ..
    | enter f args =>
      show callK call n dst ih T D (call f args H') = _
      unfold callK
      simp only
      rcases call f args H' with _ | c
      · rfl
      · cases c with
        | ret v H'' => exact putK_eq ..
        | pan v H'' => rfl
    | panic v => rfl
    | defer f args => exact putK_eq ..
    | recov => rfl

theorem itemF_eq (call : CallF) (E : EnvD) (n : Nat) (it : AItem) (l : List AItem) (s : St) : itemF call E n it (aitems call E n l) s = aitems call E n (it :: l) s := by
  obtain ⟨T, H, D⟩ := s
  obtain ⟨dst, op, g⟩ := it
  cases g with
  | none =>
    show stepF call E n dst op (aitems call E n l) T H D = _
    rw [stepF_eq]
    simp only [aitems, wantedA]
    rfl
  | some g =>
    show guardF call E n dst op (aitems call E n l) T H D g = _
    unfold guardF
    rw [wantF_eq]
    simp only [aitems]
    rcases wantedA T (some g) with _ | b
    · rfl
    · cases b with
      | true => simp only [stepF_eq]; rfl
      | false => exact putK_eq ..

theorem aitemsF_eq (call : CallF) (E : EnvD) (n : Nat) : ∀ l s, aitemsF call E n l s = aitems call E n l s
  | [], s => rfl
  | it :: l, s => by
    show itemF call E n it (aitemsF call E n l) s = _
    rw [show aitemsF call E n l = aitems call E n l from funext (aitemsF_eq call E n l)]
    exact itemF_eq ..

/-! Regions that draw. -/
noncomputable def dstepF (call : CallF) (E : EnvD) (T : Tmps) (H : AHeap) (it : AItem) : Option DRes :=
  match wantF T it.guard with
  | none => none
  | some true => @Option.rec (AOut × AHeap) (fun _ => Option DRes) none (fun r => @Prod.rec AOut AHeap (fun _ => Option DRes) (fun out H => @AOut.rec (fun _ => Option DRes)
      (fun v => some (.val v H))
      (fun f args => @Option.rec CRes (fun _ => Option DRes) none (fun c => @CRes.rec (fun _ => Option DRes) (fun v H => some (.val v H)) (fun v H => some (.pan v H)) c) (call f args H))
      (fun _ => none) (fun _ _ => none) none out) r) (disp it.op E T H)
  | some false => some (.val AVal.undef H)
theorem dstepF_eq (call : CallF) (E : EnvD) (T : Tmps) (H : AHeap) (it : AItem) : dstepF call E T H it = dstep call E T H it := by
  unfold dstepF dstep
  rw [wantF_eq, disp_eq]
  rcases wantedA T it.guard with _ | b
  · rfl
  · cases b with
    | false => rfl
    | true =>
      rcases aop E T H it.op with _ | ⟨out, H'⟩
      · rfl
      · cases out with
        | enter f args =>
          simp only
          rcases call f args H' with _ | c
          · rfl
          · cases c <;> rfl
        | _ => rfl

noncomputable def drunF (call : CallF) (E : EnvD) (n : Nat) (l : List DItem) : Nat → List DRow → Tmps → AHeap → Option DRun :=
  @List.rec DItem (fun _ => Nat → List DRow → Tmps → AHeap → Option DRun) (fun _ acc T H => some (.done acc.reverse T H))
    (fun d _ ih k acc T H => @Bool.rec (fun _ => Option DRun) none
      (@Option.rec DRes (fun _ => Option DRun) none (fun r => @DRes.rec (fun _ => Option DRun)
        (fun v H' => @Bool.rec (fun _ => Option DRun) none (putK n d.it.dst v T none fun T' => ih (k + 1) (⟨v, T, H⟩ :: acc) T' H') (achk d H H'))
        (fun v H' => some (.pan acc.reverse T H k v H')) r) (dstepF call E T H d.it)) (wchk d T H)) l
theorem drunF_eq (call : CallF) (E : EnvD) (n : Nat) : ∀ l k acc T H, drunF call E n l k acc T H = drun call E n l k acc T H
  | [], _, _, _, _ => rfl
  | d :: l, k, acc, T, H => by
    simp only [drun]
    show @Bool.rec (fun _ => Option DRun) none
      (@Option.rec DRes (fun _ => Option DRun) none (fun r => @DRes.rec (fun _ => Option DRun)
        (fun v H' => @Bool.rec (fun _ => Option DRun) none (putK n d.it.dst v T none fun T' => drunF call E n l (k + 1) (⟨v, T, H⟩ :: acc) T' H') (achk d H H'))
        (fun v H' => some (.pan acc.reverse T H k v H')) r) (dstepF call E T H d.it)) (wchk d T H) = _
    rw [dstepF_eq]
    cases wchk d T H with
    | false => rfl
    | true =>
      rcases dstep call E T H d.it with _ | r
      · rfl
      · cases r with
        | pan v H' => rfl
        | val v H' =>
          simp only
          cases achk d H H' with
          | false => rfl
          | true =>
            simp only [putK_eq]
            cases tput n d.it.dst v T with
            | none => rfl
            | some T' => exact drunF_eq call E n l _ _ _ _

noncomputable def rcheckF (E : EnvD) (Hs : List AHeap) (d : DItem) (r : DRow) (most : Nat) : List Nat → Bool
  | [] => true
  | k :: l =>
    (bif Nat.ble k most then
      match Hs[k]? with
      | some H => (match wantF r.T d.it.guard with
        | some true => match disp d.it.op E r.T H with
          | some (.val v, _) => beqV depth v r.val
          | _ => false
        | _ => true)
      | none => false
     else true) && rcheckF E Hs d r most l
theorem rcheckF_eq (E : EnvD) (Hs : List AHeap) (d : DItem) (r : DRow) (most : Nat) : ∀ l, rcheckF E Hs d r most l = rcheck E Hs d r most l
  | [] => rfl
  | k :: l => by
    simp only [rcheckF, rcheck, rcheckF_eq E Hs d r most l, wantF_eq, disp_eq]
    congr 1
    cases e : Nat.ble k most with
    | true => rw [if_pos (Nat.le_of_ble_eq_true e)]; rfl
    | false =>
      have : ¬ k ≤ most := fun h => by rw [Nat.ble_eq_true_of_le h] at e; cases e
      rw [if_neg this]; rfl

noncomputable def rchecksF (E : EnvD) (Hs : List AHeap) (most : Nat) (skip : DItem → Bool) : List DItem → List DRow → Bool
  | d :: l, r :: m => (match d.cls with | .R => skip d || rcheckF E Hs d r most d.cand | _ => true) && rchecksF E Hs most skip l m
  | _, _ => true
theorem rchecksF_eq (E : EnvD) (Hs : List AHeap) (most : Nat) (skip : DItem → Bool) : ∀ l m, rchecksF E Hs most skip l m = rchecks E Hs most skip l m
  | [], _ => rfl
  | _ :: _, [] => rfl
  | d :: l, r :: m => by simp only [rchecksF, rchecks, rcheckF_eq, rchecksF_eq E Hs most skip l m]; rfl

noncomputable def dregF (call : CallF) (E : EnvD) (n : Nat) (l : List DItem) (s : St) : RS :=
  match drunF call E n l 0 [] s.T s.H with
  | some (.done rows T H) => match rchecksF E (rows.map (·.H) ++ [H]) rows.length (fun _ => false) l rows with
    | true => some (.normal, ⟨T, H, s.D⟩)
    | false => none
  | some (.pan rows T0 H0 k v H) => match ddry E n k (l.drop (k + 1)) [] T0 H0 with
    | some more => match rchecksF E (rows.map (·.H) ++ [H0]) k (fun d => d.pre.testBit k) l (rows ++ ⟨AVal.undef, T0, H0⟩ :: more) with
      | true => some (.panic v, ⟨junkAll (ddsts l) s.T, H, s.D⟩)
      | false => none
    | none => none
  | none => none
theorem dregF_eq (call : CallF) (E : EnvD) (n : Nat) (l : List DItem) (s : St) : dregF call E n l s = dreg call E n l s := by
  unfold dregF dreg
  rw [drunF_eq]
  simp only [rchecksF_eq]
  rfl

noncomputable def thenF (r : RS) (k : St → RS) : RS :=
  @Option.rec (AX × St) (fun _ => RS) none (fun p => @Prod.rec AX St (fun _ => RS) (fun x s => @AX.rec (fun _ => RS) (k s) (fun id => some (.exit id, s)) (some (.ret, s)) (fun v => some (.panic v, s)) x) p) r
theorem thenF_eq (r : RS) (k : St → RS) : thenF r k = (match r with | some (.normal, s) => k s | r => r) := by
  rcases r with _ | ⟨x, s⟩
  · rfl
  · cases x <;> rfl

noncomputable def blkF (id : Nat) (r : RS) : RS :=
  @Option.rec (AX × St) (fun _ => RS) none (fun p => @Prod.rec AX St (fun _ => RS) (fun x s => @AX.rec (fun _ => RS) (some (.normal, s)) (fun i => @Bool.rec (fun _ => RS) (some (.exit i, s)) (some (.normal, s)) (Nat.beq i id)) (some (.ret, s)) (fun v => some (.panic v, s)) x) p) r
theorem blkF_eq (id : Nat) (r : RS) : blkF id r = (match r with | some (.exit i, s') => if i = id then some (.normal, s') else some (.exit i, s') | r => r) := by
  rcases r with _ | ⟨x, s⟩
  · rfl
  · cases x <;> try rfl
    rename_i i
    show @Bool.rec (fun _ => RS) (some (.exit i, s)) (some (.normal, s)) (Nat.beq i id) = _
    simp only
    cases e : Nat.beq i id with
    | true => rw [if_pos (Nat.eq_of_beq_eq_true e)]
    | false => rw [if_neg (Nat.ne_of_beq_eq_false e)]

noncomputable def condF (c : Option AVal) (x y : RS) : RS :=
  match c with
  | some (.bool b) => @Bool.rec (fun _ => RS) y x b
  | _ => none

noncomputable def iterF (f : St → RS) (n : Nat) : St → RS :=
  @Nat.rec (fun _ => St → RS) (fun _ => none) (fun _ ih s => thenF (f s) ih) n
theorem iterF_eq (f : St → RS) : ∀ n s, iterF f n s = aiter f n s
  | 0, _ => rfl
  | n + 1, s => by
    show thenF (f s) (iterF f n) = _
    rw [thenF_eq, show iterF f n = aiter f n from funext (iterF_eq f n)]
    rfl

noncomputable def aexecF (call : CallF) (E : EnvD) (n lf : Nat) (c : ACode) : St → RS :=
  @ACode.rec (fun _ => St → RS) (fun s => some (.normal, s)) (fun l s => aitemsF call E n l s) (fun l s => dregF call E n l s)
    (fun _ _ iha ihb s => thenF (iha s) ihb) (fun c _ _ iha ihb s => @St.rec (fun _ => RS) (fun T H D => condF (aevF T c) (iha ⟨T, H, D⟩) (ihb ⟨T, H, D⟩)) s) (fun id _ ih s => blkF id (ih s)) (fun _ ih s => iterF ih lf s)
    (fun id s => some (.exit id, s)) (fun s => some (.ret, s)) (fun _ => none) c
theorem aexecF_eq (call : CallF) (E : EnvD) (n lf : Nat) : ∀ c s, aexecF call E n lf c s = aexec call E n lf c s := by
  intro c
  induction c with
  | skip => intro s; rfl
  | reg l => intro s; exact aitemsF_eq ..
  | drg l => intro s; exact dregF_eq ..
  | seq a b iha ihb =>
    intro s
    show thenF (aexecF call E n lf a s) (aexecF call E n lf b) = _
    rw [thenF_eq, iha, show aexecF call E n lf b = aexec call E n lf b from funext ihb]
    rfl
  | cond c a b iha ihb =>
    intro s
    obtain ⟨T, H, D⟩ := s
    show condF (aevF T c) (aexecF call E n lf a ⟨T, H, D⟩) (aexecF call E n lf b ⟨T, H, D⟩) = _
    rw [aevF_eq, iha, ihb]
    simp only [aexec, condF]
    rcases aev T c with _ | v
    · rfl
    · cases v <;> try rfl
      rename_i b; cases b <;> rfl
  | blk id a ih =>
    intro s
    show blkF id (aexecF call E n lf a s) = _
    rw [blkF_eq, ih]
    rfl
  | loop a ih =>
    intro s
    show iterF (aexecF call E n lf a) lf s = _
    rw [show aexecF call E n lf a = aexec call E n lf a from funext ih, iterF_eq]
    rfl
  | exit id => intro s; rfl
  | ret => intro s; rfl
  | bad => intro s; rfl

noncomputable def tinitF (l : List AVal) : Nat → Tmps :=
  @List.rec AVal (fun _ => Nat → Tmps) (fun _ => .leaf) (fun v _ ih k => setF (bits k) (some v) (ih (Nat.succ k))) l
theorem tinitF_eq : ∀ l k, tinitF l k = tinit l k
  | [], _ => rfl
  | v :: l, k => by
    show setF (bits k) (some v) (tinitF l (k + 1)) = _
    rw [tinitF_eq l (k + 1), setF_eq]; rfl

noncomputable def ares1F (T : Tmps) (H : AHeap) : ARes → Option AVal
  | .tmp t => some (tgetF T t)
  | .cell a g n => match tgetF T a with
    | .ptr (some (i, o)) => if g then (match hloadNF H i o n with
        | some c => some (.agg c)
        | none => none) else hload1F H i o
    | _ => none
theorem ares1F_eq (T : Tmps) (H : AHeap) (r : ARes) : ares1F T H r = ares1 T H r := by
  cases r <;> simp only [ares1F, ares1, tgetF_eq, hloadNF_eq, hload1F_eq] <;> rfl
noncomputable def aresLF (T : Tmps) (H : AHeap) : List ARes → Option (List AVal)
  | [] => some []
  | r :: l => match ares1F T H r with
    | some v => match aresLF T H l with
      | some vs => some (v :: vs)
      | none => none
    | none => none
theorem aresLF_eq (T : Tmps) (H : AHeap) : ∀ l, aresLF T H l = aresL T H l
  | [] => rfl
  | r :: l => by simp only [aresLF, aresL, ares1F_eq, aresLF_eq T H l]; rfl
noncomputable def aresultsF (T : Tmps) (H : AHeap) (l : List ARes) : Option AVal :=
  match aresLF T H l with
  | some [v] => fVal v fun v => some v
  | some vs => some (.tup vs)
  | none => none
theorem aresultsF_eq (T : Tmps) (H : AHeap) (l : List ARes) : aresultsF T H l = aresults T H l := by
  unfold aresultsF aresults
  rw [aresLF_eq]
  rcases aresL T H l with _ | vs
  · rfl
  · match vs with
    | [] => rfl
    | [v] => exact fVal_eq ..
    | _ :: _ :: _ => rfl

noncomputable def leaveF (call : CallF) (C : FuncId → Option AFunc) (E : EnvD) (lf : Nat) (T : Tmps) (res : List ARes) (D : List (FuncId × List AVal)) (m : Option AVal) (H : AHeap) : Option CRes :=
  match D, m with
  | [], none => match aresultsF T H res with
    | some v => some (.ret v H)
    | none => none
  | [], some v => some (.pan v H)
  | d :: ds, m => aleave call C E lf T res (d :: ds) m H
theorem leaveF_eq (call : CallF) (C : FuncId → Option AFunc) (E : EnvD) (lf : Nat) (T : Tmps) (res : List ARes) (D : List (FuncId × List AVal)) (m : Option AVal) (H : AHeap) : leaveF call C E lf T res D m H = aleave call C E lf T res D m H := by
  unfold leaveF
  split
  · simp only [aresultsF_eq, aleave]; rfl
  · rfl
  · rfl

noncomputable def endF (call : CallF) (C : FuncId → Option AFunc) (E : EnvD) (lf : Nat) (res : List ARes) (r : RS) : Option CRes :=
  @Option.rec (AX × St) (fun _ => Option CRes) none (fun p => @Prod.rec AX St (fun _ => Option CRes) (fun x s => @AX.rec (fun _ => Option CRes)
    (leaveF call C E lf s.T res s.D none s.H) (fun _ => none) (leaveF call C E lf s.T res s.D none s.H) (fun v => leaveF call C E lf s.T res s.D (some v) s.H) x) p) r

noncomputable def bodyF (call : CallF) (C : FuncId → Option AFunc) (E : EnvD) (lf : Nat) (af : AFunc) (args : List AVal) (H : AHeap) : Option CRes :=
  @AFunc.rec (fun _ => Option CRes) (fun n body res => @Bool.rec (fun _ => Option CRes) none (endF call C E lf res (aexecF call E n lf body ⟨tinitF args 0, H, []⟩)) (Nat.ble args.length n)) af

noncomputable def acallF (C : FuncId → Option AFunc) (ext : CallF) (E : EnvD) (lf : Nat) (k : Nat) : CallF :=
  @Nat.rec (fun _ => CallF) (fun _ _ _ => none) (fun _ ih f args H =>
    @Option.rec CRes (fun _ => Option CRes) (@Option.rec AFunc (fun _ => Option CRes) none (fun af => bodyF ih C E lf af args H) (C f)) (fun r => some r) (ext f args H)) k

theorem bodyF_eq (call : CallF) (C : FuncId → Option AFunc) (E : EnvD) (lf : Nat) (af : AFunc) (args : List AVal) (H : AHeap) : bodyF call C E lf af args H = (if args.length ≤ af.n then
          match aexec call E af.n lf af.body ⟨tinit args 0, H, []⟩ with
          | some (.normal, s) => aleave call C E lf s.T af.res s.D none s.H
          | some (.ret, s) => aleave call C E lf s.T af.res s.D none s.H
          | some (.panic v, s) => aleave call C E lf s.T af.res s.D (some v) s.H
          | _ => none
        else none) := by
  obtain ⟨n, body, res⟩ := af
  show @Bool.rec (fun _ => Option CRes) none (endF call C E lf res (aexecF call E n lf body ⟨tinitF args 0, H, []⟩)) (Nat.ble args.length n) = _
  cases e : Nat.ble args.length n with
  | false =>
    have : ¬ args.length ≤ n := fun h => by rw [Nat.ble_eq_true_of_le h] at e; cases e
    simp only [if_neg this]
  | true =>
    rw [if_pos (Nat.le_of_ble_eq_true e)]
    show endF call C E lf res (aexecF call E n lf body ⟨tinitF args 0, H, []⟩) = _
    rw [aexecF_eq, tinitF_eq]
    simp only
    rcases aexec call E n lf body ⟨tinit args 0, H, []⟩ with _ | ⟨x, s⟩
    · rfl
    · cases x with
      | exit id => rfl
      | normal => exact leaveF_eq ..
      | ret => exact leaveF_eq ..
      | panic v => exact leaveF_eq ..

theorem acallF_eq (C : FuncId → Option AFunc) (ext : CallF) (E : EnvD) (lf : Nat) : ∀ k, acallF C ext E lf k = acall C ext E lf k
  | 0 => by funext f args H; rfl
  | k + 1 => by
    funext f args H
    show @Option.rec CRes (fun _ => Option CRes) (@Option.rec AFunc (fun _ => Option CRes) none (fun af => bodyF (acallF C ext E lf k) C E lf af args H) (C f)) (fun r => some r) (ext f args H) = _
    rw [acallF_eq C ext E lf k]
    simp only [acall]
    rcases ext f args H with _ | r
    · rcases C f with _ | af
      · rfl
      · exact bodyF_eq ..
    · rfl
end Go.Sim
