/- Are the evaluator's items the region's operations? -/
import Derived.Test.YtdppeaciahdekaaGreatSimChkA
set_option linter.unusedSimpArgs false
namespace Go.Sim

def guardChk (ops : List Oper) (o : Oper) (it : AItem) : Bool :=
  match o.guard, it.guard with
  | none, none => true
  | some (j, b), some (t, b') => b == b' && (match ops[j]? with
    | some oj => (match oj.dst with | some t' => Nat.beq t t' | none => false)
    | none => false)
  | _, _ => false

def dstChk : Option Nat → Option Nat → Bool
  | none, none => true
  | some a, some b => Nat.beq a b
  | _, _ => false

def opChk (P : Program) (E : EnvD) (o : Op) : AOp → Bool
  | .bad => true
  | op => match comp P E o with
    | some op' => eqOp op' op
    | none => false

def itemChk (P : Program) (E : EnvD) (ops : List Oper) (o : Oper) (it : AItem) : Bool :=
  opChk P E o.op it.op && dstChk o.dst it.dst && guardChk ops o it

theorem itemChk_sound {P : Program} {E : EnvD} {ops : Array Oper} {o : Oper} {it : AItem} (h : itemChk P E ops.toList o it = true) : ItemOK P E ops o it := by
  simp only [itemChk, Bool.and_eq_true] at h
  obtain ⟨⟨h1, h2⟩, h3⟩ := h
  refine ⟨?_, ?_, ?_⟩
  · unfold opChk at h1
    split at h1
    · rename_i e; exact .inr e
    · split at h1
      · rename_i op' hc; rw [hc, eqOp_sound h1]; exact .inl rfl
      · cases h1
  · unfold dstChk at h2
    split at h2
    · rename_i e1 e2; rw [e1, e2]
    · rename_i e1 e2; rw [e1, e2, Nat.eq_of_beq_eq_true h2]
    · cases h2
  · unfold GuardOK
    unfold guardChk at h3
    split at h3
    · rename_i e1 e2; rw [e1, e2]; trivial
    · rename_i j b t b' e1 e2
      rw [e1, e2]
      simp only [Bool.and_eq_true, beq_iff_eq] at h3
      refine ⟨h3.1, ?_⟩
      have h4 := h3.2
      split at h4
      · rename_i oj hj
        split at h4
        · rename_i t' ht
          have := Nat.eq_of_beq_eq_true h4
          subst this
          have hj' : ops[j]? = some oj := by rw [← Array.getElem?_toList]; exact hj
          rw [hj']; exact ht
        · cases h4
      · cases h4
    · cases h3

def regChk (P : Program) (E : EnvD) (ops : List Oper) : List Oper → List AItem → Bool
  | [], [] => true
  | o :: os, it :: its => itemChk P E ops o it && regChk P E ops os its
  | _, _ => false

/-- For each number below a bound. -/
def allB (f : Nat → Bool) : Nat → Bool
  | 0 => true
  | n + 1 => f n && allB f n
theorem allB_spec {f : Nat → Bool} : ∀ {n : Nat}, allB f n = true → ∀ k, k < n → f k = true
  | n + 1, h, k, hk => by
    simp only [allB, Bool.and_eq_true] at h
    by_cases e : k = n
    · subst e; exact h.1
    · exact allB_spec h.2 k (by omega)
def anyB (f : Nat → Bool) : Nat → Bool
  | 0 => false
  | n + 1 => f n || anyB f n
theorem anyB_spec {f : Nat → Bool} : ∀ {n : Nat}, anyB f n = true → ∃ k, k < n ∧ f k = true
  | n + 1, h => by
    simp only [anyB, Bool.or_eq_true] at h
    rcases h with h | h
    · exact ⟨n, by omega, h⟩
    · obtain ⟨k, h1, h2⟩ := anyB_spec h
      exact ⟨k, by omega, h2⟩

def memB (t : Nat) : List Nat → Bool
  | [] => false
  | x :: l => Nat.beq x t || memB t l
theorem memB_of {t : Nat} : ∀ {l : List Nat}, t ∈ l → memB t l = true
  | x :: l, h => by
    simp only [memB, Bool.or_eq_true]
    cases h with
    | head => exact .inl (Nat.beq_refl t)
    | tail _ h => exact .inr (memB_of h)
theorem memB_iff {t : Nat} : ∀ {l : List Nat}, memB t l = true → t ∈ l
  | [], h => by simp [memB] at h
  | x :: l, h => by
    simp only [memB, Bool.or_eq_true] at h
    rcases h with h | h
    · rw [Nat.eq_of_beq_eq_true h]; exact List.mem_cons_self
    · exact List.mem_cons_of_mem _ (memB_iff h)

/-- The slots of two operations meet. -/
def meet (d d' : DItem) : Bool :=
  (match d.it.dst with
    | some t => memB t (glooks d'.it) || (match d'.it.dst with | some t' => Nat.beq t t' | none => false)
    | none => false) ||
  (match d'.it.dst with
    | some t => memB t (glooks d.it)
    | none => false)

def onDir (its : List DItem) (q : Nat) : List Edge → Bool
  | [] => false
  | e :: l => (Region.binds .any e && (match its[q]? with | some d => Nat.beq d.idx e.on | none => false)) || onDir its q l
/-- Is it ahead by an edge, or ahead of one that is. -/
def hangChk (its : List DItem) (q : Nat) (es : List Edge) (k : Nat) : Bool :=
  onDir its q es || anyB (fun m => onDir its m es && (match its[m]? with | some d => d.pre.testBit q | none => false)) k

def isR : Cls → Bool
  | .R => true
  | _ => false
def isW : Cls → Bool
  | .W => true
  | _ => false

/-- The bits of a mask are below its size, and each is checked. -/
def candChk (r : Nat) (d : DItem) (n : Nat) : Nat → List DItem → Bool
  | j, [] => d.pre.testBit j || memB j d.cand || !(Nat.beq j n)
  | j, x :: l => (!(wcls x.cls) || d.pre.testBit j || memB j d.cand) && ((wcls x.cls && x.pre.testBit r) || candChk r d n (j + 1) l)

def dregChk (P : Program) (E : EnvD) (ops : List Oper) (its : List DItem) : Bool :=
  let n := its.length
  Nat.beq n ops.length &&
  allB (fun i => anyB (fun k => match its[k]? with | some d => Nat.beq d.idx i | none => false) n) n &&
  allB (fun k => match its[k]? with
    | some d => (match ops[d.idx]? with
      | some o => itemChk P E ops o d.it && clsOK d.cls d.it.op && Nat.blt d.pre (2 ^ k) &&
        (o.after.toList.all fun e => !Region.binds .any e || anyB (fun q => match its[q]? with | some dq => Nat.beq dq.idx e.on | none => false) k) &&
        allB (fun q => match d.pre.testBit q with
          | true => hangChk its q o.after.toList k
          | false => (match its[q]? with
            | some dq => !meet dq d && !(wcls dq.cls && isW d.cls) && !(Nat.beq dq.idx d.idx)
            | none => true)) k &&
        (!isR d.cls || candChk k d n 0 its)
      | none => false)
    | none => false) n

theorem onDir_spec {its : List DItem} {q : Nat} : ∀ {es : List Edge}, onDir its q es = true → ∃ e d, e ∈ es ∧ Region.binds .any e = true ∧ its[q]? = some d ∧ d.idx = e.on
  | e :: l, h => by
    simp only [onDir, Bool.or_eq_true, Bool.and_eq_true] at h
    rcases h with ⟨h1, h2⟩ | h
    · split at h2
      · rename_i d hd; exact ⟨e, d, List.mem_cons_self, h1, hd, Nat.eq_of_beq_eq_true h2⟩
      · cases h2
    · obtain ⟨e', d, h1, h2⟩ := onDir_spec h
      exact ⟨e', d, List.mem_cons_of_mem _ h1, h2⟩

theorem testBit_lt {p k q : Nat} (h : p < 2 ^ k) (hq : p.testBit q = true) : q < k := by
  rcases Nat.lt_or_ge q k with h' | h'
  · exact h'
  · have := Nat.testBit_lt_two_pow (Nat.lt_of_lt_of_le h (Nat.pow_le_pow_right (by omega) h'))
    rw [this] at hq; cases hq

theorem candChk_spec {its0 : List DItem} {r : Nat} {d : DItem} : ∀ {l : List DItem} {j0 : Nat}, candChk r d its0.length j0 l = true → its0.drop j0 = l → j0 ≤ its0.length →
    ∀ j, j0 ≤ j → j ≤ its0.length → (j = its0.length ∨ ∃ (dj : DItem), its0[j]? = some dj ∧ wcls dj.cls = true) → d.pre.testBit j = false →
    (∀ (x : Nat) (dx : DItem), x < j → its0[x]? = some dx → wcls dx.cls = true → dx.pre.testBit r = false) → j ∈ d.cand
  | [], j0, h, hd, hle, j, hj, hjl, hw, hp, hx => by
    have hl : its0.length ≤ j0 := by
      have := congrArg List.length hd
      simp at this; omega
    have : j = j0 := by omega
    subst this
    simp only [candChk, hp, Bool.false_or, Bool.or_eq_true, Bool.not_eq_true'] at h
    rcases h with h | h
    · exact memB_iff h
    · have : j = its0.length := by omega
      rw [← this, Nat.beq_refl] at h; cases h
  | y :: l, j0, h, hd, hle, j, hj, hjl, hw, hp, hx => by
    have hlt : j0 < its0.length := by
      have := congrArg List.length hd
      simp at this; omega
    have hy : its0[j0]? = some y := by
      have : (its0.drop j0)[0]? = some y := by rw [hd]; rfl
      rw [List.getElem?_drop] at this
      simpa using this
    have hd' : its0.drop (j0 + 1) = l := by
      rw [← List.drop_drop, hd]; rfl
    simp only [candChk, Bool.and_eq_true, Bool.or_eq_true, Bool.not_eq_true'] at h
    obtain ⟨h1, h2⟩ := h
    by_cases e : j = j0
    · subst e
      rcases h1 with (h1 | h1) | h1
      · rcases hw with hw | ⟨dj, hw1, hw2⟩
        · omega
        · rw [hy] at hw1; cases hw1
          rw [h1] at hw2; cases hw2
      · rw [hp] at h1; cases h1
      · exact memB_iff h1
    · rcases h2 with ⟨h2, h3⟩ | h2
      · have := hx j0 y (by omega) hy h2
        rw [h3] at this; cases this
      · exact candChk_spec h2 hd' hlt j (by omega) hjl hw hp hx

theorem dregChk_sound {P : Program} {E : EnvD} {ops : Array Oper} {its : List DItem} (h : dregChk P E ops.toList its = true) : DOK P E ops its := by
  simp only [dregChk, Bool.and_eq_true] at h
  obtain ⟨⟨h1, h2⟩, h3⟩ := h
  have hlen : its.length = ops.size := by have := Nat.eq_of_beq_eq_true h1; simpa using this
  have hall := allB_spec h3
  have hsur := allB_spec h2
  have key : ∀ (k : Nat) (d : DItem), its[k]? = some d → ∃ o, ops[d.idx]? = some o ∧ itemChk P E ops.toList o d.it = true ∧ clsOK d.cls d.it.op = true ∧ d.pre < 2 ^ k ∧
      (∀ e ∈ o.after, Region.binds .any e = true → anyB (fun q => match its[q]? with | some dq => Nat.beq dq.idx e.on | none => false) k = true) ∧
      (∀ q, q < k → (match d.pre.testBit q with
          | true => hangChk its q o.after.toList k
          | false => (match its[q]? with
            | some dq => !meet dq d && !(wcls dq.cls && isW d.cls) && !(Nat.beq dq.idx d.idx)
            | none => true)) = true) ∧
      (d.cls = .R → candChk k d its.length 0 its = true) := by
    intro k d hk
    have hkl := (List.getElem?_eq_some_iff.1 hk).1
    have := hall k hkl
    rw [hk] at this
    simp only at this
    split at this
    · rename_i o ho
      simp only [Bool.and_eq_true, Bool.or_eq_true, Bool.not_eq_true', List.all_eq_true] at this
      obtain ⟨⟨⟨⟨⟨g1, g2⟩, g3⟩, g4⟩, g5⟩, g6⟩ := this
      refine ⟨o, by rw [← Array.getElem?_toList]; exact ho, g1, g2, ?_, ?_, allB_spec g5, ?_⟩
      · exact Nat.le_of_ble_eq_true g3
      · intro e he hb
        rcases g4 e (by simpa using he) with h' | h'
        · rw [hb] at h'; cases h'
        · exact h'
      · intro hc
        rcases g6 with h' | h'
        · rw [hc] at h'; cases h'
        · exact h'
    · cases this
  have hedge : ∀ (k : Nat) (d : DItem) (o : Oper) (e : Edge), its[k]? = some d → ops[d.idx]? = some o → e ∈ o.after → Region.binds .any e = true → ∃ (q : Nat) (dq : DItem), q < k ∧ its[q]? = some dq ∧ dq.idx = e.on := by
    intro k d o e hk ho he hb
    obtain ⟨o', ho', _, _, _, g, _⟩ := key k d hk
    rw [ho] at ho'; cases ho'
    obtain ⟨q, hq, h'⟩ := anyB_spec (g e he hb)
    split at h'
    · rename_i dq hdq; exact ⟨q, dq, hq, hdq, Nat.eq_of_beq_eq_true h'⟩
    · cases h'
  have hpre : ∀ (k : Nat) (d : DItem) (q : Nat), its[k]? = some d → d.pre.testBit q = true → Hangs ops its k q := by
    intro k
    induction k using Nat.strongRecOn with
    | ind k ih =>
      intro d q hk hp
      obtain ⟨o, ho, _, _, hlt, _, g, _⟩ := key k d hk
      have hq := testBit_lt hlt hp
      have h' := g q hq
      rw [hp] at h'
      simp only [hangChk, Bool.or_eq_true] at h'
      rcases h' with h' | h'
      · obtain ⟨e, dq, he, hb, hdq, hi⟩ := onDir_spec h'
        exact .direct hk ho (by simpa using he) hb hdq hi
      · obtain ⟨m, hm, h'⟩ := anyB_spec h'
        simp only [Bool.and_eq_true] at h'
        obtain ⟨h'1, h'2⟩ := h'
        obtain ⟨e, dm, he, hb, hdm, hi⟩ := onDir_spec h'1
        rw [hdm] at h'2
        exact .step (.direct hk ho (by simpa using he) hb hdm hi) (ih m hm dm q hdm h'2)
  have hfree : ∀ (k k' : Nat) (d d' : DItem), k < k' → its[k]? = some d → its[k']? = some d' → d'.pre.testBit k = false → meet d d' = false ∧ (wcls d.cls && isW d'.cls) = false ∧ d.idx ≠ d'.idx := by
    intro k k' d d' hlt hk hk' hp
    obtain ⟨o, ho, _, _, _, _, g, _⟩ := key k' d' hk'
    have h' := g k hlt
    rw [hp] at h'
    simp only [hk] at h'
    simp only [Bool.and_eq_true, Bool.not_eq_true'] at h'
    refine ⟨h'.1.1, h'.1.2, fun e => ?_⟩
    rw [e, Nat.beq_refl] at h'
    cases h'.2
  have hinj0 : ∀ (k k' : Nat) (d d' : DItem), k < k' → its[k]? = some d → its[k']? = some d' → d.idx ≠ d'.idx := by
    intro k k' d d' hlt hk hk' e
    cases hp : d'.pre.testBit k with
    | false => exact (hfree k k' d d' hlt hk hk' hp).2.2 e
    | true =>
      -- the numbers are all there, so that none is there twice
      have hall : ∀ i, i < its.length → i ∈ its.map (·.idx) := by
        intro i hi
        obtain ⟨m, hm, h'⟩ := anyB_spec (hsur i hi)
        split at h'
        · rename_i dm hdm
          exact List.mem_map.2 ⟨dm, List.mem_of_getElem? hdm, Nat.eq_of_beq_eq_true h'⟩
        · cases h'
      have hsub : List.range its.length ⊆ (its.map (·.idx)).eraseIdx k := by
        intro i hi
        have hi' := hall i (List.mem_range.1 hi)
        rw [List.mem_eraseIdx_iff_getElem?]
        obtain ⟨m, hm⟩ := List.mem_iff_getElem?.1 hi'
        by_cases e2 : m = k
        · subst e2
          refine ⟨k', by omega, ?_⟩
          rw [List.getElem?_map, hk] at hm
          rw [List.getElem?_map, hk']
          simp only [Option.map_some, Option.some.injEq] at hm ⊢
          omega
        · exact ⟨m, e2, hm⟩
      have h1 := List.nodup_range.length_le_of_subset hsub
      have hkl := (List.getElem?_eq_some_iff.1 hk).1
      rw [List.length_eraseIdx] at h1
      simp only [List.length_range, List.length_map] at h1
      rw [if_pos hkl] at h1
      omega
  refine ⟨hlen, ?_, ?_, ?_, hedge, hpre, fun k d hk => (key k d hk).choose_spec.2.2.1, ?_, ?_, ?_⟩
  · intro k d hk
    obtain ⟨o, ho, h', _⟩ := key k d hk
    exact ⟨o, ho, itemChk_sound h'⟩
  · intro k k' d d' hk hk' e
    rcases Nat.lt_trichotomy k k' with h' | h' | h'
    · exact absurd e (hinj0 k k' d d' h' hk hk')
    · exact h'
    · exact absurd e.symm (hinj0 k' k d' d h' hk' hk)
  · intro i hi
    obtain ⟨m, hm, h'⟩ := anyB_spec (hsur i (by omega))
    split at h'
    · rename_i dm hdm; exact ⟨m, dm, hdm, Nat.eq_of_beq_eq_true h'⟩
    · cases h'
  · intro k k' d d' t hlt hk hk' hcol
    cases hp : d'.pre.testBit k with
    | true => rfl
    | false =>
      exfalso
      have hm := (hfree k k' d d' hlt hk hk' hp).1
      simp only [meet, Bool.or_eq_false_iff] at hm
      obtain ⟨m1, m2⟩ := hm
      rcases hcol with ⟨c1, c2⟩ | ⟨c1, c2⟩
      · rw [c1] at m1
        simp only [Bool.or_eq_false_iff] at m1
        rcases c2 with c2 | c2
        · rw [memB_of c2] at m1; cases m1.1
        · rw [c2] at m1; simp at m1
      · rw [c1] at m2
        simp only at m2
        rw [memB_of c2] at m2; cases m2
  · intro k k' d d' hlt hk hk' hw hW
    cases hp : d'.pre.testBit k with
    | true => rfl
    | false =>
      have hm := (hfree k k' d d' hlt hk hk' hp).2.1
      rw [hw, hW] at hm; cases hm
  · intro r d j hk hc hj hw hp hx
    obtain ⟨o, ho, _, _, _, _, _, g⟩ := key r d hk
    exact candChk_spec (g hc) (by simp) (Nat.zero_le _) j (Nat.zero_le _) hj hw hp hx
end Go.Sim
