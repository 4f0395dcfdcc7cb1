/- Regions that draw their order: whatever order is drawn, it comes to what the evaluator says. -/
import Derived.Test.YtdppeaciahdekaaGreatSimDrawB
set_option linter.unusedSimpArgs false
namespace Go.Sim
open Classical

def istep (E : EnvD) (T : Tmps) (H : AHeap) (it : AItem) : Option (AVal × AHeap) :=
  match wantedA T it.guard with
  | some true => match aop E T H it.op with
    | some (.val v, H') => some (v, H')
    | _ => none
  | some false => some (AVal.undef, H)
  | none => none

def glooks (it : AItem) : List Nat := looks it.op ++ (match it.guard with | some (t, _) => [t] | none => [])

def wcls : Cls → Bool
  | .A | .W => true
  | _ => false

/-- The guard of an operation, by the slot that it looks at. -/
def GuardOK (ops : Array Oper) (o : Oper) (it : AItem) : Prop :=
  match o.guard, it.guard with
  | none, none => True
  | some (j, b), some (t, b') => b = b' ∧ (ops[j]?).bind (·.dst) = some t
  | _, _ => False

/-- What must be done ahead of an operation. -/
inductive Hangs (ops : Array Oper) (its : List DItem) : Nat → Nat → Prop where
  | direct {k q : Nat} {d dq : DItem} {o : Oper} {e : Edge} (hk : its[k]? = some d) (ho : ops[d.idx]? = some o) (he : e ∈ o.after) (hb : Region.binds .any e = true) (hq : its[q]? = some dq) (hi : dq.idx = e.on) : Hangs ops its k q
  | step {k m q : Nat} (h : Hangs ops its k m) (h' : Hangs ops its m q) : Hangs ops its k q

structure ItemOK (P : Program) (E : EnvD) (ops : Array Oper) (o : Oper) (it : AItem) : Prop where
  op : comp P E o.op = some it.op ∨ it.op = .bad
  dst : o.dst = it.dst
  guard : GuardOK ops o it

structure DOK (P : Program) (E : EnvD) (ops : Array Oper) (its : List DItem) : Prop where
  len : its.length = ops.size
  item : ∀ (k : Nat) (d : DItem), its[k]? = some d → ∃ o, ops[d.idx]? = some o ∧ ItemOK P E ops o d.it
  inj : ∀ (k : Nat) (k' : Nat) (d : DItem) (d' : DItem), its[k]? = some d → its[k']? = some d' → d.idx = d'.idx → k = k'
  sur : ∀ (i : Nat), i < ops.size → ∃ (k : Nat) (d : DItem), its[k]? = some d ∧ d.idx = i
  edge : ∀ (k : Nat) (d : DItem) (o : Oper) (e : Edge), its[k]? = some d → ops[d.idx]? = some o → e ∈ o.after → Region.binds .any e = true → ∃ (q : Nat) (dq : DItem), q < k ∧ its[q]? = some dq ∧ dq.idx = e.on
  pre : ∀ (k : Nat) (d : DItem) (q : Nat), its[k]? = some d → d.pre.testBit q = true → Hangs ops its k q
  cls : ∀ (k : Nat) (d : DItem), its[k]? = some d → clsOK d.cls d.it.op = true
  s1 : ∀ (k : Nat) (k' : Nat) (d : DItem) (d' : DItem) (t : Nat), k < k' → its[k]? = some d → its[k']? = some d' → ((d.it.dst = some t ∧ (t ∈ glooks d'.it ∨ d'.it.dst = some t)) ∨ (d'.it.dst = some t ∧ t ∈ glooks d.it)) → d'.pre.testBit k = true
  c1 : ∀ (k : Nat) (k' : Nat) (d : DItem) (d' : DItem), k < k' → its[k]? = some d → its[k']? = some d' → wcls d.cls = true → d'.cls = .W → d'.pre.testBit k = true
  cand : ∀ (r : Nat) (d : DItem) (j : Nat), its[r]? = some d → d.cls = .R → j ≤ its.length → (j = its.length ∨ ∃ (dj : DItem), its[j]? = some dj ∧ wcls dj.cls = true) → d.pre.testBit j = false →
    (∀ (x : Nat) (dx : DItem), x < j → its[x]? = some dx → wcls dx.cls = true → dx.pre.testBit r = false) → j ∈ d.cand

/-- Is it listed? -/
def sB (its : List DItem) (listed : Array Bool) (k : Nat) : Bool :=
  match its[k]? with
  | some d => listed.getD d.idx false
  | none => false

def Closed (ops : Array Oper) (listed : Array Bool) : Prop :=
  ∀ (i : Nat) (o : Oper) (e : Edge), listed.getD i false = true → ops[i]? = some o → e ∈ o.after → Region.binds .any e = true → listed.getD e.on false = true

theorem hangs_listed {ops : Array Oper} {its : List DItem} {listed : Array Bool} (hc : Closed ops listed) {k q : Nat} (h : Hangs ops its k q) : sB its listed k = true → sB its listed q = true := by
  induction h with
  | direct hk ho he hb hq hi =>
    intro hs
    simp only [sB, hk] at hs
    simp only [sB, hq, hi]
    exact hc _ _ _ hs ho he hb
  | step _ _ ih1 ih2 => exact fun hs => ih2 (ih1 hs)

/-- What an operation that is ready hangs on is listed. -/
theorem hangs_ready {ops : Array Oper} {its : List DItem} {listed : Array Bool} (hc : Closed ops listed) {k q : Nat} (h : Hangs ops its k q) :
    ∀ d, its[k]? = some d → d.idx ∈ Region.ready .any ops listed → sB its listed q = true := by
  induction h with
  | direct hk ho he hb hq hi =>
    intro d hd hr
    rw [hk] at hd; cases hd
    obtain ⟨_, o, ho', hall⟩ := mem_ready.1 hr
    rw [ho] at ho'; cases ho'
    simp only [sB, hq, hi]
    exact hall _ he hb
  | step _ h2 ih1 _ => exact fun d hd hr => hangs_listed hc h2 (ih1 d hd hr)

/-- The last listed writer of a slot, and what it wrote. -/
def lastw (its : List DItem) (vl : Nat → AVal) (T0 : Tmps) (s : Nat → Bool) (t : Nat) : Nat → AVal
  | 0 => tget T0 t
  | k + 1 => match its[k]? with
    | some d => if s k = true ∧ d.it.dst = some t then vl k else lastw its vl T0 s t k
    | none => lastw its vl T0 s t k

theorem lastw_congr {its : List DItem} {vl : Nat → AVal} {T0 : Tmps} {s s' : Nat → Bool} {t : Nat} : ∀ {n : Nat}, (∀ (k : Nat) (d : DItem), k < n → its[k]? = some d → d.it.dst = some t → s k = s' k) → lastw its vl T0 s t n = lastw its vl T0 s' t n
  | 0, _ => rfl
  | n + 1, h => by
    simp only [lastw]
    rw [lastw_congr fun k d hk => h k d (by omega)]
    cases hd : its[n]? with
    | none => rfl
    | some d =>
      simp only
      by_cases e : d.it.dst = some t
      · rw [h n d (by omega) hd e]
      · simp [e]

theorem lastw_more {its : List DItem} {vl : Nat → AVal} {T0 : Tmps} {s : Nat → Bool} {t : Nat} {n m : Nat} (hnm : n ≤ m) (h : ∀ (k : Nat) (d : DItem), n ≤ k → its[k]? = some d → d.it.dst = some t → s k = false) : lastw its vl T0 s t m = lastw its vl T0 s t n := by
  induction m with
  | zero => have : n = 0 := by omega
            subst this; rfl
  | succ m ih =>
    by_cases e : n = m + 1
    · subst e; rfl
    · simp only [lastw]
      rw [ih (by omega)]
      cases hd : its[m]? with
      | none => rfl
      | some d =>
        simp only
        by_cases e2 : d.it.dst = some t
        · rw [h m d (by omega) hd e2]; simp
        · simp [e2]

theorem lastw_none {its : List DItem} {vl : Nat → AVal} {T0 : Tmps} {s : Nat → Bool} {t : Nat} (h : ∀ (k : Nat) (d : DItem), its[k]? = some d → d.it.dst ≠ some t) : ∀ n, lastw its vl T0 s t n = tget T0 t
  | 0 => rfl
  | n + 1 => by
    simp only [lastw]
    rw [lastw_none h n]
    cases hd : its[n]? with
    | none => rfl
    | some d => simp [h n d hd]

/-- One more that is listed, and nobody behind it wrote to its slot. -/
theorem lastw_add {its : List DItem} {vl : Nat → AVal} {T0 : Tmps} {s s' : Nat → Bool} {k : Nat} {d : DItem} (hd : its[k]? = some d) (hk : s' k = true) (hs : ∀ j, j ≠ k → s' j = s j) (t : Nat)
    (hlast : ∀ (j : Nat) (dj : DItem), k < j → its[j]? = some dj → dj.it.dst = some t → s j = true → d.it.dst ≠ some t) {n : Nat} (hn : k < n) (hsk : s k = false) :
    lastw its vl T0 s' t n = if d.it.dst = some t then vl k else lastw its vl T0 s t n := by
  induction n with
  | zero => omega
  | succ n ih =>
    simp only [lastw]
    by_cases e : n = k
    · subst e
      rw [hd]
      simp only [hk, true_and, hsk, Bool.false_eq_true, false_and, if_false]
      by_cases e2 : d.it.dst = some t
      · simp [e2]
      · simp only [e2, if_false]
        exact lastw_congr fun j dj hj _ _ => hs j (by omega)
    · rw [ih (by omega), hs n e]
      cases hdn : its[n]? with
      | none => rfl
      | some dn =>
        simp only
        by_cases e3 : s n = true ∧ dn.it.dst = some t
        · have := hlast n dn (by omega) hdn e3.2 e3.1
          simp [e3, this]
        · simp [e3]

/-- A table of slots that is given slot by slot, so far. -/
theorem exists_tmps (f : Nat → AVal) : ∀ n, ∃ T : Tmps, ∀ t, tget T t = if t < n then f t else AVal.undef
  | 0 => ⟨.leaf, fun t => by simp [tget, Trie.get_leaf]⟩
  | n + 1 => by
    obtain ⟨T, h⟩ := exists_tmps f n
    refine ⟨T.set n (some (f n)), fun t => ?_⟩
    unfold tget at h ⊢
    rw [Trie.get_set]
    by_cases e : n = t
    · subst e; simp
    · simp only [e, if_false]
      rw [h t]
      by_cases e2 : t < n
      · simp [e2, show t < n + 1 by omega]
      · simp [e2, show ¬ t < n + 1 by omega]

def join (ρ σ : Ren) : Ren := fun i => match ρ i with
  | some l => some l
  | none => σ i

theorem le_join (ρ σ : Ren) : ρ.le (join ρ σ) := fun i l h => by simp [join, h]

/-- Fewer blocks are kept. -/
theorem WR.anti {K K' : Nat → Prop} {ρ : Ren} {H : AHeap} {w : World} (h : WR K ρ H w) (hk : ∀ b, K' b → K b) : WR K' ρ H w :=
  ⟨fun i b hb => let ⟨l, o, h1, h2, h3, h4⟩ := h.live i b hb; ⟨l, o, h1, h2, h3, fun h' => h4 (hk _ h')⟩, h.inj, h.dom, fun b hb => h.kb b (hk b hb)⟩

/-- What the evaluator found, operation by operation. -/
structure RunOK (call : CallF) (E : EnvD) (n : Nat) (its : List DItem) (Ts : Nat → Tmps) (Hr : Nat → AHeap) (vl : Nat → AVal) (most : Nat) (live : Nat → Bool) : Prop where
  most_le : most ≤ its.length
  lw : ∀ (k : Nat) (d : DItem), its[k]? = some d → live k = true → ∀ (t : Nat), tget (Ts k) t = lastw its vl (Ts 0) live t k
  dst : ∀ (k : Nat) (d : DItem) (x : Nat), its[k]? = some d → live k = true → d.it.dst = some x → x < n
  p : ∀ (k : Nat) (d : DItem), its[k]? = some d → live k = true → d.cls = .P → istep E (Ts k) (Hr k) d.it = some (vl k, Hr k)
  r : ∀ (k : Nat) (d : DItem) (j : Nat), its[k]? = some d → live k = true → d.cls = .R → j ∈ d.cand → j ≤ most → istep E (Ts k) (Hr j) d.it = some (vl k, Hr j)
  a : ∀ (k : Nat) (d : DItem), its[k]? = some d → live k = true → d.cls = .A → istep E (Ts k) (Hr k) d.it = some (vl k, Hr (k + 1)) ∧ achk d (Hr k) (Hr (k + 1)) = true
  w : ∀ (k : Nat) (d : DItem), its[k]? = some d → live k = true → d.cls = .W → k < most ∧ dstep call E (Ts k) (Hr k) d.it = some (.val (vl k) (Hr (k + 1))) ∧ wchk d (Ts k) (Hr k) = true
  anew : ∀ (k : Nat) (d : DItem), its[k]? = some d → live k = true → d.cls = .A → Hr (k + 1) = Hr k ∨ ∃ c, Hr (k + 1) = (Hr k).new (.cells c 0 true)
  stay : ∀ (k : Nat) (d : DItem), its[k]? = some d → wcls d.cls = false → Hr (k + 1) = Hr k
  mono : ∀ (k : Nat), (Hr k).next ≤ (Hr (k + 1)).next
  small : ∀ (k : Nat), k < most → live k = true

theorem mono_le {Hr : Nat → AHeap} (h : ∀ k, (Hr k).next ≤ (Hr (k + 1)).next) {i j : Nat} (hij : i ≤ j) : (Hr i).next ≤ (Hr j).next := by
  induction j with
  | zero => have : i = 0 := by omega
            subst this; exact Nat.le_refl _
  | succ j ih =>
    by_cases e : i = j + 1
    · subst e; exact Nat.le_refl _
    · exact Nat.le_trans (ih (by omega)) (h j)

end Go.Sim
