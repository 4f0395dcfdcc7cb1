/- Is it the same operation? -/
import Derived.Test.YtdppeaciahdekaaGreatSimDrawJ
set_option linter.unusedSimpArgs false
namespace Go.Sim

def eqC : Value → Value → Bool
  | .bool a, .bool b => a == b
  | .int k n, .int k' n' => decide (k = k') && decide (n = n')
  | .string s, .string s' => decide (s = s')
  | .pointer none, .pointer none => true
  | .slice none a b, .slice none c d => Nat.beq a c && Nat.beq b d
  | .map none, .map none => true
  | .nilFunc, .nilFunc => true
  | .nilIface, .nilIface => true
  | .func f a b, .func g c d => decide (f = g) && Nat.beq a.size 0 && Nat.beq b.size 0 && Nat.beq c.size 0 && Nat.beq d.size 0
  | _, _ => false

theorem eqC_sound {a b : Value} (h : eqC a b = true) : a = b := by
  unfold eqC at h
  split at h <;> simp only [Bool.and_eq_true, decide_eq_true_eq, beq_iff_eq, Nat.beq_eq_true_eq, Bool.false_eq_true] at h
  · rw [h]
  · rw [h.1, h.2]
  · rw [h]
  · rfl
  · rw [Nat.eq_of_beq_eq_true h.1, Nat.eq_of_beq_eq_true h.2]
  · rfl
  · rfl
  · rfl
  · obtain ⟨⟨⟨⟨h1, h2⟩, h3⟩, h4⟩, h5⟩ := h
    rw [h1, Array.eq_empty_of_size_eq_zero (Nat.eq_of_beq_eq_true h2), Array.eq_empty_of_size_eq_zero (Nat.eq_of_beq_eq_true h3), Array.eq_empty_of_size_eq_zero (Nat.eq_of_beq_eq_true h4), Array.eq_empty_of_size_eq_zero (Nat.eq_of_beq_eq_true h5)]

def eqO : Operand → Operand → Bool
  | .tmp a, .tmp b => Nat.beq a b
  | .const a, .const b => eqC a b
  | .func a, .func b => Nat.beq a b
  | .global a, .global b => Nat.beq a b
  | _, _ => false

theorem eqO_sound {a b : Operand} (h : eqO a b = true) : a = b := by
  unfold eqO at h
  split at h
  · rw [Nat.eq_of_beq_eq_true h]
  · rw [eqC_sound h]
  · have := Nat.eq_of_beq_eq_true h; subst this; rfl
  · rw [Nat.eq_of_beq_eq_true h]
  · cases h

def eqLs {α : Type} (f : α → α → Bool) : List α → List α → Bool
  | [], [] => true
  | a :: l, b :: m => f a b && eqLs f l m
  | _, _ => false

theorem eqLs_sound {α : Type} {f : α → α → Bool} (hf : ∀ a b, f a b = true → a = b) : ∀ {l m : List α}, eqLs f l m = true → l = m
  | [], [], _ => rfl
  | a :: l, b :: m, h => by
    simp only [eqLs, Bool.and_eq_true] at h
    rw [hf a b h.1, eqLs_sound hf h.2]
  | [], _ :: _, h => by simp [eqLs] at h
  | _ :: _, [], h => by simp [eqLs] at h

def eqM {α : Type} (f : α → α → Bool) : Option α → Option α → Bool
  | none, none => true
  | some a, some b => f a b
  | _, _ => false

theorem eqM_sound {α : Type} {f : α → α → Bool} (hf : ∀ a b, f a b = true → a = b) {l m : Option α} (h : eqM f l m = true) : l = m := by
  unfold eqM at h
  split at h
  · rfl
  · rw [hf _ _ h]
  · cases h

def eqP (a b : Nat × Nat × Operand) : Bool := Nat.beq a.1 b.1 && Nat.beq a.2.1 b.2.1 && eqO a.2.2 b.2.2
theorem eqP_sound (a b : Nat × Nat × Operand) (h : eqP a b = true) : a = b := by
  simp only [eqP, Bool.and_eq_true] at h
  obtain ⟨a1, a2, a3⟩ := a; obtain ⟨b1, b2, b3⟩ := b
  have h1 := Nat.eq_of_beq_eq_true h.1.1
  have h2 := Nat.eq_of_beq_eq_true h.1.2
  have h3 := eqO_sound h.2
  simp only at h1 h2 h3
  rw [h1, h2, h3]

def eqV (a b : AVal) : Bool := beqV depth a b
theorem eqV_sound (a b : AVal) (h : eqV a b = true) : a = b := beqV_sound depth a b h
def eqR (a b : Rope AVal) : Bool := eqV (.agg a) (.agg b)
theorem eqR_sound (a b : Rope AVal) (h : eqR a b = true) : a = b := by
  have := eqV_sound _ _ h
  simpa using this

def eqLK : LK → LK → Bool
  | .arr a, .arr b => Nat.beq a b
  | .sl, .sl => true
  | .st, .st => true
  | _, _ => false
theorem eqLK_sound {a b : LK} (h : eqLK a b = true) : a = b := by
  unfold eqLK at h
  split at h
  · rw [Nat.eq_of_beq_eq_true h]
  · rfl
  · rfl
  · cases h
def eqKd : Kd → Kd → Bool
  | .agg a, .agg b => Nat.beq a b
  | .scal, .scal => true
  | .bool, .bool => true
  | .ptr, .ptr => true
  | .slice, .slice => true
  | .func, .func => true
  | .iface, .iface => true
  | _, _ => false
theorem eqKd_sound {a b : Kd} (h : eqKd a b = true) : a = b := by
  unfold eqKd at h
  split at h
  · rw [Nat.eq_of_beq_eq_true h]
  all_goals first | rfl | cases h

def eqOp : AOp → AOp → Bool
  | .mov x, .mov x' => eqO x x'
  | .pick c a b, .pick c' a' b' => eqO c c' && eqO a a' && eqO b b'
  | .new z, .new z' => eqR z z'
  | .box x, .box x' => eqO x x'
  | .build z ps, .build z' ps' => eqR z z' && eqLs eqP ps ps'
  | .bsl n z ps, .bsl n' z' ps' => Nat.beq n n' && eqR z z' && eqLs eqP ps ps'
  | .ldc x, .ldc x' => eqO x x'
  | .ldr n x, .ldr n' x' => Nat.beq n n' && eqO x x'
  | .sto n a v, .sto n' a' v' => Nat.beq n n' && eqO a a' && eqO v v'
  | .nilc x, .nilc x' => eqO x x'
  | .bin op k c x y, .bin op' k' c' x' y' => decide (op = op') && eqKd k k' && c == c' && eqO x x' && eqO y y'
  | .una op x, .una op' x' => decide (op = op') && eqO x x'
  | .cvt k x, .cvt k' x' => decide (k = k') && eqO x x'
  | .mki t x, .mki t' x' => Nat.beq t t' && eqO x x'
  | .mkf fn a b, .mkf fn' a' b' => decide (fn = fn') && eqLs eqO a a' && eqLs eqO b b'
  | .mkm, .mkm => true
  | .mks n z l c, .mks n' z' l' c' => Nat.beq n n' && eqR z z' && eqO l l' && eqO c c'
  | .sls s x l h, .sls s' x' l' h' => Nat.beq s s' && eqO x x' && eqM eqO l l' && eqM eqO h h'
  | .sla n s x l h, .sla n' s' x' l' h' => Nat.beq n n' && Nat.beq s s' && eqO x x' && eqM eqO l l' && eqM eqO h h'
  | .fa o x, .fa o' x' => Nat.beq o o' && eqO x x'
  | .fld g o s x, .fld g' o' s' x' => g == g' && Nat.beq o o' && Nat.beq s s' && eqO x x'
  | .iaa n s x i, .iaa n' s' x' i' => Nat.beq n n' && Nat.beq s s' && eqO x x' && eqO i i'
  | .ias s x i, .ias s' x' i' => Nat.beq s s' && eqO x x' && eqO i i'
  | .ixa n g s x i, .ixa n' g' s' x' i' => Nat.beq n n' && g == g' && Nat.beq s s' && eqO x x' && eqO i i'
  | .ixs x i, .ixs x' i' => eqO x x' && eqO i i'
  | .lkp k z ok x i, .lkp k' z' ok' x' i' => decide (k = k') && eqV z z' && ok == ok' && eqO x x' && eqO i i'
  | .mup k m i v, .mup k' m' i' v' => decide (k = k') && eqO m m' && eqO i i' && eqO v v'
  | .tas t ok z x, .tas t' ok' z' x' => Nat.beq t t' && ok == ok' && eqV z z' && eqO x x'
  | .ext x i, .ext x' i' => eqO x x' && Nat.beq i i'
  | .call f l, .call f' l' => Nat.beq f f' && eqLs eqO l l'
  | .clv f l, .clv f' l' => eqO f f' && eqLs eqO l l'
  | .inv n r l, .inv n' r' l' => decide (n = n') && eqO r r' && eqLs eqO l l'
  | .len k x, .len k' x' => eqLK k k' && eqO x x'
  | .app s b x y, .app s' b' x' y' => Nat.beq s s' && Nat.beq b b' && eqO x x' && eqO y y'
  | .cpy s x y, .cpy s' x' y' => Nat.beq s s' && eqO x x' && eqO y y'
  | .mnx m x y, .mnx m' x' y' => m == m' && eqO x x' && eqO y y'
  | .dfr f l, .dfr f' l' => eqO f f' && eqLs eqO l l'
  | .pnc x, .pnc x' => eqO x x'
  | .rcv, .rcv => true
  | _, _ => false

theorem eqOp_sound {a b : AOp} (h : eqOp a b = true) : a = b := by
  unfold eqOp at h
  have no {α : Type} {f : α → α → Bool} (hf : ∀ a b, f a b = true → a = b) {l m : List α} (h : eqLs f l m = true) := eqLs_sound hf h
  split at h
  case h_40 => cases h
  all_goals (
    try simp only [Bool.and_eq_true, decide_eq_true_eq, beq_iff_eq] at h)
  all_goals first
    | rfl
    | (rw [eqO_sound h]; done)
    | (rw [eqR_sound _ _ h]; done)
    | (rw [eqO_sound h.1, eqO_sound h.2]; done)
    | (rw [eqR_sound _ _ h.1, eqLs_sound eqP_sound h.2]; done)
    | (rw [Nat.eq_of_beq_eq_true h.1, eqO_sound h.2]; done)
    | (have e := Nat.eq_of_beq_eq_true h.1; subst e; rw [eqO_sound h.2]; done)
    | (rw [h.1, eqO_sound h.2]; done)
    | (rw [eqLK_sound h.1, eqO_sound h.2]; done)
    | (rw [eqO_sound h.1, Nat.eq_of_beq_eq_true h.2]; done)
    | (rw [Nat.eq_of_beq_eq_true h.1, eqLs_sound (fun _ _ => eqO_sound) h.2]; done)
    | (have e := Nat.eq_of_beq_eq_true h.1; subst e; rw [eqLs_sound (fun _ _ => eqO_sound) h.2]; done)
    | (rw [eqO_sound h.1, eqLs_sound (fun _ _ => eqO_sound) h.2]; done)
    | (rw [eqO_sound h.1.1, eqO_sound h.1.2, eqO_sound h.2]; done)
    | (rw [Nat.eq_of_beq_eq_true h.1.1, eqR_sound _ _ h.1.2, eqLs_sound eqP_sound h.2]; done)
    | (rw [Nat.eq_of_beq_eq_true h.1.1, eqO_sound h.1.2, eqO_sound h.2]; done)
    | (rw [h.1.1, eqO_sound h.1.2, eqO_sound h.2]; done)
    | (rw [h.1.1, eqO_sound h.1.2, eqLs_sound (fun _ _ => eqO_sound) h.2]; done)
    | (rw [h.1.1, eqLs_sound (fun _ _ => eqO_sound) h.1.2, eqLs_sound (fun _ _ => eqO_sound) h.2]; done)
    | (rw [Nat.eq_of_beq_eq_true h.1.1.1, eqR_sound _ _ h.1.1.2, eqO_sound h.1.2, eqO_sound h.2]; done)
    | (rw [Nat.eq_of_beq_eq_true h.1.1.1, eqO_sound h.1.1.2, eqM_sound (fun _ _ => eqO_sound) h.1.2, eqM_sound (fun _ _ => eqO_sound) h.2]; done)
    | (rw [Nat.eq_of_beq_eq_true h.1.1.1.1, Nat.eq_of_beq_eq_true h.1.1.1.2, eqO_sound h.1.1.2, eqM_sound (fun _ _ => eqO_sound) h.1.2, eqM_sound (fun _ _ => eqO_sound) h.2]; done)
    | (rw [h.1.1.1, Nat.eq_of_beq_eq_true h.1.1.2, Nat.eq_of_beq_eq_true h.1.2, eqO_sound h.2]; done)
    | (rw [Nat.eq_of_beq_eq_true h.1.1.1, Nat.eq_of_beq_eq_true h.1.1.2, eqO_sound h.1.2, eqO_sound h.2]; done)
    | (rw [Nat.eq_of_beq_eq_true h.1.1.1.1, h.1.1.1.2, Nat.eq_of_beq_eq_true h.1.1.2, eqO_sound h.1.2, eqO_sound h.2]; done)
    | (rw [h.1.1.1.1, eqKd_sound h.1.1.1.2, h.1.1.2, eqO_sound h.1.2, eqO_sound h.2]; done)
    | (rw [h.1.1.1.1, eqV_sound _ _ h.1.1.1.2, h.1.1.2, eqO_sound h.1.2, eqO_sound h.2]; done)
    | (rw [h.1.1.1, eqO_sound h.1.1.2, eqO_sound h.1.2, eqO_sound h.2]; done)
    | (have e := Nat.eq_of_beq_eq_true h.1.1.1; subst e; rw [h.1.1.2, eqV_sound _ _ h.1.2, eqO_sound h.2]; done)
    | skip
end Go.Sim
