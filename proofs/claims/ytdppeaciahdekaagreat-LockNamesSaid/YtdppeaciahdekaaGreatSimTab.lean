/- Tables by numbers; the evaluator's surroundings out of tables. -/
import Derived.Test.YtdppeaciahdekaaGreatSimExecDef
namespace Go.Sim

/-- A table by numbers. -/
inductive TT (α : Type) where
  | nil
  | node (k : Nat) (a : α) (l r : TT α)
  deriving Inhabited

namespace TT
variable {α : Type}
def find (n : Nat) : TT α → Option α
  | .nil => none
  | .node k a l r => bif Nat.beq n k then some a else bif Nat.blt n k then find n l else find n r
def All (p : Nat → α → Prop) : TT α → Prop
  | .nil => True
  | .node k a l r => p k a ∧ All p l ∧ All p r
def allB (p : Nat → α → Bool) : TT α → Bool
  | .nil => true
  | .node k a l r => p k a && allB p l && allB p r
theorem all_of {p : Nat → α → Prop} : ∀ {t : TT α}, All p t → ∀ n a, find n t = some a → p n a
  | .nil, _, n, a, h => by simp [find] at h
  | .node k b l r, h, n, a, hf => by
    simp only [find] at hf
    cases e : Nat.beq n k with
    | true =>
      rw [e] at hf
      simp only [cond_true, Option.some.injEq] at hf
      subst hf
      rw [Nat.eq_of_beq_eq_true e]; exact h.1
    | false =>
      rw [e] at hf
      simp only [cond_false] at hf
      cases e2 : Nat.blt n k with
      | true => rw [e2] at hf; exact all_of h.2.1 n a hf
      | false => rw [e2] at hf; exact all_of h.2.2 n a hf
theorem all_of_allB {p : Nat → α → Bool} : ∀ {t : TT α}, allB p t = true → All (fun n a => p n a = true) t
  | .nil, _ => trivial
  | .node k b l r, h => by
    simp only [allB, Bool.and_eq_true] at h
    exact ⟨h.1.1, all_of_allB h.1.2, all_of_allB h.2⟩
theorem find_allB {p : Nat → α → Bool} {t : TT α} (h : allB p t = true) {n : Nat} {a : α} (hf : find n t = some a) : p n a = true := all_of (all_of_allB h) n a hf
end TT

/-- Methods, by type and name. -/
structure MRow where
  t : Nat
  n : String
  f : Nat
def methF (t : Nat) (n : String) : List MRow → Option FuncId
  | [] => none
  | r :: l => bif Nat.beq t r.t && decide (n = r.n) then some r.f else methF t n l

/-- The evaluator's surroundings, out of tables. -/
def envOf (Z : TT (Rope AVal)) (M : List MRow) (Q : TT Nat) (C : TT AFunc) (X : List Nat) : EnvD :=
  ⟨fun t => Z.find t, fun t n => methF t n M, fun t => Q.find t, fun f => (C.find f).isSome || X.any (fun x => Nat.beq x f)⟩

end Go.Sim
