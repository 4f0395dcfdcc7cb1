/- Arguments of the Port laws, as the evaluator knows them. -/
import Derived.Test.YtkhjgccgijdejaaRunPTb
namespace Go.Sim.PT
set_option maxRecDepth 1000000

theorem wf_int {k : IntKind} {n : Int} (h : (Lit.int k n).wf = true) : k.min ≤ n ∧ n ≤ k.max := by
  simp only [Lit.wf, Bool.and_eq_true, decide_eq_true_eq] at h
  exact h

def portChk (x : Nat) : Bool := Nat.beq (Nat.land x 61443) (Nat.add (Nat.mul (Nat.div x 4096) 4096) (Nat.mod x 4))
theorem portAll : allB portChk 65536 = true := by kernel_rfl

theorem port_part {n : Int} (h : (Lit.int .u16 n).wf = true) : ∃ a b, a < 16 ∧ b < 4 ∧ ∀ ρ, VR ρ (pp 61443 (a * 4096 + b)) (.int .u16 n) := by
  obtain ⟨h1, h2⟩ := wf_int h
  have h1 : 0 ≤ n := h1
  have h2 : n ≤ 65535 := h2
  refine ⟨n.toNat / 4096, n.toNat % 4, by omega, by omega, fun ρ => .part h1 h2 ?_⟩
  have e : (BitVec.ofInt IntKind.u16.bits n).toNat = n.toNat := ofInt_nat h1 (by show n.toNat < 65536; omega)
  rw [e]
  have := Nat.eq_of_beq_eq_true (allB_spec portAll n.toNat (by omega))
  exact this

theorem class_part {n : Int} (h : (Lit.int .i64 n).wf = true) : ∃ c ∈ cls, ∀ ρ, VR ρ c (.int .i64 n) := by
  obtain ⟨h1, h2⟩ := wf_int h
  have h1 : -9223372036854775808 ≤ n := h1
  have h2 : n ≤ 9223372036854775807 := h2
  have nomask : (BitVec.ofInt IntKind.i64.bits n).toNat &&& 0 = 0 := Nat.and_zero _
  by_cases e : n < 1
  · exact ⟨.part .i64 0 0 (-9223372036854775808) 0, by simp [cls], fun ρ => .part h1 (by omega) nomask⟩
  · by_cases e2 : 8 < n
    · exact ⟨.part .i64 0 0 9 9223372036854775807, by simp [cls], fun ρ => .part (by omega) h2 nomask⟩
    · have : n = 1 ∨ n = 2 ∨ n = 3 ∨ n = 4 ∨ n = 5 ∨ n = 6 ∨ n = 7 ∨ n = 8 := by omega
      rcases this with rfl | rfl | rfl | rfl | rfl | rfl | rfl | rfl <;> exact ⟨_, by simp only [cls, List.mem_cons, true_or, or_true], fun ρ => .int _ _⟩
end Go.Sim.PT
