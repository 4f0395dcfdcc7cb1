/- The bits of PortUsuals. -/
import Derived.Test.YtkhjgccgijdejaaRunPTv
namespace Go.Sim.PT
set_option maxRecDepth 1000000
def bitA (r : Nat) (s : Bool) : AVal := bif s then .part .i64 15 r 0 9223372036854775807 else .part .i64 15 r (-9223372036854775808) (-1)
def bitL : List AVal := (List.range 16).flatMap fun r => [bitA r true, bitA r false]
theorem bit_part {n : Int} (h : (Lit.int .i64 n).wf = true) : ∃ b ∈ bitL, ∀ ρ, VR ρ b (.int .i64 n) := by
  obtain ⟨h1, h2⟩ := wf_int h
  have h1 : -9223372036854775808 ≤ n := h1
  have h2 : n ≤ 9223372036854775807 := h2
  generalize hr : (BitVec.ofInt IntKind.i64.bits n).toNat &&& 15 = r
  have hlt : r < 16 := by rw [← hr]; exact Nat.lt_of_le_of_lt Nat.and_le_right (by omega)
  have hm : ∀ s, bitA r s ∈ bitL := fun s => List.mem_flatMap.2 ⟨r, List.mem_range.2 hlt, by cases s <;> simp⟩
  by_cases e : 0 ≤ n
  · exact ⟨bitA r true, hm true, fun ρ => .part e h2 hr⟩
  · exact ⟨bitA r false, hm false, fun ρ => .part h1 (by omega) hr⟩
theorem bit_any {n : Int} (h : (Lit.int .i64 n).wf = true) (ρ : Ren) : VR ρ (.part .i64 0 0 (-9223372036854775808) 9223372036854775807) (.int .i64 n) := by
  obtain ⟨h1, h2⟩ := wf_int h
  exact .part h1 h2 (Nat.and_zero _)
theorem port_mask {n : Int} (h : (Lit.int .u16 n).wf = true) (m : Nat) : ∃ x, (BitVec.ofInt 16 n).toNat = x ∧ ∀ v, x &&& m = v → ∀ ρ, VR ρ (pp m v) (.int .u16 n) := by
  obtain ⟨h1, h2⟩ := wf_int h
  exact ⟨_, rfl, fun v hv ρ => .part h1 h2 hv⟩
/-- A port is a class's, or one bit is unlike. -/
theorem unlike {x M W : Nat} : ∀ (l : List Nat), (∀ y, (∀ j ∈ l, y &&& j = W &&& j) → y &&& M = W) → x &&& M = W ∨ ∃ j ∈ l, x &&& j ≠ W &&& j := by
  intro l h
  by_cases e : ∀ j ∈ l, x &&& j = W &&& j
  · exact .inl (h x e)
  · refine .inr ?_
    apply Classical.byContradiction
    intro hn
    exact e fun j hj => Classical.byContradiction fun hne => hn ⟨j, hj, hne⟩
end Go.Sim.PT
