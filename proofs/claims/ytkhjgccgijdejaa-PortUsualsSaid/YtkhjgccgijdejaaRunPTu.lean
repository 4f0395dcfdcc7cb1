/- PortUsuals: these are all the cases. -/
import Derived.Test.YtkhjgccgijdejaaRunPTx
namespace Go.Sim.PT
set_option maxRecDepth 1000000
theorem bit (x i : Nat) : x &&& 2 ^ i = 0 ∨ x &&& 2 ^ i = 2 ^ i := by
  cases h : x.testBit i with
  | false =>
    left
    apply Nat.eq_of_testBit_eq
    intro j
    simp only [Nat.testBit_and, Nat.testBit_two_pow, Nat.zero_testBit]
    by_cases e : i = j
    · subst e; simp [h]
    · simp [e]
  | true =>
    right
    apply Nat.eq_of_testBit_eq
    intro j
    simp only [Nat.testBit_and, Nat.testBit_two_pow]
    by_cases e : i = j
    · subst e; simp [h]
    · simp [e]
theorem case2 (x : Nat) : ∃ m v, x &&& m = v ∧ uOK (.int .i64 2) m v = true := by
  rcases bit x 1 with h1 | h1
  rotate_left
  · exact ⟨2, 2, h1, u2x1⟩
  rcases bit x 14 with h14 | h14
  · exact ⟨16384, 0, h14, u2x14⟩
  rcases bit x 15 with h15 | h15
  rotate_left
  · exact ⟨32768, 32768, h15, u2x15⟩
  refine ⟨49154, 16384, ?_, u2⟩
  rw [show (49154 : Nat) = 2 ^ 1 ||| (2 ^ 14 ||| 2 ^ 15) from rfl]
  simp only [Nat.and_or_distrib_left, h1, h14, h15]
  rfl
theorem case3 (x : Nat) : ∃ m v, x &&& m = v ∧ uOK (.int .i64 3) m v = true := by
  rcases bit x 1 with h1 | h1
  rotate_left
  · exact ⟨2, 2, h1, u3x1⟩
  rcases bit x 12 with h12 | h12
  · exact ⟨4096, 0, h12, u3x12⟩
  rcases bit x 13 with h13 | h13
  rotate_left
  · exact ⟨8192, 8192, h13, u3x13⟩
  rcases bit x 14 with h14 | h14
  rotate_left
  · exact ⟨16384, 16384, h14, u3x14⟩
  rcases bit x 15 with h15 | h15
  rotate_left
  · exact ⟨32768, 32768, h15, u3x15⟩
  refine ⟨61442, 4096, ?_, u3⟩
  rw [show (61442 : Nat) = 2 ^ 1 ||| (2 ^ 12 ||| (2 ^ 13 ||| (2 ^ 14 ||| 2 ^ 15))) from rfl]
  simp only [Nat.and_or_distrib_left, h1, h12, h13, h14, h15]
  rfl
theorem case4 (x : Nat) : ∃ m v, x &&& m = v ∧ uOK (.int .i64 4) m v = true := by
  rcases bit x 1 with h1 | h1
  rotate_left
  · exact ⟨2, 2, h1, u4x1⟩
  rcases bit x 14 with h14 | h14
  · exact ⟨16384, 0, h14, u4x14⟩
  rcases bit x 15 with h15 | h15
  · exact ⟨32768, 0, h15, u4x15⟩
  refine ⟨49154, 49152, ?_, u4⟩
  rw [show (49154 : Nat) = 2 ^ 1 ||| (2 ^ 14 ||| 2 ^ 15) from rfl]
  simp only [Nat.and_or_distrib_left, h1, h14, h15]
  rfl
theorem case5 (x : Nat) : ∃ m v, x &&& m = v ∧ uOK (.int .i64 5) m v = true := by
  rcases bit x 1 with h1 | h1
  rotate_left
  · exact ⟨2, 2, h1, u5x1⟩
  rcases bit x 14 with h14 | h14
  rotate_left
  · exact ⟨16384, 16384, h14, u5x14⟩
  rcases bit x 15 with h15 | h15
  · exact ⟨32768, 0, h15, u5x15⟩
  refine ⟨49154, 32768, ?_, u5⟩
  rw [show (49154 : Nat) = 2 ^ 1 ||| (2 ^ 14 ||| 2 ^ 15) from rfl]
  simp only [Nat.and_or_distrib_left, h1, h14, h15]
  rfl
theorem case6 (x : Nat) : ∃ m v, x &&& m = v ∧ uOK (.int .i64 6) m v = true := by
  rcases bit x 1 with h1 | h1
  rotate_left
  · exact ⟨2, 2, h1, u6x1⟩
  rcases bit x 12 with h12 | h12
  rotate_left
  · exact ⟨4096, 4096, h12, u6x12⟩
  rcases bit x 13 with h13 | h13
  · exact ⟨8192, 0, h13, u6x13⟩
  rcases bit x 14 with h14 | h14
  rotate_left
  · exact ⟨16384, 16384, h14, u6x14⟩
  rcases bit x 15 with h15 | h15
  rotate_left
  · exact ⟨32768, 32768, h15, u6x15⟩
  refine ⟨61442, 8192, ?_, u6⟩
  rw [show (61442 : Nat) = 2 ^ 1 ||| (2 ^ 12 ||| (2 ^ 13 ||| (2 ^ 14 ||| 2 ^ 15))) from rfl]
  simp only [Nat.and_or_distrib_left, h1, h12, h13, h14, h15]
  rfl
theorem case7 (x : Nat) : ∃ m v, x &&& m = v ∧ uOK (.int .i64 7) m v = true := by
  rcases bit x 1 with h1 | h1
  rotate_left
  · exact ⟨2, 2, h1, u7x1⟩
  rcases bit x 12 with h12 | h12
  · exact ⟨4096, 0, h12, u7x12⟩
  rcases bit x 13 with h13 | h13
  · exact ⟨8192, 0, h13, u7x13⟩
  rcases bit x 14 with h14 | h14
  rotate_left
  · exact ⟨16384, 16384, h14, u7x14⟩
  rcases bit x 15 with h15 | h15
  rotate_left
  · exact ⟨32768, 32768, h15, u7x15⟩
  refine ⟨61442, 12288, ?_, u7⟩
  rw [show (61442 : Nat) = 2 ^ 1 ||| (2 ^ 12 ||| (2 ^ 13 ||| (2 ^ 14 ||| 2 ^ 15))) from rfl]
  simp only [Nat.and_or_distrib_left, h1, h12, h13, h14, h15]
  rfl
theorem usuals {c p b : Int} (hc : (Lit.int .i64 c).wf = true) (hp : (Lit.int .u16 p).wf = true) (hb : (Lit.int .i64 b).wf = true) :
    ∃ l, (∀ ρ, LR ρ l #[.int .i64 c, .int .u16 p, .int .i64 b]) ∧ okRet (run1 5 l ⟨0, .leaf⟩) = true := by
  obtain ⟨c1, c2⟩ := wf_int hc
  have c1 : -9223372036854775808 ≤ c := c1
  have c2 : c ≤ 9223372036854775807 := c2
  obtain ⟨x, _, hx⟩ := port_mask hp 0
  have any : ∀ ρ, VR ρ (pp 0 0) (.int .u16 p) := hx 0 (Nat.and_zero _)
  by_cases e : c < 1
  · exact ⟨_, fun ρ => LR.three (.part c1 (by omega) (Nat.and_zero _)) (any ρ) (bit_any hb ρ), uLow⟩
  by_cases e2 : 8 < c
  · exact ⟨_, fun ρ => LR.three (.part (by omega) c2 (Nat.and_zero _)) (any ρ) (bit_any hb ρ), uHigh⟩
  obtain ⟨y, hy, hv⟩ := bit_part hb
  have fin : ∀ (k : Int) (m v : Nat), (∀ ρ, VR ρ (pp m v) (.int .u16 p)) → uOK (.int .i64 k) m v = true → c = k → ∃ l, (∀ ρ, LR ρ l #[.int .i64 c, .int .u16 p, .int .i64 b]) ∧ okRet (run1 5 l ⟨0, .leaf⟩) = true := by
    rintro k m v h1 h2 rfl
    exact ⟨_, fun ρ => LR.three (.int _ _) (h1 ρ) (hv ρ), List.all_eq_true.1 h2 y hy⟩
  have hm : ∀ m v, (BitVec.ofInt 16 p).toNat &&& m = v → ∀ ρ, VR ρ (pp m v) (.int .u16 p) := by
    intro m v h
    obtain ⟨x, rfl, hx⟩ := port_mask hp m
    exact hx v h
  have : c = 1 ∨ c = 2 ∨ c = 3 ∨ c = 4 ∨ c = 5 ∨ c = 6 ∨ c = 7 ∨ c = 8 := by omega
  rcases this with h | h | h | h | h | h | h | h
  · rcases bit (BitVec.ofInt 16 p).toNat 0 with h1 | h1
    · exact fin 1 1 0 (hm _ _ h1) u1z h
    · exact fin 1 1 1 (hm _ _ h1) u1o h
  · obtain ⟨m, v, h1, h2⟩ := case2 (BitVec.ofInt 16 p).toNat
    exact fin 2 m v (hm _ _ h1) h2 h
  · obtain ⟨m, v, h1, h2⟩ := case3 (BitVec.ofInt 16 p).toNat
    exact fin 3 m v (hm _ _ h1) h2 h
  · obtain ⟨m, v, h1, h2⟩ := case4 (BitVec.ofInt 16 p).toNat
    exact fin 4 m v (hm _ _ h1) h2 h
  · obtain ⟨m, v, h1, h2⟩ := case5 (BitVec.ofInt 16 p).toNat
    exact fin 5 m v (hm _ _ h1) h2 h
  · obtain ⟨m, v, h1, h2⟩ := case6 (BitVec.ofInt 16 p).toNat
    exact fin 6 m v (hm _ _ h1) h2 h
  · obtain ⟨m, v, h1, h2⟩ := case7 (BitVec.ofInt 16 p).toNat
    exact fin 7 m v (hm _ _ h1) h2 h
  · exact fin 8 0 0 any u8 h
end Go.Sim.PT
