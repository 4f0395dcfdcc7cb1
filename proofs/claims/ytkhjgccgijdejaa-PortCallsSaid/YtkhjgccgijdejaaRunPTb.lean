/- A port, of which the bits that count are known; a class; a bit. -/
import Derived.Test.YtkhjgccgijdejaaRunPTa
namespace Go.Sim.PT
set_option maxRecDepth 1000000
def pp (m v : Nat) : AVal := .part .u16 m v 0 65535
def cls : List AVal := [.part .i64 0 0 (-9223372036854775808) 0, .part .i64 0 0 9 9223372036854775807, .int .i64 1, .int .i64 2, .int .i64 3, .int .i64 4, .int .i64 5, .int .i64 6, .int .i64 7, .int .i64 8]
theorem pick4 {f : Nat → Bool} {a : Nat} (h : [a, a + 1, a + 2, a + 3].all f = true) (l : Nat) (hl : l < 4) : f (a + l) = true := by
  simp only [List.all_cons, List.all_nil, Bool.and_true, Bool.and_eq_true] at h
  match l, hl with
  | 0, _ => exact h.1
  | 1, _ => exact h.2.1
  | 2, _ => exact h.2.2.1
  | 3, _ => exact h.2.2.2
end Go.Sim.PT
