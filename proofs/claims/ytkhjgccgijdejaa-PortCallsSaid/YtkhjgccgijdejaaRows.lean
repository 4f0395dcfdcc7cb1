/-
  No cell of these rows narrows 'for every input' (looked for: loops, veiled, ifaces, maps, wideKeys, modest, calm, conditions, laid).
  DERIVED. THE GIVEN ROWS OF THIS SEAT. 4 by the template 'for every input the law returns true; each argument reads behind the call as it read before'; 0 by the template 'total and deterministic' (their statements: YtkhjgccgijdejaaTotals.lean).
  GIVEN WITH THE SEED: the statements are not yours to turn. If you find one false, say at which input.
  Laid BY PROGRAM, IN A SANDBOX (cutbox-rows.mjs): the forced cells as the released guide's own fill.sh prints them over the translation 37d39f6357c1734b… (all of the seat's roots in one cut). By AI agents, Wed Nov 11 2026. No macro, syntax, notation, axiom, sorry.
-/
import Derived.Test.YtkhjgccgijdejaaChecked
import GoSem.Claim
import GoSem.ClaimJoined
import GoSem.ClaimMapViews
import Derived.JoinedTies
import Derived.KernelRfl
namespace Go.Proofs.Ytkhjgccgijdejaa
/- THE CELL 'sum', in the pinned program and in every row, IS THE sha256 OF THE DUMP (.gsa) THAT YtkhjgccgijdejaaProg.lean LOADS. Nothing in Lean hashes anything: it is a label: what it is worth is what the hold of that sum in a sandbox is worth. -/
noncomputable def Try.pinned : Pinned := { name := "ytkhjgccgijdejaa", sum := "37d39f6357c1734b7ebbbb1070866a111226f0ebc72b8efd77e29b39da7d39f9", checked := Try.checked }
namespace Rows
def none {H : Type} : Left H := { results := [], args := [] }

/-- 'pendulumlaw14.PortLists': WHATEVER THE INPUT: true; the input reads as it did. -/
def portListsSpec : ChangeSpec := { name := "portLists", fn := fun _ => fun
  | [d] => { results := [.lit (.bool true)], args := [d] }
  | _ => none }
def portListsRow : OpenClaim := { program := "ytkhjgccgijdejaa", sum := "37d39f6357c1734b7ebbbb1070866a111226f0ebc72b8efd77e29b39da7d39f9", func := "pendulum/pendulumlaw14.PortLists", spec := "portLists", unfollowed := true, recurses := true, apart := false }
def PortListsSaid : Prop := portListsRow.holds Try.pinned (OpenSpec.ofChange portListsSpec)

/-- ITS FALSE NEIGHBOUR: 'it returns false'. Refute it at one input. -/
def portListsWrong : ChangeSpec := { name := "portLists", fn := fun _ => fun
  | [d] => { results := [.lit (.bool false)], args := [d] }
  | _ => none }
def PortListsWrongFalsely : Prop := portListsRow.holds Try.pinned (OpenSpec.ofChange portListsWrong)

/-- 'pendulumlaw14.PortNames': WHATEVER THE INPUT: true; the input reads as it did. -/
def portNamesSpec : ChangeSpec := { name := "portNames", fn := fun _ => fun
  | [] => { results := [.lit (.bool true)], args := [] }
  | _ => none }
def portNamesRow : OpenClaim := { program := "ytkhjgccgijdejaa", sum := "37d39f6357c1734b7ebbbb1070866a111226f0ebc72b8efd77e29b39da7d39f9", func := "pendulum/pendulumlaw14.PortNames", spec := "portNames", unfollowed := true, recurses := true, apart := false }
def PortNamesSaid : Prop := portNamesRow.holds Try.pinned (OpenSpec.ofChange portNamesSpec)

/-- ITS FALSE NEIGHBOUR: 'it returns false'. Refute it at one input. -/
def portNamesWrong : ChangeSpec := { name := "portNames", fn := fun _ => fun
  | [] => { results := [.lit (.bool false)], args := [] }
  | _ => none }
def PortNamesWrongFalsely : Prop := portNamesRow.holds Try.pinned (OpenSpec.ofChange portNamesWrong)

/-- 'pendulumlaw14.PortUsuals': WHATEVER THE INPUT: true; the input reads as it did. -/
def portUsualsSpec : ChangeSpec := { name := "portUsuals", fn := fun _ => fun
  | [d1, d2, d3] => { results := [.lit (.bool true)], args := [d1, d2, d3] }
  | _ => none }
def portUsualsRow : OpenClaim := { program := "ytkhjgccgijdejaa", sum := "37d39f6357c1734b7ebbbb1070866a111226f0ebc72b8efd77e29b39da7d39f9", func := "pendulum/pendulumlaw14.PortUsuals", spec := "portUsuals", unfollowed := true, recurses := true, apart := false }
def PortUsualsSaid : Prop := portUsualsRow.holds Try.pinned (OpenSpec.ofChange portUsualsSpec)

/-- ITS FALSE NEIGHBOUR: 'it returns false'. Refute it at one input. -/
def portUsualsWrong : ChangeSpec := { name := "portUsuals", fn := fun _ => fun
  | [d1, d2, d3] => { results := [.lit (.bool false)], args := [d1, d2, d3] }
  | _ => none }
def PortUsualsWrongFalsely : Prop := portUsualsRow.holds Try.pinned (OpenSpec.ofChange portUsualsWrong)

/-- 'pendulumlaw14.PortCalls': WHATEVER THE INPUT: true; the input reads as it did. -/
def portCallsSpec : ChangeSpec := { name := "portCalls", fn := fun _ => fun
  | [d1, d2] => { results := [.lit (.bool true)], args := [d1, d2] }
  | _ => none }
def portCallsRow : OpenClaim := { program := "ytkhjgccgijdejaa", sum := "37d39f6357c1734b7ebbbb1070866a111226f0ebc72b8efd77e29b39da7d39f9", func := "pendulum/pendulumlaw14.PortCalls", spec := "portCalls", unfollowed := true, recurses := true, apart := false }
def PortCallsSaid : Prop := portCallsRow.holds Try.pinned (OpenSpec.ofChange portCallsSpec)

/-- ITS FALSE NEIGHBOUR: 'it returns false'. Refute it at one input. -/
def portCallsWrong : ChangeSpec := { name := "portCalls", fn := fun _ => fun
  | [d1, d2] => { results := [.lit (.bool false)], args := [d1, d2] }
  | _ => none }
def PortCallsWrongFalsely : Prop := portCallsRow.holds Try.pinned (OpenSpec.ofChange portCallsWrong)

/- THE SECOND FORM. 'bulk': how many values and letters a reading holds, each counted each time it is reached (what is shared counts as often as it is met; a slice's spare places count too). A statement '..UptoSaid' is the law's where the arguments, and the package variables that the reading takes, are together of bulk at most 1048576: NARROWER than '..Said'. Prove '..Said' where nothing that the law and all that it calls make is longer than what came in: it says more and counts as full. Else prove '..UptoSaid'. A law counts once. -/
mutual
def uptoBulk {H : Type} : DataW H → Nat
  | .lit (.string bytes) => bytes.length + 1
  | .lit _ => 1
  | .nil => 1
  | .ptr d => uptoBulk d + 1
  | .slice elems spare => uptoBulkAll elems + uptoBulkAll spare + 1
  | .agg parts => uptoBulkAll parts + 1
  | .iface _ d => uptoBulk d + 1
  | .map entries => uptoBulkEntries entries + 1
  | .held _ => 1
def uptoBulkAll {H : Type} : List (DataW H) → Nat
  | [] => 0
  | d :: r => uptoBulk d + uptoBulkAll r
def uptoBulkEntries {H : Type} : List (Lit × DataW H) → Nat
  | [] => 0
  | x :: r => uptoBulkEntry x + uptoBulkEntries r
def uptoBulkEntry {H : Type} : Lit × DataW H → Nat
  | (.string bytes, d) => bytes.length + uptoBulk d + 1
  | (_, d) => uptoBulk d + 1
 end
def uptoSmall : (H : Type) → List (DataW H) → Bool := fun _ ds => decide (uptoBulkAll ds ≤ 1048576)
def OpenSpec.upto (s : _root_.Go.ChangeSpec) : _root_.Go.OpenSpec := { _root_.Go.OpenSpec.ofChange s with cond := some uptoSmall }

/-- 'pendulumlaw14.PortLists', WHERE WHAT IT READS IS OF BULK AT MOST 1048576: true; the input reads as it did. -/
def portListsUptoRow : OpenClaim := { program := "ytkhjgccgijdejaa", sum := "37d39f6357c1734b7ebbbb1070866a111226f0ebc72b8efd77e29b39da7d39f9", func := "pendulum/pendulumlaw14.PortLists", spec := "portLists", unfollowed := true, recurses := true, apart := false, narrowed := true }
def PortListsUptoSaid : Prop := portListsUptoRow.holds Try.pinned (OpenSpec.upto portListsSpec)

/-- 'pendulumlaw14.PortNames', WHERE WHAT IT READS IS OF BULK AT MOST 1048576: true; the input reads as it did. -/
def portNamesUptoRow : OpenClaim := { program := "ytkhjgccgijdejaa", sum := "37d39f6357c1734b7ebbbb1070866a111226f0ebc72b8efd77e29b39da7d39f9", func := "pendulum/pendulumlaw14.PortNames", spec := "portNames", unfollowed := true, recurses := true, apart := false, narrowed := true }
def PortNamesUptoSaid : Prop := portNamesUptoRow.holds Try.pinned (OpenSpec.upto portNamesSpec)

/-- 'pendulumlaw14.PortUsuals', WHERE WHAT IT READS IS OF BULK AT MOST 1048576: true; the input reads as it did. -/
def portUsualsUptoRow : OpenClaim := { program := "ytkhjgccgijdejaa", sum := "37d39f6357c1734b7ebbbb1070866a111226f0ebc72b8efd77e29b39da7d39f9", func := "pendulum/pendulumlaw14.PortUsuals", spec := "portUsuals", unfollowed := true, recurses := true, apart := false, narrowed := true }
def PortUsualsUptoSaid : Prop := portUsualsUptoRow.holds Try.pinned (OpenSpec.upto portUsualsSpec)

/-- 'pendulumlaw14.PortCalls', WHERE WHAT IT READS IS OF BULK AT MOST 1048576: true; the input reads as it did. -/
def portCallsUptoRow : OpenClaim := { program := "ytkhjgccgijdejaa", sum := "37d39f6357c1734b7ebbbb1070866a111226f0ebc72b8efd77e29b39da7d39f9", func := "pendulum/pendulumlaw14.PortCalls", spec := "portCalls", unfollowed := true, recurses := true, apart := false, narrowed := true }
def PortCallsUptoSaid : Prop := portCallsUptoRow.holds Try.pinned (OpenSpec.upto portCallsSpec)

end Rows
end Go.Proofs.Ytkhjgccgijdejaa
