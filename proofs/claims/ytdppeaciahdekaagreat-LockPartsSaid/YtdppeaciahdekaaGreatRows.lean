/-
  No cell of these rows narrows 'for every input' (looked for: loops, veiled, ifaces, maps, wideKeys, modest, calm, conditions, laid).
  DERIVED. THE GIVEN ROWS OF THIS SEAT. 6 by the template 'for every input the law returns true; each argument reads behind the call as it read before'; 0 by the template 'total and deterministic' (their statements: YtdppeaciahdekaaGreatTotals.lean).
  GIVEN WITH THE SEED: the statements are not yours to turn. If you find one false, say at which input.
  Laid BY PROGRAM, IN A SANDBOX (cutbox-rows.mjs): the forced cells as the released guide's own fill.sh prints them over the translation 6e316cd4798f1f73… (all of the seat's roots in one cut). By AI agents, Wed Nov 11 2026. No macro, syntax, notation, axiom, sorry.
-/
import Derived.Test.YtdppeaciahdekaaGreatChecked
import GoSem.Claim
import GoSem.ClaimJoined
import GoSem.ClaimMapViews
import Derived.JoinedTies
import Derived.KernelRfl
namespace Go.Proofs.YtdppeaciahdekaaGreat
/- THE CELL 'sum', in the pinned program and in every row, IS THE sha256 OF THE DUMP (.gsa) THAT YtdppeaciahdekaaGreatProg.lean LOADS. Nothing in Lean hashes anything: it is a label: what it is worth is what the hold of that sum in a sandbox is worth. -/
noncomputable def Tryz.pinned : Pinned := { name := "ytdppeaciahdekaagreat", sum := "6e316cd4798f1f735c8ae68583795419be1d94eec583fce54c86aab54a47f3fe", checked := Tryz.checked }
namespace Rows
def none {H : Type} : Left H := { results := [], args := [] }

/-- 'pendulumlaw26.ChipNames': WHATEVER THE INPUT: true; the input reads as it did. -/
def chipNamesSpec : ChangeSpec := { name := "chipNames", fn := fun _ => fun
  | [] => { results := [.lit (.bool true)], args := [] }
  | _ => none }
def chipNamesRow : OpenClaim := { program := "ytdppeaciahdekaagreat", sum := "6e316cd4798f1f735c8ae68583795419be1d94eec583fce54c86aab54a47f3fe", func := "pendulum/pendulumlaw26.ChipNames", spec := "chipNames", unfollowed := true, recurses := true, plainKeys := false, apart := false }
def ChipNamesSaid : Prop := chipNamesRow.holds Tryz.pinned (OpenSpec.ofChange chipNamesSpec)

/-- ITS FALSE NEIGHBOUR: 'it returns false'. Refute it at one input. -/
def chipNamesWrong : ChangeSpec := { name := "chipNames", fn := fun _ => fun
  | [] => { results := [.lit (.bool false)], args := [] }
  | _ => none }
def ChipNamesWrongFalsely : Prop := chipNamesRow.holds Tryz.pinned (OpenSpec.ofChange chipNamesWrong)

/-- 'pendulumlaw26.ChipScript': WHATEVER THE INPUT: true; the input reads as it did. -/
def chipScriptSpec : ChangeSpec := { name := "chipScript", fn := fun _ => fun
  | [d1, d2, d3, d4, d5] => { results := [.lit (.bool true)], args := [d1, d2, d3, d4, d5] }
  | _ => none }
def chipScriptRow : OpenClaim := { program := "ytdppeaciahdekaagreat", sum := "6e316cd4798f1f735c8ae68583795419be1d94eec583fce54c86aab54a47f3fe", func := "pendulum/pendulumlaw26.ChipScript", spec := "chipScript", unfollowed := true, recurses := true, plainKeys := false, apart := false }
def ChipScriptSaid : Prop := chipScriptRow.holds Tryz.pinned (OpenSpec.ofChange chipScriptSpec)

/-- ITS FALSE NEIGHBOUR: 'it returns false'. Refute it at one input. -/
def chipScriptWrong : ChangeSpec := { name := "chipScript", fn := fun _ => fun
  | [d1, d2, d3, d4, d5] => { results := [.lit (.bool false)], args := [d1, d2, d3, d4, d5] }
  | _ => none }
def ChipScriptWrongFalsely : Prop := chipScriptRow.holds Tryz.pinned (OpenSpec.ofChange chipScriptWrong)

/-- 'pendulumlaw24.LockOnce': WHATEVER THE INPUT: true; the input reads as it did. -/
def lockOnceSpec : ChangeSpec := { name := "lockOnce", fn := fun _ => fun
  | [d1, d2] => { results := [.lit (.bool true)], args := [d1, d2] }
  | _ => none }
def lockOnceRow : OpenClaim := { program := "ytdppeaciahdekaagreat", sum := "6e316cd4798f1f735c8ae68583795419be1d94eec583fce54c86aab54a47f3fe", func := "pendulum/pendulumlaw24.LockOnce", spec := "lockOnce", unfollowed := true, recurses := true, plainKeys := false, apart := false }
def LockOnceSaid : Prop := lockOnceRow.holds Tryz.pinned (OpenSpec.ofChange lockOnceSpec)

/-- ITS FALSE NEIGHBOUR: 'it returns false'. Refute it at one input. -/
def lockOnceWrong : ChangeSpec := { name := "lockOnce", fn := fun _ => fun
  | [d1, d2] => { results := [.lit (.bool false)], args := [d1, d2] }
  | _ => none }
def LockOnceWrongFalsely : Prop := lockOnceRow.holds Tryz.pinned (OpenSpec.ofChange lockOnceWrong)

/-- 'pendulumlaw24.LockNil': WHATEVER THE INPUT: true; the input reads as it did. -/
def lockNilSpec : ChangeSpec := { name := "lockNil", fn := fun _ => fun
  | [d] => { results := [.lit (.bool true)], args := [d] }
  | _ => none }
def lockNilRow : OpenClaim := { program := "ytdppeaciahdekaagreat", sum := "6e316cd4798f1f735c8ae68583795419be1d94eec583fce54c86aab54a47f3fe", func := "pendulum/pendulumlaw24.LockNil", spec := "lockNil", unfollowed := true, recurses := true, plainKeys := false, apart := false }
def LockNilSaid : Prop := lockNilRow.holds Tryz.pinned (OpenSpec.ofChange lockNilSpec)

/-- ITS FALSE NEIGHBOUR: 'it returns false'. Refute it at one input. -/
def lockNilWrong : ChangeSpec := { name := "lockNil", fn := fun _ => fun
  | [d] => { results := [.lit (.bool false)], args := [d] }
  | _ => none }
def LockNilWrongFalsely : Prop := lockNilRow.holds Tryz.pinned (OpenSpec.ofChange lockNilWrong)

/-- 'pendulumlaw24.LockParts': WHATEVER THE INPUT: true; the input reads as it did. -/
def lockPartsSpec : ChangeSpec := { name := "lockParts", fn := fun _ => fun
  | [d] => { results := [.lit (.bool true)], args := [d] }
  | _ => none }
def lockPartsRow : OpenClaim := { program := "ytdppeaciahdekaagreat", sum := "6e316cd4798f1f735c8ae68583795419be1d94eec583fce54c86aab54a47f3fe", func := "pendulum/pendulumlaw24.LockParts", spec := "lockParts", unfollowed := true, recurses := true, plainKeys := false, apart := false }
def LockPartsSaid : Prop := lockPartsRow.holds Tryz.pinned (OpenSpec.ofChange lockPartsSpec)

/-- ITS FALSE NEIGHBOUR: 'it returns false'. Refute it at one input. -/
def lockPartsWrong : ChangeSpec := { name := "lockParts", fn := fun _ => fun
  | [d] => { results := [.lit (.bool false)], args := [d] }
  | _ => none }
def LockPartsWrongFalsely : Prop := lockPartsRow.holds Tryz.pinned (OpenSpec.ofChange lockPartsWrong)

/-- 'pendulumlaw24.LockNames': WHATEVER THE INPUT: true; the input reads as it did. -/
def lockNamesSpec : ChangeSpec := { name := "lockNames", fn := fun _ => fun
  | [] => { results := [.lit (.bool true)], args := [] }
  | _ => none }
def lockNamesRow : OpenClaim := { program := "ytdppeaciahdekaagreat", sum := "6e316cd4798f1f735c8ae68583795419be1d94eec583fce54c86aab54a47f3fe", func := "pendulum/pendulumlaw24.LockNames", spec := "lockNames", unfollowed := true, recurses := true, plainKeys := false, apart := false }
def LockNamesSaid : Prop := lockNamesRow.holds Tryz.pinned (OpenSpec.ofChange lockNamesSpec)

/-- ITS FALSE NEIGHBOUR: 'it returns false'. Refute it at one input. -/
def lockNamesWrong : ChangeSpec := { name := "lockNames", fn := fun _ => fun
  | [] => { results := [.lit (.bool false)], args := [] }
  | _ => none }
def LockNamesWrongFalsely : Prop := lockNamesRow.holds Tryz.pinned (OpenSpec.ofChange lockNamesWrong)

/- THE SECOND FORM. 'bulk': how many values and letters a reading holds, each counted each time it is reached (what is shared counts as often as it is met; a slice's spare places count too). A statement '..UptoSaid' is the law's where the arguments, and the package variables that the reading takes, are together of bulk at most 1048576: NARROWER than '..Said'. Prove '..Said' where nothing that the law and all that it calls make is longer than what came in: it says more and counts as full. Else prove '..UptoSaid'. A law counts once. -/
mutual
def uptoBulk {H : Type} : DataW H → Nat
  | .lit (.string bytes) => bytes.length + 1
  | .lit _ => 1
  | .nil => 1
  | .ptr d => uptoBulk d + 1
  | .slice elems spare => uptoBulkAll elems + uptoBulkAll spare + 1
  | .agg parts => uptoBulkAll parts + 1
  | .iface _ d => uptoBulk d + 1
  | .map entries => uptoBulkEntries entries + 1
  | .held _ => 1
def uptoBulkAll {H : Type} : List (DataW H) → Nat
  | [] => 0
  | d :: r => uptoBulk d + uptoBulkAll r
def uptoBulkEntries {H : Type} : List (Lit × DataW H) → Nat
  | [] => 0
  | x :: r => uptoBulkEntry x + uptoBulkEntries r
def uptoBulkEntry {H : Type} : Lit × DataW H → Nat
  | (.string bytes, d) => bytes.length + uptoBulk d + 1
  | (_, d) => uptoBulk d + 1
 end
def uptoSmall : (H : Type) → List (DataW H) → Bool := fun _ ds => decide (uptoBulkAll ds ≤ 1048576)
def OpenSpec.upto (s : _root_.Go.ChangeSpec) : _root_.Go.OpenSpec := { _root_.Go.OpenSpec.ofChange s with cond := some uptoSmall }

/-- 'pendulumlaw26.ChipNames', WHERE WHAT IT READS IS OF BULK AT MOST 1048576: true; the input reads as it did. -/
def chipNamesUptoRow : OpenClaim := { program := "ytdppeaciahdekaagreat", sum := "6e316cd4798f1f735c8ae68583795419be1d94eec583fce54c86aab54a47f3fe", func := "pendulum/pendulumlaw26.ChipNames", spec := "chipNames", unfollowed := true, recurses := true, plainKeys := false, apart := false, narrowed := true }
def ChipNamesUptoSaid : Prop := chipNamesUptoRow.holds Tryz.pinned (OpenSpec.upto chipNamesSpec)

/-- 'pendulumlaw26.ChipScript', WHERE WHAT IT READS IS OF BULK AT MOST 1048576: true; the input reads as it did. -/
def chipScriptUptoRow : OpenClaim := { program := "ytdppeaciahdekaagreat", sum := "6e316cd4798f1f735c8ae68583795419be1d94eec583fce54c86aab54a47f3fe", func := "pendulum/pendulumlaw26.ChipScript", spec := "chipScript", unfollowed := true, recurses := true, plainKeys := false, apart := false, narrowed := true }
def ChipScriptUptoSaid : Prop := chipScriptUptoRow.holds Tryz.pinned (OpenSpec.upto chipScriptSpec)

/-- 'pendulumlaw24.LockOnce', WHERE WHAT IT READS IS OF BULK AT MOST 1048576: true; the input reads as it did. -/
def lockOnceUptoRow : OpenClaim := { program := "ytdppeaciahdekaagreat", sum := "6e316cd4798f1f735c8ae68583795419be1d94eec583fce54c86aab54a47f3fe", func := "pendulum/pendulumlaw24.LockOnce", spec := "lockOnce", unfollowed := true, recurses := true, plainKeys := false, apart := false, narrowed := true }
def LockOnceUptoSaid : Prop := lockOnceUptoRow.holds Tryz.pinned (OpenSpec.upto lockOnceSpec)

/-- 'pendulumlaw24.LockNil', WHERE WHAT IT READS IS OF BULK AT MOST 1048576: true; the input reads as it did. -/
def lockNilUptoRow : OpenClaim := { program := "ytdppeaciahdekaagreat", sum := "6e316cd4798f1f735c8ae68583795419be1d94eec583fce54c86aab54a47f3fe", func := "pendulum/pendulumlaw24.LockNil", spec := "lockNil", unfollowed := true, recurses := true, plainKeys := false, apart := false, narrowed := true }
def LockNilUptoSaid : Prop := lockNilUptoRow.holds Tryz.pinned (OpenSpec.upto lockNilSpec)

/-- 'pendulumlaw24.LockParts', WHERE WHAT IT READS IS OF BULK AT MOST 1048576: true; the input reads as it did. -/
def lockPartsUptoRow : OpenClaim := { program := "ytdppeaciahdekaagreat", sum := "6e316cd4798f1f735c8ae68583795419be1d94eec583fce54c86aab54a47f3fe", func := "pendulum/pendulumlaw24.LockParts", spec := "lockParts", unfollowed := true, recurses := true, plainKeys := false, apart := false, narrowed := true }
def LockPartsUptoSaid : Prop := lockPartsUptoRow.holds Tryz.pinned (OpenSpec.upto lockPartsSpec)

/-- 'pendulumlaw24.LockNames', WHERE WHAT IT READS IS OF BULK AT MOST 1048576: true; the input reads as it did. -/
def lockNamesUptoRow : OpenClaim := { program := "ytdppeaciahdekaagreat", sum := "6e316cd4798f1f735c8ae68583795419be1d94eec583fce54c86aab54a47f3fe", func := "pendulum/pendulumlaw24.LockNames", spec := "lockNames", unfollowed := true, recurses := true, plainKeys := false, apart := false, narrowed := true }
def LockNamesUptoSaid : Prop := lockNamesUptoRow.holds Tryz.pinned (OpenSpec.upto lockNamesSpec)

end Rows
end Go.Proofs.YtdppeaciahdekaaGreat
