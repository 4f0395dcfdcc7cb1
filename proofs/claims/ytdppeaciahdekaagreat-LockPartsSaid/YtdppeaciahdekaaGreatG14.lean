/- A part of the proof that LockParts returns true for every input. No condition. -/
import Derived.Test.YtdppeaciahdekaaGreatG12
set_option linter.all false
set_option maxRecDepth 1000000
namespace Go.Sim
def machT : Trie SBlk :=
 (((((((((((((((((Trie.leaf.set 0 (some (.cells (.lst [.ptr (some (1, 0)), .ptr (some (15, 0)), .ptr (some (17, 0)), .ptr (some (18, 0)), i64v 0]) 0 true))).set 1 (some (.opq 0))).set 2 (some (.opq 1))).set 3 (some (.opq 2))).set 4 (some (.opq 3))).set 5 (some (.opq 4))).set 6 (some (.opq 5))).set 7 (some (.opq 6))).set 8 (some (.opq 7))).set 9 (some (.opq 8))).set 10 (some (.opq 9))).set 11 (some (.opq 10))).set 12 (some (.opq 11))).set 13 (some (.opq 12))).set 14 (some (.opq 13))).set 15 (some (.opq 14))).set 17 (some (.opq 15))).set 18 (some (.opq 16))
def machH : SHeap := ⟨20, machT⟩
def stepV : Vars := ⟨[(0, bigT), (0, bigT), (0, 65535), (0, bigT), (0, 1048576), (0, 255), (0, bigT), (1, 12), (0, 1048576), (0, 255)], [], 0⟩
def opqAt (H : SHeap) (i j : Nat) : Bool := match H.get i with | some (.opq k) => Nat.beq k j | _ => false
def noneAt (H : SHeap) (i : Nat) : Bool := match H.get i with | none => true | _ => false
def cpuAt (H : SHeap) : Bool := (List.range 14).all fun i => opqAt H (i + 1) i
def sameT (F : Facts) : Bool := match dec stepV F ⟨false, .v 1, .v 0⟩ with | some b => b | none => false
def stepX (ev : Bool) (F : Facts) : SCallF := fun f l H =>
 bif Nat.beq f 97 then match l with
  | [.ptr (some (1, 0))] => SR.guard (cpuAt H && Nat.ble 20 H.next) (.ok (.ret (.tup [.agg (.lst [.int .i64 1, .sym .u16 (.v 2), .int .u8 0, .int .i64 4]), i64v 1, .bool true]) ⟨H.next + 1000, H.tree⟩))
  | _ => .no
 else bif Nat.beq f 111 then match l with
  | [.ptr (some (1, 0)), .int .u8 0] => SR.guard (cpuAt H && Nat.ble 20 H.next) (.ok (.ret (.tup [.agg (.lst [i64v 1, .int .i64 1, i64v 3, .int .i64 1, i64v 4, i64v 5, .bool true, .int .i64 0, .int .i64 0, .int .u8 0, .bool false]), .int .i64 0]) ⟨H.next + 1000, H.tree.set 1 (some (.opq 20))⟩))
  | _ => .no
 else bif Nat.beq f 113 then match l with
  | [.ptr (some (15, 0))] => SR.guard (opqAt H 15 14 && noneAt H 16 && Nat.ble 20 H.next) (bif ev then .ok (.ret (.slice (some (H.next + 16, 0)) 1 1) ⟨H.next + 1000, (H.tree.set 15 (some (.opq 21))).set (H.next + 16) (some (.cells (.lst [i64v 0, .int .i64 2, i64v 6, i64v 7, i64v 8, i64v 9]) 6 true))⟩)
    else .ok (.ret (.slice none 0 0) ⟨H.next + 1000, H.tree.set 15 (some (.opq 21))⟩))
  | _ => .no
 else bif Nat.beq f 115 then match l with
  | [.ptr (some (17, 0))] => SR.guard (opqAt H 17 15 && Nat.ble 20 H.next) (.ok (.ret (.slice none 0 0) ⟨H.next + 1000, H.tree.set 17 (some (.opq 22))⟩))
  | _ => .no
 else bif Nat.beq f 154 then match l with
  | [.int .u64 0] => .ok (.ret (.int .i64 0) H)
  | [.int .u64 1] => .ok (.ret (.int .i64 1) H)
  | [.int .u64 2] => .ok (.ret (.int .i64 2) H)
  | _ => .no
 else bif Nat.beq f 100 then match l with
  | [.agg a, .agg b] => SR.guard (sameT F && sreq a (.lst [i64v 0, .int .i64 2, i64v 6, i64v 7, i64v 8, i64v 9]) && sreq b (.lst [i64v 1, .int .i64 1, i64v 3, .int .i64 1, i64v 4, i64v 5])) (.ok (.ret (.int .i64 1) H))
  | _ => .no
 else match l with
  | [.ptr (some (18, 0))] => SR.guard (Nat.beq f 117 && opqAt H 18 16 && noneAt H 19 && Nat.ble 20 H.next) (.ok (.ret (.slice none 0 0) ⟨H.next + 1000, H.tree.set 18 (some (.opq 23))⟩))
  | _ => .no
def stepXs (f : FuncId) : Bool := Nat.beq f 97 || Nat.beq f 111 || Nat.beq f 113 || Nat.beq f 115 || Nat.beq f 117 || Nat.beq f 154 || Nat.beq f 100
def stepCall (ev : Bool) (F : Facts) : SCallF := scall (fun f => LP.ct.find f) stepXs (stepX ev F) ⟨stepV, F, LP.E⟩ 1000 100
def evS (time chip seq kind a b : SVal) : List SVal := [time, chip, seq, kind, a, b]
def stepChk (ev : Bool) (F : Facts) : SRes → Bool
 | .ret (.tup [v, .int .i64 0]) H =>
  (match H.get 0 with
  | some (.cells r 0 true) => sreq r (.lst [.ptr (some (1, 0)), .ptr (some (15, 0)), .ptr (some (17, 0)), .ptr (some (18, 0)), .sym .i64 (i64b .add (.v 0) (litS 1))])
  | _ => false) &&
  ((List.range 13).all fun i => opqAt H (i + 2) (i + 1)) && opqAt H 15 21 && noneAt H 16 && opqAt H 17 22 && opqAt H 18 23 && noneAt H 19 &&
  (match dec stepV F ⟨false, .v 1, .v 0⟩ with
  | some true => opqAt H 1 20 && (match v with
   | .slice (some (j, 0)) n m => Nat.blt 19 j && Nat.beq m n && Nat.beq n (bif ev then 2 else 1) && (match H.get j with
    | some (.cells (.lst l) _ true) => sleq l (evS (i64v 1) (.int .i64 1) (i64v 3) (.int .i64 1) (i64v 4) (i64v 5) ++ bif ev then evS (i64v 0) (.int .i64 2) (i64v 6) (i64v 7) (i64v 8) (i64v 9) else [])
    | _ => false)
   | _ => false)
  | some false => opqAt H 1 0 && (match v with
   | .slice none 0 0 => !ev
   | .slice (some (j, 0)) n m => ev && Nat.blt 19 j && Nat.beq m n && Nat.beq n 1 && (match H.get j with
    | some (.cells (.lst l) _ true) => sleq l (evS (i64v 0) (.int .i64 2) (i64v 6) (i64v 7) (i64v 8) (i64v 9))
    | _ => false)
   | _ => false)
  | none => false)
 | _ => false
theorem step_tree1 : stree (fun F => stepCall true F 44 [.ptr (some (0, 0))] machH) (stepChk true) stepV 10 [] = true := by kernel_rfl
theorem step_tree0 : stree (fun F => stepCall false F 44 [.ptr (some (0, 0))] machH) (stepChk false) stepV 10 [] = true := by kernel_rfl
def ordF : Facts := [eqF (.v 0) (.v 1) true, ltF (.v 0) (.v 1) false, ltF (.v 1) (.v 0) false]
def ordChk (_ : Facts) : SRes → Bool
 | .ret (.int .i64 1) _ => true
 | _ => false
def ordA : List SVal := [.agg (.lst [i64v 0, .int .i64 2, i64v 6, i64v 7, i64v 8, i64v 9]), .agg (.lst [i64v 1, .int .i64 1, i64v 3, .int .i64 1, i64v 4, i64v 5])]
theorem ord_tree : stree (fun F => scall0 stepV F 100 ordA ⟨0, .leaf⟩) ordChk stepV 60 ordF = true := by kernel_rfl
def lenOK (n : Int) : Bool := match acall0 154 [.int .u64 n] ⟨0, .leaf⟩ with
 | some (.ret (.int .i64 k) _) => eqI k n
 | _ => false
theorem len0 : lenOK 0 = true := by kernel_rfl
theorem len1 : lenOK 1 = true := by kernel_rfl
theorem len2 : lenOK 2 = true := by kernel_rfl
end Go.Sim
