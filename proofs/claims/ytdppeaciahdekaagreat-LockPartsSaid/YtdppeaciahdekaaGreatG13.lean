/- A part of the proof that LockParts returns true for every input. No condition. -/
import Derived.Test.YtdppeaciahdekaaGreatG12
set_option linter.all false
set_option maxRecDepth 1000000
namespace Go.Sim
def ulaV : Vars := ⟨scrV ++ [(0, bigT), (0, bigT), (0, 255)], [(0, 255), (0, 255)], 2⟩
def ulaP (fl ck sq : SVal) : SRope SVal := .app 8 (.lst (scrL ++ [.osl 0])) (.app 16384 (.arr 16384 .u8 (.v 0)) (.app 16384 (.arr 16384 .u8 (.v 1)) (.lst [.bool false, .int .u8 7, .int .u8 0, .int .u8 0, fl, ck, sq])))
def ulaH : SHeap := ⟨2, (Trie.leaf : Trie SBlk).set 0 (some (.cells (ulaP (u8v 9) (i64v 7) (i64v 8)) 0 true))⟩
def ulaChk (F : Facts) : SRes → Bool
 | .ret v H => (match H.get 0 with
  | some (.cells r 0 true) => (match r.get 32780, r.get 32781, r.get 32782 with
   | some fl, some ck, some sq => sreq r (ulaP fl ck sq) && Nat.ble H.next 1000 && inRg ulaV F 0 255 (fl.num .u8) && sveq ck (.sym .i64 (i64b .add (.v 7) (litS 1))) && evChk ulaV F 18 2 (i64v 7) (i64v 8) v H sq (.sym .i64 (i64b .add (.v 8) (litS 1)))
   | _, _, _ => false)
  | _ => false)
 | _ => false
theorem ula_tree : stree (fun F => scall0 ulaV F 113 [.ptr (some (0, 0))] ulaH) ulaChk ulaV 60 scrF = true := by kernel_rfl
end Go.Sim
