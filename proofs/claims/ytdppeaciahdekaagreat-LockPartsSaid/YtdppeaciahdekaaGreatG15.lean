/- A part of the proof that LockParts returns true for every input. No condition. -/
import Derived.Test.YtdppeaciahdekaaGreatG12
set_option linter.all false
set_option maxRecDepth 1000000
namespace Go.Sim
def ayV : Vars := ⟨[(1, 65536), (0, bigT), (0, 1), (0, 1), (0, 1), (0, 131071), (0, 16), (0, 1)], [], 0⟩
def z64 : SVal := .int .i64 0
def z8 : SVal := .int .u8 0
def ayP (ck b0 b1 b2 sh pl hf : SVal) : SRope SVal := .lst [i64v 0, ck, z64, z8, z8, z8, z8, z8, z8, z8, .int .u8 255, z8, z8, z8, z8, z8, z8, z8, z8, z64, z64, b0, z64, b1, z64, b2, z64, sh, z64, pl, hf, z64, z64, z64]
def ayH : SHeap := ⟨1, (Trie.leaf : Trie SBlk).set 0 (some (.cells (ayP (i64v 1) (i64v 2) (i64v 3) (i64v 4) (.sym .u32 (.v 5)) (i64v 6) (i64v 7)) 0 true))⟩
def ayChk (F : Facts) : SRes → Bool
 | .ret (.slice none 0 0) H => (match H.get 0 with
  | some (.cells r 0 true) => (match r.get 1, r.get 21, r.get 23, r.get 25, r.get 27, r.get 29, r.get 30 with
   | some ck, some b0, some b1, some b2, some sh, some pl, some hf => sreq r (ayP ck b0 b1 b2 sh pl hf) && Nat.ble H.next 1000 && sveq ck (.sym .i64 (i64b .add (.v 1) (litS 1))) && inRg ayV F 0 1 (b0.num .i64) && inRg ayV F 0 1 (b1.num .i64) && inRg ayV F 0 1 (b2.num .i64) && inRg ayV F 0 131071 (sh.num .u32) && inRg ayV F 0 16 (pl.num .i64) && inRg ayV F 0 1 (hf.num .i64)
   | _, _, _, _, _, _, _ => false)
  | _ => false)
 | _ => false
theorem ay_tree : stree (fun F => scall0 ayV F 115 [.ptr (some (0, 0))] ayH) ayChk ayV 60 [] = true := by kernel_rfl
def fdcV : Vars := ⟨[(1, 1048576), (1, 1048576), (0, 1), (0, bigT)], [], 2⟩
def fdcP (ck : SVal) : SRope SVal := .lst [i64v 0, i64v 1, .sb (.v 2), .osl 0, z64, z64, .bool false, z64, .bool false, .int .i64 1, z8, .slice none 0 0, z64, z64, z64, z64, .slice none 0 0, .slice none 0 0, .int .u8 128, ck, z64]
def fdcH : SHeap := ⟨2, (Trie.leaf : Trie SBlk).set 0 (some (.cells (fdcP (i64v 3)) 0 true))⟩
def fdcChk (_ : Facts) : SRes → Bool
 | .ret (.slice none 0 0) H => (match H.get 0 with
  | some (.cells r 0 true) => (match r.get 19 with
   | some ck => sreq r (fdcP ck) && Nat.ble H.next 1000 && sveq ck (.sym .i64 (i64b .add (.v 3) (litS 1)))
   | _ => false)
  | _ => false)
 | _ => false
theorem fdc_tree : stree (fun F => scall0 fdcV F 117 [.ptr (some (0, 0))] fdcH) fdcChk fdcV 60 [] = true := by kernel_rfl
end Go.Sim
