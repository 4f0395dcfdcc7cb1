/- A part of the proof that LockParts returns true for every input. No condition. -/
import Derived.Test.YtdppeaciahdekaaGreatG20
import Derived.Test.YtdppeaciahdekaaGreatG22
import Derived.Test.YtdppeaciahdekaaGreatG12
import Derived.Maps.Keyed
import Derived.Test.YtdppeaciahdekaaGreatG21
import Derived.StillTailTactics
import Derived.Deep.RegionHeld3
import Derived.Carry
import Derived.BigQuiet
import Derived.Deep.QuietTactic
import Derived.Laws.CopyOwn
set_option linter.all false
section
namespace Go.Sim
attribute [local instance] noRO
open Go.Proofs Go.RowKit Go.Proofs.YtdppeaciahdekaaGreatW.PrintWords Go.Proofs.YtdppeaciahdekaaGreatW.PrintLast Go.Proofs.YtdppeaciahdekaaGreatW.PrintMore
open Go.Proofs.YtdppeaciahdekaaGreat.PLockParts
def ckP (p : S127) : Int := (bank_CheckPatch.f p.f0 p.f1 p.f2).getD 0
theorem ckP_f (p : S127) : bank_CheckPatch.f p.f0 p.f1 p.f2 = some (ckP p) := by
 unfold ckP bank_CheckPatch.f
 repeat (split; rfl)
 rfl
def pchk : List S127 → Int
 | [] => 0
 | p :: l => if ckP p = 0 then pchk l else ckP p
theorem pchk_drop {ps : List S127} {i : Nat} (hi : i < ps.length) : pchk (ps.drop i) = if ckP (rd_T127 ps i) = 0 then pchk (ps.drop (i + 1)) else ckP (rd_T127 ps i) := by
 rw [List.drop_eq_getElem_cons hi]
 have : rd_T127 ps i = ps[i] := by simp [rd_T127, List.getD_eq_getElem?_getD, hi]
 rw [this]; rfl
def imchk (n : Int) : Int := if n < 0 then 2 else if n > 2 then 2 else 0
def setupF (n im : Int) (ps : List S127) : Int := if n = 0 then (if imchk im = 0 then pchk ps else imchk im) else n
def setupU (n k : Int) (ps : List S127) : Int := if n = 0 then (if k = 0 then pchk ps else k) else n
theorem wrap64_add1 {x : Int} (h : 0 ≤ x) (h2 : x ≤ 1000000000) : wrap64 (x + 1) = x + 1 := by unfold wrap64; omega
set_option maxHeartbeats 8000000 in
set_option maxRecDepth 100000 in
theorem cpu_check {σ : Sig} {n : Int} (hs : ∀ w, Calls Tryz.prog 158 #[scrVals σ] w fun x w' => x = .returned (.int .i64 n) ∧ Only (fun _ => False) w w') (a7 a8 a9 a10 a11 a12 a13 a14 a15 a16 a17 a18 a19 a20 a21 a22 a23 a24 a25 a26 : Int) (a27 a28 : Bool) (a29 : Int) (a30 a31 : Bool) (A : Option Addr) (c : Nat) (ps : List S127) (w : World) (hr : Kd.C k127 w A ps.length ps) (hc : ps.length ≤ c) (hl : ps.length ≤ 1000000) :
  Calls Tryz.prog 101 #[.agg #[.int .i64 (σ.v 0), .int .i64 (σ.v 1), .int .i64 (σ.v 2), .int .i64 (σ.v 3), .int .i64 (σ.v 4), .int .i64 (σ.v 5), .int .i64 (σ.v 6), .int .u8 a7, .int .u8 a8, .int .u8 a9, .int .u8 a10, .int .u8 a11, .int .u8 a12, .int .u8 a13, .int .u8 a14, .int .u8 a15, .int .u8 a16, .int .u8 a17, .int .u16 a18, .int .u16 a19, .int .u16 a20, .int .u16 a21, .int .u16 a22, .int .u16 a23, .int .u16 a24, .int .u16 a25, .int .u16 a26, .bool a27, .bool a28, .int .i64 a29, .bool a30, .bool a31, .slice A ps.length c]] w fun e w' => e = .returned (.int .i64 (setupF n a29 ps)) ∧ Below w.heap.size w w' := by
 have hu33 := Tryz.underlying33
 have hu27 := Tryz.underlying27
 have hu30 := Tryz.underlying30
 have hu127 := Tryz.underlying127
 have HR := Aside0.mk hr
 have HC := Aside0.mk hc
 have HL := Aside0.mk hl
 clear hr hc hl
 have hrf := Aside0.mk (show regs_Check.f a8 a9 a10 a11 a12 a13 a14 a15 a16 a17 a18 a19 a20 a21 a22 a23 a24 a25 a26 a27 a28 a29 a30 a31 = some (imchk a29) from by unfold regs_Check.f imchk; split <;> (try split) <;> rfl)
 unfold setupF
 by_cases hn : n = 0
 ·have hn0 : (n != 0) = false := bne_eq_false_iff_eq.mpr hn
  rw [if_pos hn]
  by_cases hm : imchk a29 = 0
  ·have hm0 : (imchk a29 != 0) = false := bne_eq_false_iff_eq.mpr hm
   rw [if_pos hm]
   go_enter Tryz.func101, Tryz.ntmps101
   go_wp2_with (first | (go_at_call 158; refine (hs _).mono ?_; rintro e w1 ⟨rfl, ho1⟩; have hk1 := Aside0.mk ((ho1.keep w.heap.size (by simp) (fun h => h)).trans (heap_alloc_new w _)); have HB1 := Aside0.mk (ho1.below (Nat.le_refl _) (fun _ h => h.elim)); clear ho1; have hld : Aside0 ((loadVar 30 ⟨w.heap.size, 8, none⟩).run Tryz.prog w1 = .ok (.agg #[.int .u8 a8, .int .u8 a9, .int .u8 a10, .int .u8 a11, .int .u8 a12, .int .u8 a13, .int .u8 a14, .int .u8 a15, .int .u8 a16, .int .u8 a17, .int .u16 a18, .int .u16 a19, .int .u16 a20, .int .u16 a21, .int .u16 a22, .int .u16 a23, .int .u16 a24, .int .u16 a25, .int .u16 a26, .bool a27, .bool a28, .int .i64 a29, .bool a30, .bool a31]) w1) := ⟨run_loadVar_sub (P := Tryz.prog) 30 [.int .i64 (σ.v 0), .int .i64 (σ.v 1), .int .i64 (σ.v 2), .int .i64 (σ.v 3), .int .i64 (σ.v 4), .int .i64 (σ.v 5), .int .i64 (σ.v 6), .int .u8 a7] [.int .u8 a8, .int .u8 a9, .int .u8 a10, .int .u8 a11, .int .u8 a12, .int .u8 a13, .int .u8 a14, .int .u8 a15, .int .u8 a16, .int .u8 a17, .int .u16 a18, .int .u16 a19, .int .u16 a20, .int .u16 a21, .int .u16 a22, .int .u16 a23, .int .u16 a24, .int .u16 a25, .int .u16 a26, .bool a27, .bool a28, .int .i64 a29, .bool a30, .bool a31] [.slice A ps.length c] hk1.out rfl hu30 rfl (by kernel_rfl)⟩; have z32 : w1.cell? ⟨w.heap.size, 32, none⟩ = some (.slice A ps.length c) := (blk_cell hk1.out 32).trans rfl) | ((with_reducible refine gate_dst (N := 15) rfl ?_); refine wpList_load_sub rfl 30 (.tmp 14) rfl ⟨w.heap.size, 8, none⟩ _ rfl hld.out ?_) | (go_at_call 159; refine (regs_Check.calls a8 a9 a10 a11 a12 a13 a14 a15 a16 a17 a18 a19 a20 a21 a22 a23 a24 a25 a26 a27 a28 a29 a30 a31 (imchk a29) _ hrf.out).mono ?_; rintro e w2 ⟨rfl, hb2⟩; have HB2 := Aside0.mk hb2; clear hb2; have hk2 := Aside0.mk ((HB2.out.block w.heap.size (Nat.lt_of_lt_of_le (by simp) HB1.out.size)).trans hk1.out); have y32 : w2.cell? ⟨w.heap.size, 32, none⟩ = some (.slice A ps.length c) := (blk_cell hk2.out 32).trans rfl))
   have HB0 : Below w.heap.size w w2 := below_then (below_then (below_alloc (Below.refl _ _) _) (by simp) HB1.out) (Nat.le_trans (by simp) HB1.out.size) HB2.out
   have HB := Aside0.mk HB0
   clear HB0
   go_loopg [23] ps.length (fun kq v23 w' => ∃ i : Nat, v23 = .int .i64 i ∧ i ≤ ps.length ∧ Aside0 (ps.length - i ≤ kq) ∧ Aside0 (Below w.heap.size w w') ∧ Aside0 (pchk ps = pchk (ps.drop i)))
   case atStart => exact ⟨0, rfl, Nat.zero_le _, ⟨Nat.le_refl _⟩, HB, ⟨rfl⟩⟩
   case round =>
    obtain ⟨i, rfl, hi, HK, HBL, HE⟩ := hrel
    by_cases hc : i < ps.length
    ·have hc0 : decide ((i : Int) < (ps.length : Int)) = true := decide_eq_true (by omega)
     have hc1 : decide (i < ps.length) = true := decide_eq_true hc
     have p1 : (0 : Int) ≤ (i : Int) := by omega
     have q1 : (i : Int) < (ps.length : Int) := by omega
     obtain ⟨ad, A2, c2, e1, h0, h1, h2, l2, g2⟩ := at_T127 HR.out i p1 q1
     cases e1
     have hin : ((i : Int)).toNat = i := rfl
     rw [hin] at h0 h1 h2
     replace h0 := (HBL.out.cell (World.block_lt_of_cell? w _ h0)).trans h0
     replace h1 := (HBL.out.cell (World.block_lt_of_cell? w _ h1)).trans h1
     replace h2 := (HBL.out.cell (World.block_lt_of_cell? w _ h2)).trans h2
     have G2 := Aside0.mk (Kd.C_below g2 HBL.out)
     clear g2
     replace p1 := eq_true p1
     replace q1 := eq_true q1
     have hck := Aside0.mk (ckP_f (rd_T127 ps i))
     cases gk with
     | zero => exact absurd HK.out (by omega)
     | succ k1 =>
      by_cases hz : ckP (rd_T127 ps i) = 0
      ·have hz0 : (ckP (rd_T127 ps i) != 0) = false := bne_eq_false_iff_eq.mpr hz
       go_wp2_with (first | (go_at_call 160; refine (bank_CheckPatch.calls (rd_T127 ps i).f0 (rd_T127 ps i).f1 A2 c2 (rd_T127 ps i).f2 (ckP (rd_T127 ps i)) _ (Kd.C_below G2.out (below_alloc (Below.refl _ _) _)) l2 hck.out).mono ?_; rintro e w5 ⟨rfl, hb5⟩; have HB5 := Aside0.mk hb5; clear hb5))
       go_roundg k1
       case measure => omega
       case rel => exact ⟨i + 1, by simp [wrap64_add1 (by omega : (0 : Int) ≤ i) (by have := HL.out; omega)], by omega, ⟨by have := HK.out; omega⟩, ⟨below_then (below_alloc HBL.out _) (Nat.le_trans HBL.out.size (by simp)) HB5.out⟩, ⟨by rw [HE.out, pchk_drop hc, if_pos hz]⟩⟩
      ·have hz0 : (ckP (rd_T127 ps i) != 0) = true := bne_iff_ne.mpr hz
       go_wp2_with (first | (go_at_call 160; refine (bank_CheckPatch.calls (rd_T127 ps i).f0 (rd_T127 ps i).f1 A2 c2 (rd_T127 ps i).f2 (ckP (rd_T127 ps i)) _ (Kd.C_below G2.out (below_alloc (Below.refl _ _) _)) l2 hck.out).mono ?_; rintro e w5 ⟨rfl, hb5⟩; have HB5 := Aside0.mk hb5; clear hb5))
       go_ret
       exact ⟨by rw [HE.out, pchk_drop hc, if_neg hz]; rfl, below_then (below_alloc HBL.out _) (Nat.le_trans HBL.out.size (by simp)) HB5.out⟩
    ·have hc0 : decide ((i : Int) < (ps.length : Int)) = false := decide_eq_false (by omega)
     have hc1 : decide (i < ps.length) = false := decide_eq_false hc
     go_wp2
     go_ret
     have : i = ps.length := by omega
     subst this
     exact ⟨by rw [HE.out, List.drop_length]; rfl, HBL.out⟩
  ·have hm0 : (imchk a29 != 0) = true := bne_iff_ne.mpr hm
   rw [if_neg hm]
   go_enter Tryz.func101, Tryz.ntmps101
   go_wp2_with (first | (go_at_call 158; refine (hs _).mono ?_; rintro e w1 ⟨rfl, ho1⟩; have hk1 := Aside0.mk ((ho1.keep w.heap.size (by simp) (fun h => h)).trans (heap_alloc_new w _)); have HB1 := Aside0.mk (ho1.below (Nat.le_refl _) (fun _ h => h.elim)); clear ho1; have hld : Aside0 ((loadVar 30 ⟨w.heap.size, 8, none⟩).run Tryz.prog w1 = .ok (.agg #[.int .u8 a8, .int .u8 a9, .int .u8 a10, .int .u8 a11, .int .u8 a12, .int .u8 a13, .int .u8 a14, .int .u8 a15, .int .u8 a16, .int .u8 a17, .int .u16 a18, .int .u16 a19, .int .u16 a20, .int .u16 a21, .int .u16 a22, .int .u16 a23, .int .u16 a24, .int .u16 a25, .int .u16 a26, .bool a27, .bool a28, .int .i64 a29, .bool a30, .bool a31]) w1) := ⟨run_loadVar_sub (P := Tryz.prog) 30 [.int .i64 (σ.v 0), .int .i64 (σ.v 1), .int .i64 (σ.v 2), .int .i64 (σ.v 3), .int .i64 (σ.v 4), .int .i64 (σ.v 5), .int .i64 (σ.v 6), .int .u8 a7] [.int .u8 a8, .int .u8 a9, .int .u8 a10, .int .u8 a11, .int .u8 a12, .int .u8 a13, .int .u8 a14, .int .u8 a15, .int .u8 a16, .int .u8 a17, .int .u16 a18, .int .u16 a19, .int .u16 a20, .int .u16 a21, .int .u16 a22, .int .u16 a23, .int .u16 a24, .int .u16 a25, .int .u16 a26, .bool a27, .bool a28, .int .i64 a29, .bool a30, .bool a31] [.slice A ps.length c] hk1.out rfl hu30 rfl (by kernel_rfl)⟩; have z32 : w1.cell? ⟨w.heap.size, 32, none⟩ = some (.slice A ps.length c) := (blk_cell hk1.out 32).trans rfl) | ((with_reducible refine gate_dst (N := 15) rfl ?_); refine wpList_load_sub rfl 30 (.tmp 14) rfl ⟨w.heap.size, 8, none⟩ _ rfl hld.out ?_) | (go_at_call 159; refine (regs_Check.calls a8 a9 a10 a11 a12 a13 a14 a15 a16 a17 a18 a19 a20 a21 a22 a23 a24 a25 a26 a27 a28 a29 a30 a31 (imchk a29) _ hrf.out).mono ?_; rintro e w2 ⟨rfl, hb2⟩; have HB2 := Aside0.mk hb2; clear hb2; have hk2 := Aside0.mk ((HB2.out.block w.heap.size (Nat.lt_of_lt_of_le (by simp) HB1.out.size)).trans hk1.out); have y32 : w2.cell? ⟨w.heap.size, 32, none⟩ = some (.slice A ps.length c) := (blk_cell hk2.out 32).trans rfl))
   go_ret
   exact ⟨rfl, below_then (below_then (below_alloc (Below.refl _ _) _) (by simp) HB1.out) (Nat.le_trans (by simp) HB1.out.size) HB2.out⟩
 ·have hn0 : (n != 0) = true := bne_iff_ne.mpr hn
  rw [if_neg hn]
  go_enter Tryz.func101, Tryz.ntmps101
  go_wp2_with (first | (go_at_call 158; refine (hs _).mono ?_; rintro e w1 ⟨rfl, ho1⟩; have hk1 := Aside0.mk ((ho1.keep w.heap.size (by simp) (fun h => h)).trans (heap_alloc_new w _)); have HB1 := Aside0.mk (ho1.below (Nat.le_refl _) (fun _ h => h.elim)); clear ho1; have hld : Aside0 ((loadVar 30 ⟨w.heap.size, 8, none⟩).run Tryz.prog w1 = .ok (.agg #[.int .u8 a8, .int .u8 a9, .int .u8 a10, .int .u8 a11, .int .u8 a12, .int .u8 a13, .int .u8 a14, .int .u8 a15, .int .u8 a16, .int .u8 a17, .int .u16 a18, .int .u16 a19, .int .u16 a20, .int .u16 a21, .int .u16 a22, .int .u16 a23, .int .u16 a24, .int .u16 a25, .int .u16 a26, .bool a27, .bool a28, .int .i64 a29, .bool a30, .bool a31]) w1) := ⟨run_loadVar_sub (P := Tryz.prog) 30 [.int .i64 (σ.v 0), .int .i64 (σ.v 1), .int .i64 (σ.v 2), .int .i64 (σ.v 3), .int .i64 (σ.v 4), .int .i64 (σ.v 5), .int .i64 (σ.v 6), .int .u8 a7] [.int .u8 a8, .int .u8 a9, .int .u8 a10, .int .u8 a11, .int .u8 a12, .int .u8 a13, .int .u8 a14, .int .u8 a15, .int .u8 a16, .int .u8 a17, .int .u16 a18, .int .u16 a19, .int .u16 a20, .int .u16 a21, .int .u16 a22, .int .u16 a23, .int .u16 a24, .int .u16 a25, .int .u16 a26, .bool a27, .bool a28, .int .i64 a29, .bool a30, .bool a31] [.slice A ps.length c] hk1.out rfl hu30 rfl (by kernel_rfl)⟩; have z32 : w1.cell? ⟨w.heap.size, 32, none⟩ = some (.slice A ps.length c) := (blk_cell hk1.out 32).trans rfl))
  go_ret
  exact ⟨rfl, below_then (below_alloc (Below.refl _ _) _) (by simp) HB1.out⟩
set_option maxHeartbeats 8000000 in
set_option maxRecDepth 100000 in
theorem ula_check {σ : Sig} {n : Int} (hs : ∀ w, Calls Tryz.prog 158 #[scrVals σ] w fun x w' => x = .returned (.int .i64 n) ∧ Only (fun _ => False) w w') {K : Nat} {kk : Int} (A3 : Option Addr) (c3 : Nat) (ts : List S184) (hk : keysIs K ts kk) (A : Option Addr) (c : Nat) (ps : List S127) (sh : Bool) (w : World) (ht : Kd.C k184 w A3 ts.length ts) (hc3 : ts.length ≤ c3) (hr : Kd.C k127 w A ps.length ps) (hc : ps.length ≤ c) (hl : ps.length ≤ 1000000) :
  Calls Tryz.prog 104 #[.agg #[.int .i64 (σ.v 0), .int .i64 (σ.v 1), .int .i64 (σ.v 2), .int .i64 (σ.v 3), .int .i64 (σ.v 4), .int .i64 (σ.v 5), .int .i64 (σ.v 6), .slice A3 ts.length c3, .slice A ps.length c, .bool sh]] w fun e w' => e = .returned (.int .i64 (setupU n kk ps)) ∧ Below w.heap.size w w' := by
 have hu105 := Tryz.underlying105
 have hu27 := Tryz.underlying27
 have hu127 := Tryz.underlying127
 have HR := Aside0.mk hr
 have HC := Aside0.mk hc
 have HT := Aside0.mk ht
 have HC3 := Aside0.mk hc3
 have HL := Aside0.mk hl
 clear hr hc hl ht hc3
 have hkf := Aside0.mk hk
 clear hk
 unfold setupU
 by_cases hn : n = 0
 ·have hn0 : (n != 0) = false := bne_eq_false_iff_eq.mpr hn
  rw [if_pos hn]
  by_cases hm : kk = 0
  ·have hm0 : (kk != 0) = false := bne_eq_false_iff_eq.mpr hm
   rw [if_pos hm]
   go_enter Tryz.func104, Tryz.ntmps104
   go_wp2_with (first | (go_at_call 158; refine (hs _).mono ?_; rintro e w1 ⟨rfl, ho1⟩; have hk1 := Aside0.mk ((ho1.keep w.heap.size (by simp) (fun h => h)).trans (heap_alloc_new w _)); have HB1 := Aside0.mk (ho1.below (Nat.le_refl _) (fun _ h => h.elim)); clear ho1; have HB1w := Aside0.mk (below_then (below_alloc (Below.refl _ _) _) (by simp) HB1.out); have z7 : w1.cell? ⟨w.heap.size, 7, none⟩ = some (.slice A3 ts.length c3) := (blk_cell hk1.out 7).trans rfl) | (go_at_call 119; refine (keys_C K A3 c3 ts kk _ (Kd.C_below HT.out HB1w.out) HC3.out hkf.out).mono ?_; rintro e w2 ⟨rfl, hb2⟩; have HB2 := Aside0.mk hb2; clear hb2; have hk2 := Aside0.mk ((HB2.out.block w.heap.size (Nat.lt_of_lt_of_le (by simp) HB1.out.size)).trans hk1.out); have y8 : w2.cell? ⟨w.heap.size, 8, none⟩ = some (.slice A ps.length c) := (blk_cell hk2.out 8).trans rfl))
   have HB0 : Below w.heap.size w w2 := below_then HB1w.out HB1w.out.size HB2.out
   have HB := Aside0.mk HB0
   clear HB0
   go_loopg [23] ps.length (fun kq v23 w' => ∃ i : Nat, v23 = .int .i64 i ∧ i ≤ ps.length ∧ Aside0 (ps.length - i ≤ kq) ∧ Aside0 (Below w.heap.size w w') ∧ Aside0 (pchk ps = pchk (ps.drop i)))
   case atStart => exact ⟨0, rfl, Nat.zero_le _, ⟨Nat.le_refl _⟩, HB, ⟨rfl⟩⟩
   case round =>
    obtain ⟨i, rfl, hi, HK, HBL, HE⟩ := hrel
    by_cases hc : i < ps.length
    ·have hc0 : decide ((i : Int) < (ps.length : Int)) = true := decide_eq_true (by omega)
     have hc1 : decide (i < ps.length) = true := decide_eq_true hc
     have p1 : (0 : Int) ≤ (i : Int) := by omega
     have q1 : (i : Int) < (ps.length : Int) := by omega
     obtain ⟨ad, A2, c2, e1, h0, h1, h2, l2, g2⟩ := at_T127 HR.out i p1 q1
     cases e1
     have hin : ((i : Int)).toNat = i := rfl
     rw [hin] at h0 h1 h2
     replace h0 := (HBL.out.cell (World.block_lt_of_cell? w _ h0)).trans h0
     replace h1 := (HBL.out.cell (World.block_lt_of_cell? w _ h1)).trans h1
     replace h2 := (HBL.out.cell (World.block_lt_of_cell? w _ h2)).trans h2
     have G2 := Aside0.mk (Kd.C_below g2 HBL.out)
     clear g2
     replace p1 := eq_true p1
     replace q1 := eq_true q1
     have hck := Aside0.mk (ckP_f (rd_T127 ps i))
     cases gk with
     | zero => exact absurd HK.out (by omega)
     | succ k1 =>
      by_cases hz : ckP (rd_T127 ps i) = 0
      ·have hz0 : (ckP (rd_T127 ps i) != 0) = false := bne_eq_false_iff_eq.mpr hz
       go_wp2_with (first | (go_at_call 160; refine (bank_CheckPatch.calls (rd_T127 ps i).f0 (rd_T127 ps i).f1 A2 c2 (rd_T127 ps i).f2 (ckP (rd_T127 ps i)) _ (Kd.C_below G2.out (below_alloc (Below.refl _ _) _)) l2 hck.out).mono ?_; rintro e w5 ⟨rfl, hb5⟩; have HB5 := Aside0.mk hb5; clear hb5))
       go_roundg k1
       case measure => omega
       case rel => exact ⟨i + 1, by simp [wrap64_add1 (by omega : (0 : Int) ≤ i) (by have := HL.out; omega)], by omega, ⟨by have := HK.out; omega⟩, ⟨below_then (below_alloc HBL.out _) (Nat.le_trans HBL.out.size (by simp)) HB5.out⟩, ⟨by rw [HE.out, pchk_drop hc, if_pos hz]⟩⟩
      ·have hz0 : (ckP (rd_T127 ps i) != 0) = true := bne_iff_ne.mpr hz
       go_wp2_with (first | (go_at_call 160; refine (bank_CheckPatch.calls (rd_T127 ps i).f0 (rd_T127 ps i).f1 A2 c2 (rd_T127 ps i).f2 (ckP (rd_T127 ps i)) _ (Kd.C_below G2.out (below_alloc (Below.refl _ _) _)) l2 hck.out).mono ?_; rintro e w5 ⟨rfl, hb5⟩; have HB5 := Aside0.mk hb5; clear hb5))
       go_ret
       exact ⟨by rw [HE.out, pchk_drop hc, if_neg hz]; rfl, below_then (below_alloc HBL.out _) (Nat.le_trans HBL.out.size (by simp)) HB5.out⟩
    ·have hc0 : decide ((i : Int) < (ps.length : Int)) = false := decide_eq_false (by omega)
     have hc1 : decide (i < ps.length) = false := decide_eq_false hc
     go_wp2
     go_ret
     have : i = ps.length := by omega
     subst this
     exact ⟨by rw [HE.out, List.drop_length]; rfl, HBL.out⟩
  ·have hm0 : (kk != 0) = true := bne_iff_ne.mpr hm
   rw [if_neg hm]
   go_enter Tryz.func104, Tryz.ntmps104
   go_wp2_with (first | (go_at_call 158; refine (hs _).mono ?_; rintro e w1 ⟨rfl, ho1⟩; have hk1 := Aside0.mk ((ho1.keep w.heap.size (by simp) (fun h => h)).trans (heap_alloc_new w _)); have HB1 := Aside0.mk (ho1.below (Nat.le_refl _) (fun _ h => h.elim)); clear ho1; have HB1w := Aside0.mk (below_then (below_alloc (Below.refl _ _) _) (by simp) HB1.out); have z7 : w1.cell? ⟨w.heap.size, 7, none⟩ = some (.slice A3 ts.length c3) := (blk_cell hk1.out 7).trans rfl) | (go_at_call 119; refine (keys_C K A3 c3 ts kk _ (Kd.C_below HT.out HB1w.out) HC3.out hkf.out).mono ?_; rintro e w2 ⟨rfl, hb2⟩; have HB2 := Aside0.mk hb2; clear hb2; have hk2 := Aside0.mk ((HB2.out.block w.heap.size (Nat.lt_of_lt_of_le (by simp) HB1.out.size)).trans hk1.out); have y8 : w2.cell? ⟨w.heap.size, 8, none⟩ = some (.slice A ps.length c) := (blk_cell hk2.out 8).trans rfl))
   go_ret
   exact ⟨rfl, below_then HB1w.out HB1w.out.size HB2.out⟩
 ·have hn0 : (n != 0) = true := bne_iff_ne.mpr hn
  rw [if_neg hn]
  go_enter Tryz.func104, Tryz.ntmps104
  go_wp2_with (first | (go_at_call 158; refine (hs _).mono ?_; rintro e w1 ⟨rfl, ho1⟩; have hk1 := Aside0.mk ((ho1.keep w.heap.size (by simp) (fun h => h)).trans (heap_alloc_new w _)); have HB1 := Aside0.mk (ho1.below (Nat.le_refl _) (fun _ h => h.elim)); clear ho1; have HB1w := Aside0.mk (below_then (below_alloc (Below.refl _ _) _) (by simp) HB1.out); have z7 : w1.cell? ⟨w.heap.size, 7, none⟩ = some (.slice A3 ts.length c3) := (blk_cell hk1.out 7).trans rfl))
  go_ret
  exact ⟨rfl, HB1w.out⟩
end Go.Sim
end
section
namespace Go.Sim
attribute [local instance] noRO
open Go.Proofs Go.RowKit
abbrev S4 := Int × Int × Int × Int
def kv (k : S4) : Value := .agg #[.int .u8 k.1, .int .u8 k.2.1, .int .u8 k.2.2.1, .int .u8 k.2.2.2]
theorem eq_u8 (d : Nat) (a b : Int) (w : World) : (Op.equalIn (d + 1) 5 (.int .u8 a) (.int .u8 b)).run Tryz.prog w = .ok (a == b) w := by
 unfold Op.equalIn
 simp only [Sem.run_bind]
 rw [run_underlying Tryz.underlying5]
 rfl
theorem size5 (w : World) : (sizeOf 5).run Tryz.prog w = .ok 1 w := by kernel_rfl
theorem part0 (a b c d : Int) (w : World) : (part 5 #[.int .u8 a, .int .u8 b, .int .u8 c, .int .u8 d] 0).run Tryz.prog w = .ok (.int .u8 a) w := by kernel_rfl
theorem part1 (a b c d : Int) (w : World) : (part 5 #[.int .u8 a, .int .u8 b, .int .u8 c, .int .u8 d] 1).run Tryz.prog w = .ok (.int .u8 b) w := by kernel_rfl
theorem part2 (a b c d : Int) (w : World) : (part 5 #[.int .u8 a, .int .u8 b, .int .u8 c, .int .u8 d] 2).run Tryz.prog w = .ok (.int .u8 c) w := by kernel_rfl
theorem part3 (a b c d : Int) (w : World) : (part 5 #[.int .u8 a, .int .u8 b, .int .u8 c, .int .u8 d] 3).run Tryz.prog w = .ok (.int .u8 d) w := by kernel_rfl
theorem chk_key (em : Bool) (k : S4) (w : World) : (Instr.checkKey em 10000 306 (kv k)).run Tryz.prog w = .ok () w := by kernel_rfl
theorem eq_key (k l : S4) (w : World) : (Op.equal 306 (kv k) (kv l)).run Tryz.prog w = .ok (decide (k = l)) w := by
 unfold Op.equal
 show (Op.equalIn (9998 + 2) 306 _ _).run _ _ = _
 unfold Op.equalIn
 simp only [Sem.run_bind]
 rw [run_underlying Tryz.underlying306]
 simp only [kv, Sem.run_bind, size5, Result.andThen]
 obtain ⟨a, b, c, d⟩ := k
 obtain ⟨a', b', c', d'⟩ := l
 rw [Std.Legacy.Range.forIn_eq_forIn_range']
 have hr : List.range' [:4].start [:4].size [:4].step = [0, 1, 2, 3] := rfl
 rw [hr]
 have e5 : ∀ (x y : Int) (w : World), (Op.equalIn 9999 5 (.int .u8 x) (.int .u8 y)).run Tryz.prog w = .ok (x == y) w := eq_u8 9998
 simp only [List.forIn_cons, List.forIn_nil, Sem.run_bind, Nat.mul_one, part0, part1, part2, part3, e5, Result.andThen]
 by_cases h0 : a = a'
 ·subst h0
  by_cases h1 : b = b'
  ·subst h1
   by_cases h2 : c = c'
   ·subst h2
    by_cases h3 : d = d'
    ·subst h3; simp [Sem.run_bind, part0, part1, part2, part3, e5, Result.andThen]
    ·simp [Sem.run_bind, part0, part1, part2, part3, e5, Result.andThen, h3]
   ·simp [Sem.run_bind, part0, part1, part2, part3, e5, Result.andThen, h2]
  ·simp [Sem.run_bind, part0, part1, part2, part3, e5, Result.andThen, h1]
 ·simp [Sem.run_bind, part0, part1, part2, part3, e5, Result.andThen, h0]
structure KeySet (ks : List S4) (es : Array MapEntry) : Prop where
 key : ∀ e ∈ es.toList, ∃ k, k ∈ ks ∧ e.key = kv k ∧ e.val = .bool true
 all : ∀ k ∈ ks, ∃ e ∈ es.toList, e.key = kv k
theorem kv_inj {k l : S4} (h : kv k = kv l) : k = l := by
 obtain ⟨a, b, c, d⟩ := k
 obtain ⟨a', b', c', d'⟩ := l
 simp [kv] at h
 obtain ⟨rfl, rfl, rfl, rfl⟩ := h
 rfl
theorem find_asks (k : S4) (w : World) : ∀ (l : List MapEntry) (i : Nat), (∀ e ∈ l, ∃ k, e.key = kv k ∧ e.val = .bool true) →
  ((Instr.findAsking 306 (kv k) l i).run Tryz.prog w = .ok none w ∧ ∀ e ∈ l, e.key ≠ kv k) ∨ ((∃ j, (Instr.findAsking 306 (kv k) l i).run Tryz.prog w = .ok (some (j, .bool true)) w) ∧ ∃ e ∈ l, e.key = kv k)
 | [], i, _ => .inl ⟨rfl, fun e he => by cases he⟩
 | e :: l, i, h => by
  obtain ⟨k', hk, hv⟩ := h e (List.mem_cons_self ..)
  unfold Instr.findAsking
  simp only [Sem.run_bind, hk, eq_key, Result.andThen]
  by_cases hkk : k = k'
  ·subst hkk
   refine .inr ⟨⟨i, ?_⟩, e, List.mem_cons_self .., hk⟩
   simp [hv]
  ·have hne : e.key ≠ kv k := by rw [hk]; exact fun he => hkk (kv_inj he).symm
   simp only [decide_eq_false hkk]
   rcases find_asks k w l (i + 1) (fun e he => h e (List.mem_cons_of_mem _ he)) with ⟨h1, h2⟩ | ⟨⟨j, h1⟩, e1, h2, h3⟩
   ·refine .inl ⟨by simpa using h1, fun e1 he1 => ?_⟩
    rcases List.mem_cons.1 he1 with rfl | he1
    ·exact hne
    ·exact h2 _ he1
   ·exact .inr ⟨⟨j, by simpa using h1⟩, e1, List.mem_cons_of_mem _ h2, h3⟩
theorem find_now {kd : TypeDesc} (hkd : ∀ k e, Instr.sameNow kd k e = none) (k : Value) (e : MapEntry) (l : List MapEntry) (i : Nat) : Instr.findNow kd k (e :: l) i = none := by
 unfold Instr.findNow
 rw [hkd]
theorem find_key {ks : List S4} {es : Array MapEntry} (h : KeySet ks es) (k : S4) (w : World) :
  (k ∉ ks ∧ (Instr.findKey 306 (kv k) es.toList).run Tryz.prog w = .ok none w) ∨ (k ∈ ks ∧ ∃ j, (Instr.findKey 306 (kv k) es.toList).run Tryz.prog w = .ok (some (j, .bool true)) w) := by
 have hkd : ∀ k e, Instr.sameNow (.array 4 5) k e = none := fun k e => by unfold Instr.sameNow; rfl
 have hmem : ∀ k', (∃ e ∈ es.toList, e.key = kv k') ↔ k' ∈ ks := fun k' => ⟨fun ⟨e, he, hk⟩ => by obtain ⟨k1, h1, h2, _⟩ := h.key e he; rw [h2] at hk; rw [← kv_inj hk]; exact h1, h.all k'⟩
 unfold Instr.findKey
 simp only [Sem.run_bind, run_underlying Tryz.underlying306, Result.andThen]
 cases he : es.toList with
 | nil =>
  refine .inl ⟨fun hk => ?_, rfl⟩
  obtain ⟨e, h1, _⟩ := h.all k hk
  rw [he] at h1; cases h1
 | cons e l =>
  rw [find_now hkd]
  rw [← he]
  rcases find_asks k w es.toList 0 (fun e he => by obtain ⟨k1, h1, h2, h3⟩ := h.key e he; exact ⟨k1, h2, h3⟩) with ⟨h1, h2⟩ | ⟨⟨j, h1⟩, h2⟩
  ·exact .inl ⟨fun hk => by obtain ⟨e, he, hke⟩ := (hmem k).2 hk; exact h2 e he hke, h1⟩
  ·exact .inr ⟨(hmem k).1 h2, j, h1⟩
theorem set_look {w : World} {b : Nat} {ks : List S4} {es : Array MapEntry} {clock : Nat} (hb : w.heap[b]? = some (.map es clock)) (h : KeySet ks es) (k : S4) :
  (Instr.lookup 304 (.map (some b)) (kv k) false).run Tryz.prog w = .ok (.bool (decide (k ∈ ks))) w := by
 have hz : (zeroValue 4).run Tryz.prog w = .ok (.bool false) w := by kernel_rfl
 rcases find_key h k w with ⟨h1, h2⟩ | ⟨h1, j, h2⟩
 ·simp [Instr.lookup, run_underlying Tryz.underlying304, MapKept.run_getObj_map hb, chk_key, h2, hz, Result.andThen, h1]
 ·simp [Instr.lookup, run_underlying Tryz.underlying304, MapKept.run_getObj_map hb, chk_key, h2, Result.andThen, h1]
theorem set_put {w : World} {b : Nat} {ks : List S4} {es : Array MapEntry} {clock : Nat} (hb : w.heap[b]? = some (.map es clock)) (h : KeySet ks es) (k : S4) (hk : k ∉ ks) :
  ∃ es' clock', (Instr.mapUpdate 304 (.map (some b)) (kv k) (.bool true)).run Tryz.prog w = .ok () (ChangeMaps.setBlock w b (.map es' clock')) ∧ KeySet (ks ++ [k]) es' := by
 rcases find_key h k w with ⟨h1, h2⟩ | ⟨h1, _⟩
 ·refine ⟨es.push ⟨kv k, .bool true, clock⟩, clock + 1, ?_, ?_, ?_⟩
  ·simp [Instr.mapUpdate, run_underlying Tryz.underlying304, MapKept.run_getObj_map hb, chk_key, h2, MapKept.run_setObj_map _ hb, Result.andThen, ChangeMaps.setBlock]
  ·intro e he
   rw [Array.toList_push, List.mem_append] at he
   rcases he with he | he
   ·obtain ⟨k1, a, r⟩ := h.key e he
    exact ⟨k1, List.mem_append_left _ a, r⟩
   ·have he : e = ⟨kv k, .bool true, clock⟩ := by simpa using he
    subst he
    exact ⟨k, by simp, rfl, rfl⟩
  ·intro k1 hk1
   rw [List.mem_append] at hk1
   rcases hk1 with hk1 | hk1
   ·obtain ⟨e, a, r⟩ := h.all k1 hk1
    exact ⟨e, by rw [Array.toList_push, List.mem_append]; exact .inl a, r⟩
   ·have hk1 : k1 = k := by simpa using hk1
    subst hk1
    exact ⟨⟨kv k1, .bool true, clock⟩, by rw [Array.toList_push, List.mem_append]; exact .inr (by simp), rfl⟩
 ·exact absurd h1 hk
end Go.Sim
end
section
namespace Go.Sim
attribute [local instance] noRO
open Go.Proofs Go.RowKit Go.Proofs.YtdppeaciahdekaaGreatW.PrintWords Go.Proofs.YtdppeaciahdekaaGreatW.PrintLast Go.Proofs.YtdppeaciahdekaaGreatW.PrintMore
open Go.Proofs.YtdppeaciahdekaaGreat.PLockParts
def TrackC (w : World) (xs : List S218) (A' : Option Addr) (w' : World) : Prop :=
 0 < xs.length → ∃ g cur, A' = some ⟨g, 0, none⟩ ∧ w.heap.size ≤ g ∧ w'.heap[g]? = some (.cells cur 218 (0, 0)) ∧ ∀ j : Nat, j < xs.length → ∃ A6 c6, cur[j * 7 + 6]? = some (.slice A6 (rd_T218 xs j).f6.length c6) ∧ Kd.C (Go.Proofs.YtdppeaciahdekaaGreatW.PrintWords.Kd.int .u8) w A6 (rd_T218 xs j).f6.length (rd_T218 xs j).f6
theorem clone_track (A : Option Addr) (c : Nat) (xs : List S218) (w : World) (hr : Kd.C k218 w A xs.length xs) (hl : xs.length ≤ 1000000) :
  Calls Tryz.prog 165 #[.slice A xs.length c] w fun e w' => ∃ A' c', e = .returned (.slice A' xs.length c') ∧ TrackC w xs A' w' ∧ Below w.heap.size w w' := by
 cases A with
 | none =>
  have hx : xs = [] := by
   rcases Nat.eq_zero_or_pos xs.length with h | h
   ·exact List.eq_nil_of_length_eq_zero h
   ·obtain ⟨ad, h, _⟩ := hr.2.2 h; cases h
  subst hx
  exact (clone_nil165 _ c w).mono fun e w' ⟨h, hb⟩ => ⟨_, _, h, fun h => absurd h (Nat.lt_irrefl _), hb⟩
 | some ad =>
  obtain ⟨ys, h1, h2⟩ := row_raw _ hr
  have hlen : ys.length = xs.length := h1.1
  refine (clone_sectors ad _ c ys w h1 hl).mono ?_
  rintro e w' ⟨v, h, ⟨g, c', cur, hv, hn, hg, hh, hs, hc⟩, hb⟩
  refine ⟨some ⟨g, 0, none⟩, c', h.trans (by rw [hv, hlen]), fun _ => ⟨g, cur, rfl, hg, hh, fun j hj => ?_⟩, hb⟩
  have hx : xs[j]? = some (rd_T218 xs j) := by simp [rd_T218, List.getD_eq_getElem?_getD, hj]
  obtain ⟨y, e1, e2, e3⟩ := h2 j _ hx
  obtain ⟨A6, c6, rfl, l6, g6⟩ := k218_open e3
  exact ⟨A6, c6, hc j _ 6 _ e1 rfl, g6⟩
theorem raw_move {n e B : Nat} {w w1 : World} {v : Value} {xs : List (List Value)} {ok : Nat → Prop} (h : Kd.R (kraw n) e w B ok v xs) (hm : ∀ k, v.ownBlock = some k → w1.heap[k]? = w.heap[k]?) : Kd.R (kraw n) e w1 B ok v xs := by
 obtain ⟨h1, inner, ho, hr⟩ := h
 exact ⟨h1, inner, own_move ho hm, hr⟩
theorem raw_at {n e B : Nat} {w : World} {v : Value} {xs : List (List Value)} {ok : Nat → Prop} (h : Kd.R (kraw n) e w B ok v xs) {k : Nat} (hk : v.ownBlock = some k) : B ≤ k ∧ k < w.heap.size := by
 obtain ⟨h1, inner, ho, hr⟩ := h
 rcases ho.2 with ⟨rfl, _⟩ | ⟨g, cap, cur, rfl, hg, hh, _⟩
 ·simp [Value.ownBlock] at hk
 ·have : g = k := by simpa [Value.ownBlock] using hk
  subst this
  exact ⟨hg, blk_lt hh⟩
theorem only_set {S : Nat → Prop} (w : World) (g j : Nat) (u : Value) (h : S g) : Only S w (w.setCell ⟨g, j, none⟩ u) := ⟨fun b hb hn => Below.heap_setCell w _ u b (fun e => hn (by rw [e]; exact h)), ⟨by simp [World.setCell], rfl, rfl, rfl⟩⟩
theorem one_row (w : World) (v : Value) (e : Nat) (ho : v.oneCell' = true) : ReadsRow ((kraw 1).K w) 1 (w.alloc (Obj.cells #[v] e)) (some ⟨w.heap.size, 0, none⟩) 1 [[v]] := by
 refine ⟨rfl, by decide, fun _ => ⟨_, rfl, fun j p hj => ?_⟩⟩
 have hj0 : j = 0 := by
  have := (List.getElem?_eq_some_iff.1 hj).1
  simp at this; exact this
 subst hj0
 have hp : p = [v] := by simpa using hj.symm
 subst hp
 refine ⟨[v], rfl, ⟨rfl, rfl, fun u hu => by simp at hu; subst hu; exact ho⟩, fun i u hi => ?_⟩
 have hi0 : i = 0 := by
  have := (List.getElem?_eq_some_iff.1 hi).1
  simp at this; exact this
 subst hi0
 have hu : u = v := by simpa using hi.symm
 subst hu
 exact (blk_cell (heap_alloc_new w _) _).trans rfl
theorem raw_slice {n e B : Nat} {w : World} {v : Value} {xs : List (List Value)} {ok : Nat → Prop} (h : Kd.R (kraw n) e w B ok v xs) : ∃ A n c, v = .slice A n c := by
 obtain ⟨h1, inner, ho, hr⟩ := h
 rcases ho.2 with ⟨rfl, _⟩ | ⟨g, cap, cur, rfl, _⟩
 ·exact ⟨_, _, _, rfl⟩
 ·exact ⟨_, _, _, rfl⟩
theorem raw_lower {n e B B' : Nat} {w : World} {v : Value} {xs : List (List Value)} {ok : Nat → Prop} (h : Kd.R (kraw n) e w B ok v xs) (hb : B' ≤ B) : Kd.R (kraw n) e w B' ok v xs := by
 obtain ⟨h1, inner, ho, hr⟩ := h
 refine ⟨h1, inner, ⟨ho.1, ?_⟩, hr⟩
 rcases ho.2 with h | ⟨g, cap, cur, e1, hg, r⟩
 ·exact .inl h
 ·exact .inr ⟨g, cap, cur, e1, Nat.le_trans hb hg, r⟩
theorem info216' : (Tryz.prog.info? 216).map (fun i => (i.zero, i.size, i.bytes)) = some (some (.slice none 0 0), 1, 24) := by kernel_rfl
set_option maxHeartbeats 8000000 in
set_option maxRecDepth 100000 in
theorem image_copy_calls (A : Option Addr) (c : Nat) (ds : List (List S218)) (w : World) (hr : Kd.C (Go.Proofs.YtdppeaciahdekaaGreatW.PrintWords.Kd.slice 218 k218) w A ds.length ds) (hc : ds.length ≤ c) (hl : ds.length ≤ 1000000) (hl2 : ∀ d ∈ ds, d.length ≤ 1000000 ∧ ∀ s ∈ d, s.f6.length ≤ 1000000) :
  Calls Tryz.prog 110 #[.agg #[.slice A ds.length c]] w fun e w' => ∃ v xs, e = .returned (.agg #[v]) ∧ xs.length = ds.length ∧ Kd.R (kraw 1) 216 w' w.heap.size (fun _ => True) v xs ∧ Below w.heap.size w w' := by
 have hu37 := Tryz.underlying37
 have hu216 := Tryz.underlying216
 have hu218 := Tryz.underlying218
 have HR := Aside0.mk hr
 have HC := Aside0.mk hc
 have HL := Aside0.mk hl
 have HL2 := Aside0.mk hl2
 clear hr hc hl hl2
 go_enter Tryz.func110, Tryz.ntmps110
 go_wp2
 have H2 : Aside0 ((((w.alloc (Obj.cells #[Value.slice A ds.length c] 39)).alloc (Obj.cells #[Value.slice none 0 0] 39)).alloc (Obj.cells #[Value.slice none 0 0] 39)).heap[w.heap.size + 1]? = some (.cells #[.slice none 0 0] 39 (0, 0))) := ⟨((below_alloc (Below.refl _ ((w.alloc (Obj.cells #[Value.slice A ds.length c] 39)).alloc (Obj.cells #[Value.slice none 0 0] 39))) _).block _ (by simp)).trans (by have h := heap_alloc_new (w.alloc (Obj.cells #[Value.slice A ds.length c] 39)) (Obj.cells #[Value.slice none 0 0] 39); rw [show (w.alloc (Obj.cells #[Value.slice A ds.length c] 39)).heap.size = w.heap.size + 1 by simp] at h; exact h)⟩
 have H3 : Aside0 ((((w.alloc (Obj.cells #[Value.slice A ds.length c] 39)).alloc (Obj.cells #[Value.slice none 0 0] 39)).alloc (Obj.cells #[Value.slice none 0 0] 39)).heap[w.heap.size + 1 + 1]? = some (.cells #[.slice none 0 0] 39 (0, 0))) := ⟨by have h := heap_alloc_new ((w.alloc (Obj.cells #[Value.slice A ds.length c] 39)).alloc (Obj.cells #[Value.slice none 0 0] 39)) (Obj.cells #[Value.slice none 0 0] 39); rw [show ((w.alloc (Obj.cells #[Value.slice A ds.length c] 39)).alloc (Obj.cells #[Value.slice none 0 0] 39)).heap.size = w.heap.size + 1 + 1 by simp] at h; exact h⟩
 have HB := Aside0.mk (below_alloc (below_alloc (below_alloc (Below.refl w.heap.size w) (Obj.cells #[Value.slice A ds.length c] 39)) (Obj.cells #[Value.slice none 0 0] 39)) (Obj.cells #[Value.slice none 0 0] 39))
 go_loopg [11] ds.length (fun kq v11 w' => ∃ (i : Nat) (v : Value) (xs : List (List Value)), v11 = .int .i64 i ∧ i ≤ ds.length ∧ Aside0 (ds.length - i ≤ kq) ∧ Aside0 (w'.heap[w.heap.size + 1]? = some (.cells #[.slice none 0 0] 39 (0, 0))) ∧ Aside0 (w'.heap[w.heap.size + 1 + 1]? = some (.cells #[v] 39 (0, 0))) ∧ Aside0 (xs.length = i) ∧ Aside0 (Kd.R (kraw 1) 216 w' (w.heap.size + 3) (fun _ => True) v xs) ∧ Aside0 (Below w.heap.size w w'))
 case atStart => exact ⟨0, .slice none 0 0, [], rfl, Nat.zero_le _, ⟨Nat.le_refl _⟩, H2, H3, ⟨rfl⟩, ⟨Kd.R_nil _ _ _ _ _⟩, HB⟩
 case round =>
  clear H2 H3 HB
  rename World => wo
  obtain ⟨i, v, xs, rfl, hi, HK, H2, H3, HX, HO, HB⟩ := hrel
  obtain ⟨Av, nv, cv, rfl⟩ := raw_slice HO.out
  by_cases hc : i < ds.length
  ·have hc0 : decide ((i : Int) < (ds.length : Int)) = true := decide_eq_true (by omega)
   have hc1 : decide (i < ds.length) = true := decide_eq_true hc
   have p1 : (0 : Int) ≤ (i : Int) := by omega
   have q1 : (i : Int) < (ds.length : Int) := by omega
   obtain ⟨ad, A0, c0, e1, h0, l0, g0⟩ := at_L5 HR.out i p1 q1
   cases e1
   have hin : ((i : Int)).toNat = i := rfl
   rw [hin] at h0
   replace h0 := (HB.out.cell (World.block_lt_of_cell? w _ h0)).trans h0
   have G0 := Aside0.mk (Kd.C_below g0 HB.out)
   clear g0
   have hmem : rd_L5 ds i ∈ ds := by
    have : rd_L5 ds i = ds[i] := by simp [rd_L5, List.getD_eq_getElem?_getD, hc]
    rw [this]; exact List.getElem_mem hc
   have HMEM := Aside0.mk (HL2.out _ hmem)
   clear hmem
   replace p1 := eq_true p1
   replace q1 := eq_true q1
   generalize rd_L5 ds ↑i = d at h0 l0 G0 HMEM
   have HBS := Aside0.mk HB.out.size
   cases gk with
   | zero => exact absurd HK.out (by omega)
   | succ k1 =>
    go_wp2_with (first | (go_at_call 165; refine (clone_track A0 c0 d _ G0.out HMEM.out.1).mono ?_; rintro e w5 ⟨A5, c5, rfl, htc, hb5⟩; have HTC := Aside0.mk htc; have HB5 := Aside0.mk hb5; clear hb5 htc))
    have HL5 := Aside0.mk HMEM.out.1
    have HW5 : Aside0 (Only (fun b => A5 = some ⟨b, 0, none⟩ ∧ wo.heap.size ≤ b) w5 w5) := ⟨Only.refl _ _⟩
    have HT5 : Aside0 (0 < d.length → ∃ g cur, A5 = some ⟨g, 0, none⟩ ∧ wo.heap.size ≤ g ∧ w5.heap[g]? = some (.cells cur 218 (0, 0)) ∧ ∀ j : Nat, 0 ≤ j → j < d.length → ∃ A6 c6, cur[j * 7 + 6]? = some (.slice A6 (rd_T218 d j).f6.length c6) ∧ Kd.C (Go.Proofs.YtdppeaciahdekaaGreatW.PrintWords.Kd.int .u8) wo A6 (rd_T218 d j).f6.length (rd_T218 d j).f6) := ⟨fun h => by obtain ⟨g, cur, h1, h2, h3, h4⟩ := HTC.out h; exact ⟨g, cur, h1, h2, h3, fun j _ => h4 j⟩⟩
    clear h0
    clear HTC
    go_loopg [19] d.length (fun kq v19 w' => ∃ i2 : Nat, v19 = .int .i64 i2 ∧ i2 ≤ d.length ∧ Aside0 (d.length - i2 ≤ kq) ∧ Aside0 (Only (fun b => A5 = some ⟨b, 0, none⟩ ∧ wo.heap.size ≤ b) w5 w') ∧ Aside0 (0 < d.length → ∃ g cur, A5 = some ⟨g, 0, none⟩ ∧ wo.heap.size ≤ g ∧ w'.heap[g]? = some (.cells cur 218 (0, 0)) ∧ ∀ j : Nat, i2 ≤ j → j < d.length → ∃ A6 c6, cur[j * 7 + 6]? = some (.slice A6 (rd_T218 d j).f6.length c6) ∧ Kd.C (Go.Proofs.YtdppeaciahdekaaGreatW.PrintWords.Kd.int .u8) wo A6 (rd_T218 d j).f6.length (rd_T218 d j).f6))
    case atStart => exact ⟨0, rfl, Nat.zero_le _, ⟨Nat.le_refl _⟩, HW5, HT5⟩
    case round =>
     clear HW5 HT5
     obtain ⟨i2, rfl, hi2, HK2, HW, HT⟩ := hrel
     by_cases hc2 : i2 < d.length
     ·have hc20 : decide ((i2 : Int) < (d.length : Int)) = true := decide_eq_true (by omega)
      have hc21 : decide (i2 < d.length) = true := decide_eq_true hc2
      have p2 : (0 : Int) ≤ (i2 : Int) := by omega
      have q2 : (i2 : Int) < (d.length : Int) := by omega
      replace p2 := eq_true p2
      replace q2 := eq_true q2
      obtain ⟨g, cur, rfl, hg, hcur, hrest⟩ := HT.out (by omega)
      obtain ⟨A6, c6, h6, g6⟩ := hrest i2 (Nat.le_refl _) hc2
      have HCUR := Aside0.mk hcur
      have HREST := Aside0.mk hrest
      have HGW := Aside0.mk hg
      have b6 : wr.cell? ⟨g, i2 * 7 + 6, none⟩ = some (.slice A6 (rd_T218 d i2).f6.length c6) := (blk_cell HCUR.out _).trans h6
      have HBW : Aside0 (Below wo.heap.size wo wr) := ⟨HB5.out.trans (HW.out.below HB5.out.size fun b hb => hb.2)⟩
      have G6 := Aside0.mk (Kd.C_below g6 HBW.out)
      clear hcur hrest hg g6 h6
      have hsm : rd_T218 d i2 ∈ d := by
       have : rd_T218 d i2 = d[i2] := by simp [rd_T218, List.getD_eq_getElem?_getD, hc2]
       rw [this]; exact List.getElem_mem hc2
      have HL6 := Aside0.mk (HMEM.out.2 _ hsm)
      clear hsm
      cases gk with
      | zero => exact absurd HK2.out (by omega)
      | succ k2 =>
       go_wp2_with (first | (go_at_call 166; refine (clone_any A6 c6 _ _ G6.out HL6.out).mono ?_; rintro e w7 ⟨A7, n7, c7, rfl, hb7⟩; have HB7 := Aside0.mk hb7; have b7 := pw_cell_below hb7 b6; have HC7 := Aside0.mk ((hb7.block g (blk_lt HCUR.out)).trans HCUR.out); have f7 := blk_frozen HC7.out (i2 * 7 + 6); clear hb7))
       go_roundg k2
       case measure => omega
       case rel =>
        refine ⟨i2 + 1, by rw [wrap64_add1 (by omega : (0 : Int) ≤ i2) (by have := HL5.out; omega)]; rfl, by omega, ⟨by have := HK2.out; omega⟩, ⟨(HW.out.trans (Only.of_below (S := fun b => some (⟨g, 0, none⟩ : Addr) = some ⟨b, 0, none⟩ ∧ wo.heap.size ≤ b) HB7.out) fun _ _ h => h).trans (only_set w7 g _ _ ⟨rfl, HGW.out⟩) fun _ _ h => h⟩, ⟨fun _ => ⟨g, _, rfl, HGW.out, blk_set HC7.out _ _, fun j hj hl => ?_⟩⟩⟩
        obtain ⟨A8, c8, e8, k8⟩ := HREST.out j (by omega) hl
        exact ⟨A8, c8, by rw [Array.getElem?_setIfInBounds_ne (by omega)]; exact e8, k8⟩
     ·have hc20 : decide ((i2 : Int) < (d.length : Int)) = false := decide_eq_false (by omega)
      have hc21 : decide (i2 < d.length) = false := decide_eq_false hc2
      have HBW : Aside0 (Below wo.heap.size wo wr) := ⟨HB5.out.trans (HW.out.below HB5.out.size fun b hb => hb.2)⟩
      have K2 := Aside0.mk ((HBW.out.block _ (blk_lt H2.out)).trans H2.out)
      have K3 := Aside0.mk ((HBW.out.block _ (blk_lt H3.out)).trans H3.out)
      have b3 : wr.cell? ⟨w.heap.size + 1 + 1, 0, none⟩ = some (.slice Av nv cv) := (blk_cell K3.out 0).trans rfl
      have HOW := Aside0.mk (raw_move HO.out (w1 := wr) fun k hk => HBW.out.block k (raw_at HO.out hk).2)
      clear HT HK2
      have HROW : Aside0 (ReadsRow ((kraw 1).K wr) 1 (wr.alloc (Obj.cells #[Value.slice A5 d.length c5] 216)) (some ⟨wr.heap.size, 0, none⟩) 1 [[Value.slice A5 d.length c5]]) := ⟨one_row wr _ 216 rfl⟩
      have HOA := Aside0.mk (raw_move HOW.out (w1 := wr.alloc (Obj.cells #[Value.slice A5 d.length c5] 216)) fun k hk => (below_alloc (Below.refl _ _) _).block k (raw_at HOW.out hk).2)
      have HSZ : Aside0 (w.heap.size + 3 ≤ (wr.alloc (Obj.cells #[Value.slice A5 d.length c5] 216)).heap.size) := ⟨by have := blk_lt K3.out; simp; omega⟩
      have KA3 := Aside0.mk (((below_alloc (Below.refl wr.heap.size wr) (Obj.cells #[Value.slice A5 d.length c5] 216)).block _ (blk_lt K3.out)).trans K3.out)
      have KA2 := Aside0.mk (((below_alloc (Below.refl wr.heap.size wr) (Obj.cells #[Value.slice A5 d.length c5] 216)).block _ (blk_lt K2.out)).trans K2.out)
      go_wp2_with (first | ((with_reducible refine gate_builtin (b := .append) (xs := #[.tmp 34, .tmp 36]) rfl ?_); at_builtin; refine Kd.R_append_rows (kraw 1) (Rr := (kraw 1).K wr) (w0 := (wr.alloc (Obj.cells #[Value.slice A5 d.length c5] 216))) (w.heap.size + 3) rfl (.tmp 34) (.tmp 36) 37 216 (.slice none 0 0) 24 rfl Tryz.underlying37 info216' rfl (by decide) (by omega) (.slice Av nv cv) xs [[Value.slice A5 d.length c5]] (some ⟨wr.heap.size, 0, none⟩) 1 1 (fun _ => True) (fun _ => False) rfl rfl HOA.out HROW.out (fun x cs hx => hx) (fun _ hk => hk.elim) (fun _ _ => trivial) (Below.refl _ _) HSZ.out ?aL ?_; (case aL => have h1 := HL.out; have h2 := HX.out; omega); intro v1 w8 hown8 hb8 hg8 hat8; obtain ⟨A9, n9, c9, rfl⟩ := raw_slice hown8; have HO8 := Aside0.mk hown8; have HG8 := Aside0.mk hg8; have HN3 := Aside0.mk (show some (w.heap.size + 1 + 1) ≠ (Value.slice Av nv cv).ownBlock from fun h => absurd (raw_at HOA.out h.symm).1 (by omega)); have HN2 := Aside0.mk (show some (w.heap.size + 1) ≠ (Value.slice Av nv cv).ownBlock from fun h => absurd (raw_at HOA.out h.symm).1 (by omega)); have L3 := Aside0.mk (blk_grown KA3.out hg8 HN3.out); have L2 := Aside0.mk (blk_grown KA2.out hg8 HN2.out); have c3 : w8.cell? ⟨w.heap.size + 1 + 1, 0, none⟩ = some (.slice Av nv cv) := (blk_cell L3.out 0).trans rfl; have f3 := blk_frozen L3.out 0; clear hown8 hb8 hg8 hat8))
      go_roundg k1
      case measure => omega
      case rel =>
       refine ⟨i + 1, .slice A9 n9 c9, xs ++ [[Value.slice A5 d.length c5]], by rw [wrap64_add1 (by omega : (0 : Int) ≤ i) (by have := HL.out; omega)]; rfl, by omega, ⟨by have := HK.out; omega⟩, ⟨?_⟩, ⟨?_⟩, ⟨by have := HX.out; simp [this]⟩, ⟨raw_move HO8.out fun k hk => Below.heap_setCell w8 _ _ k (by intro e; have := (raw_at HO8.out hk).1; have : k = w.heap.size + 1 + 1 := e; omega)⟩, ⟨?_⟩⟩
       ·exact blk_far L2.out (by simp) _
       ·exact blk_set L3.out 0 _
       ·have h1 : Below w.heap.size w wr := below_then HB.out HB.out.size HBW.out
        have h2 := pw_below_grown (below_alloc h1 _) (Value.slice Av nv cv).ownBlock (by have := HSZ.out; omega) HG8.out fun k hk => by have := (raw_at HOA.out hk).1; omega
        exact below_set h2 (by omega)
  ·have hc0 : decide ((i : Int) < (ds.length : Int)) = false := decide_eq_false (by omega)
   have hc1 : decide (i < ds.length) = false := decide_eq_false hc
   have c2 : wo.cell? ⟨w.heap.size + 1, 0, none⟩ = some (.slice none 0 0) := (blk_cell H2.out 0).trans rfl
   have c3 : wo.cell? ⟨w.heap.size + 1 + 1, 0, none⟩ = some (.slice Av nv cv) := (blk_cell H3.out 0).trans rfl
   have f2 := blk_frozen H2.out 0
   go_wp2
   have d2 : Aside0 ((wo.setCell ⟨w.heap.size + 1, 0, none⟩ (Value.slice Av nv cv)).heap[w.heap.size + 1]? = some (.cells #[Value.slice Av nv cv] 39 (0, 0))) := ⟨blk_set H2.out 0 _⟩
   have D1 : Aside0 (Below w.heap.size w (wo.setCell ⟨w.heap.size + 1, 0, none⟩ (Value.slice Av nv cv))) := ⟨below_set HB.out (by omega)⟩
   have D2 : Aside0 (Kd.R (kraw 1) 216 (wo.setCell ⟨w.heap.size + 1, 0, none⟩ (Value.slice Av nv cv)) (w.heap.size + 3) (fun _ => True) (Value.slice Av nv cv) xs) := ⟨raw_move HO.out fun k hk => Below.heap_setCell wo _ _ k (by intro e; have := (raw_at HO.out hk).1; have : k = w.heap.size + 1 := e; omega)⟩
   generalize wo.setCell ⟨w.heap.size + 1, 0, none⟩ (Value.slice Av nv cv) = wz at d2 D1 D2 ⊢
   refine bodyPost_ret (results_cell_row (p := 2) (ty := 39) rfl _ _ (w.heap.size + 1) 39 #[Value.slice Av nv cv] (0, 0) _ rfl d2.out Tryz.underlying39 rfl (by kernel_rfl)) rfl ?_
   exact ⟨_, xs, rfl, by have := HX.out; omega, raw_lower D2.out (by omega), D1.out⟩
end Go.Sim
end
section
namespace Go.Sim
attribute [local instance] noRO
open Go.Proofs Go.RowKit Go.Proofs.YtdppeaciahdekaaGreatW.PrintWords Go.Proofs.YtdppeaciahdekaaGreatW.PrintLast Go.Proofs.YtdppeaciahdekaaGreatW.PrintMore
open Go.Proofs.YtdppeaciahdekaaGreat.PLockParts
def key4 (s : S218) : S4 := (s.f0, s.f1, s.f2, s.f3)
set_option maxHeartbeats 8000000 in
set_option maxRecDepth 100000 in
theorem of_calls (s : S218) (A : Option Addr) (n c : Nat) (w : World) :
  Calls Tryz.prog 241 #[.agg #[.int .u8 s.f0, .int .u8 s.f1, .int .u8 s.f2, .int .u8 s.f3, .int .u8 s.f4, .int .u8 s.f5, .slice A n c]] w fun e w' => e = .returned (kv (key4 s)) ∧ Below w.heap.size w w' := by
 go_enter Tryz.func241, Tryz.ntmps241
 go_wp2
 have h1 := heap_alloc_new (w.alloc (Obj.cells #[Value.int IntKind.u8 s.f0, Value.int IntKind.u8 s.f1, Value.int IntKind.u8 s.f2, Value.int IntKind.u8 s.f3, Value.int IntKind.u8 s.f4, Value.int IntKind.u8 s.f5, Value.slice A n c] 218)) (Obj.cells #[Value.int IntKind.u8 s.f0, Value.int IntKind.u8 s.f1, Value.int IntKind.u8 s.f2, Value.int IntKind.u8 s.f3] 306)
 rw [show (w.alloc (Obj.cells #[Value.int IntKind.u8 s.f0, Value.int IntKind.u8 s.f1, Value.int IntKind.u8 s.f2, Value.int IntKind.u8 s.f3, Value.int IntKind.u8 s.f4, Value.int IntKind.u8 s.f5, Value.slice A n c] 218)).heap.size = w.heap.size + 1 by simp] at h1
 have h2 := below_alloc (below_alloc (Below.refl w.heap.size w) (Obj.cells #[Value.int IntKind.u8 s.f0, Value.int IntKind.u8 s.f1, Value.int IntKind.u8 s.f2, Value.int IntKind.u8 s.f3, Value.int IntKind.u8 s.f4, Value.int IntKind.u8 s.f5, Value.slice A n c] 218)) (Obj.cells #[Value.int IntKind.u8 s.f0, Value.int IntKind.u8 s.f1, Value.int IntKind.u8 s.f2, Value.int IntKind.u8 s.f3] 306)
 refine bodyPost_ret (results_cell_row (p := 2) (ty := 306) rfl _ _ (w.heap.size + 1) 306 _ (0, 0) _ rfl h1 Tryz.underlying306 rfl (by kernel_rfl)) rfl ?_
 exact ⟨rfl, h2⟩
set_option maxHeartbeats 8000000 in
set_option maxRecDepth 100000 in
theorem many_calls (A : Option Addr) (n c : Nat) (w : World) : Calls Tryz.prog 239 #[.slice A n c] w fun e w' => e = .returned (.bool (decide (12 < n))) ∧ w' = w := by
 have e : decide ((12 : Int) < (n : Int)) = decide (12 < n) := by rw [decide_eq_decide]; omega
 go_enter Tryz.func239, Tryz.ntmps239
 go_wp2
 go_ret
 refine ⟨?_, rfl⟩
 rw [← e]; rfl
theorem any_take {ds : List (List S218)} {f : List S218 → Bool} {n : Nat} (h : (ds.take n).any f = true) : ds.any f = true := by
 obtain ⟨x, h1, h2⟩ := List.any_eq_true.1 h
 exact List.any_eq_true.2 ⟨x, List.mem_of_mem_take h1, h2⟩
theorem any_snoc (ds : List (List S218)) {i : Nat} (h : i < ds.length) : (ds.take (i + 1)).any (fun d => decide (12 < d.length)) = ((ds.take i).any (fun d => decide (12 < d.length)) || decide (12 < (rd_L5 ds i).length)) := by
 have : rd_L5 ds i = ds[i] := by simp [rd_L5, List.getD_eq_getElem?_getD, h]
 rw [List.take_succ_eq_append_getElem h, List.any_append, this]
 simp
set_option maxHeartbeats 8000000 in
set_option maxRecDepth 100000 in
theorem index_calls (A : Option Addr) (c : Nat) (ds : List (List S218)) (w : World) (hr : Kd.C (Go.Proofs.YtdppeaciahdekaaGreatW.PrintWords.Kd.slice 218 k218) w A ds.length ds) (hl : ds.length ≤ 1000000) :
  Calls Tryz.prog 286 #[.slice A ds.length c, .func (.func 239) #[] #[]] w fun e w' => ∃ i : Int, e = .returned (.int .i64 i) ∧ (0 ≤ i ↔ ds.any (fun d => decide (12 < d.length)) = true) ∧ Below w.heap.size w w' := by
 have hu37 := Tryz.underlying37
 have HR := Aside0.mk hr
 have HL := Aside0.mk hl
 clear hr hl
 go_enter Tryz.func286, Tryz.ntmps286
 go_wp2
 go_loopg [8] ds.length (fun kq v8 w' => ∃ i : Nat, v8 = .int .i64 i ∧ i ≤ ds.length ∧ Aside0 (ds.length - i ≤ kq) ∧ Aside0 ((ds.take i).any (fun d => decide (12 < d.length)) = false) ∧ w' = w)
 case atStart => exact ⟨0, rfl, Nat.zero_le _, ⟨Nat.le_refl _⟩, ⟨rfl⟩, rfl⟩
 case round =>
  obtain ⟨i, rfl, hi, HK, HN, rfl⟩ := hrel
  by_cases hc : i < ds.length
  ·have hc0 : decide ((i : Int) < (ds.length : Int)) = true := decide_eq_true (by omega)
   have hc1 : decide (i < ds.length) = true := decide_eq_true hc
   have p1 : (0 : Int) ≤ (i : Int) := by omega
   have q1 : (i : Int) < (ds.length : Int) := by omega
   obtain ⟨ad, A0, c0, e1, h0, l0, g0⟩ := at_L5 HR.out i p1 q1
   cases e1
   have hin : ((i : Int)).toNat = i := rfl
   rw [hin] at h0
   clear g0
   have HS := Aside0.mk (any_snoc ds hc)
   replace p1 := eq_true p1
   replace q1 := eq_true q1
   generalize rd_L5 ds ↑i = d at h0 l0 HS
   cases gk with
   | zero => exact absurd HK.out (by omega)
   | succ k1 =>
    by_cases h12 : 12 < d.length
    ·have hd : decide (12 < d.length) = true := decide_eq_true h12
     go_wp2_with (first | (go_at_call 239; refine (many_calls A0 d.length c0 _).mono ?_; rintro e w5 ⟨rfl, rfl⟩))
     go_ret
     refine ⟨i, rfl, ⟨fun _ => ?_, fun _ => by omega⟩, Below.refl _ _⟩
     have h1 := HS.out
     rw [hd, Bool.or_true] at h1
     exact any_take h1
    ·have hd : decide (12 < d.length) = false := decide_eq_false h12
     go_wp2_with (first | (go_at_call 239; refine (many_calls A0 d.length c0 _).mono ?_; rintro e w5 ⟨rfl, rfl⟩))
     go_roundg k1
     case measure => omega
     case rel => exact ⟨i + 1, by rw [wrap64_add1 (by omega : (0 : Int) ≤ i) (by have := HL.out; omega)]; rfl, by omega, ⟨by have := HK.out; omega⟩, ⟨by rw [HS.out, HN.out, hd]; rfl⟩, rfl⟩
  ·have hc0 : decide ((i : Int) < (ds.length : Int)) = false := decide_eq_false (by omega)
   have hc1 : decide (i < ds.length) = false := decide_eq_false hc
   go_wp2
   go_ret
   have h1 := HN.out
   rw [show i = ds.length by omega, List.take_length] at h1
   exact ⟨-1, rfl, ⟨fun h => absurd h (by omega), fun h => by rw [h1] at h; cases h⟩, Below.refl _ _⟩
set_option maxHeartbeats 8000000 in
set_option maxRecDepth 100000 in
theorem contains_calls (A : Option Addr) (c : Nat) (ds : List (List S218)) (w : World) (hr : Kd.C (Go.Proofs.YtdppeaciahdekaaGreatW.PrintWords.Kd.slice 218 k218) w A ds.length ds) (hl : ds.length ≤ 1000000) :
  Calls Tryz.prog 238 #[.slice A ds.length c, .func (.func 239) #[] #[]] w fun e w' => e = .returned (.bool (ds.any (fun d => decide (12 < d.length)))) ∧ Below w.heap.size w w' := by
 have HR := Aside0.mk hr
 have HL := Aside0.mk hl
 clear hr hl
 go_enter Tryz.func238, Tryz.ntmps238
 go_wp2_with (first | (go_at_call 286; refine (index_calls A c ds _ HR.out HL.out).mono ?_; rintro e w5 ⟨j, rfl, hj, hb⟩; have HJ := Aside0.mk hj; have HB := Aside0.mk hb; clear hj hb))
 go_ret
 refine ⟨?_, HB.out⟩
 have e : decide (0 ≤ j) = ds.any (fun d => decide (12 < d.length)) := by
  cases h : ds.any (fun d => decide (12 < d.length)) with
  | true => exact decide_eq_true (HJ.out.2 h)
  | false => exact decide_eq_false fun h1 => by have := HJ.out.1 h1; rw [h] at this; cases this
 rw [← e]; rfl
end Go.Sim
end
section
namespace Go.Sim
attribute [local instance] noRO
open Go.Proofs Go.RowKit Go.Proofs.YtdppeaciahdekaaGreatW.PrintWords Go.Proofs.YtdppeaciahdekaaGreatW.PrintLast Go.Proofs.YtdppeaciahdekaaGreatW.PrintMore
open Go.Proofs.YtdppeaciahdekaaGreat.PLockParts
def secBad (ks : List S4) (s : S218) : Bool := decide (3 < s.f3) || !decide ((s.f6.length : Int) = shl .i64 128 s.f3) || decide (key4 s ∈ ks)
def trkBad : List S4 → List S218 → Bool
 | _, [] => false
 | ks, s :: l => secBad ks s || trkBad (ks ++ [key4 s]) l
def imageChk (ds : List (List S218)) : Int := if 84 < ds.length then 3 else if ds.any (fun d => decide (12 < d.length)) = true then 3 else if ds.length = 0 then 2 else if ds.any (trkBad []) = true then 2 else 0
def dkOK (ds : List (List S218)) : Prop := ∀ d ∈ ds, ∀ s ∈ d, (0 : Int) ≤ s.f3
theorem any_snoc' (ds : List (List S218)) (f : List S218 → Bool) {i : Nat} (h : i < ds.length) : (ds.take (i + 1)).any f = ((ds.take i).any f || f (rd_L5 ds i)) := by
 have : rd_L5 ds i = ds[i] := by simp [rd_L5, List.getD_eq_getElem?_getD, h]
 rw [List.take_succ_eq_append_getElem h, List.any_append, this]
 simp
theorem trk_step (ks : List S4) (d : List S218) {i : Nat} (h : i < d.length) : trkBad ks (d.drop i) = (secBad ks (rd_T218 d i) || trkBad (ks ++ [key4 (rd_T218 d i)]) (d.drop (i + 1))) := by
 have e : rd_T218 d i = d[i] := by simp [rd_T218, List.getD_eq_getElem?_getD, h]
 rw [List.drop_eq_getElem_cons h, e]
 rfl
theorem img_two {ds d : List _} {i : Nat} (h84 : ¬84 < ds.length) (hany : ds.any (fun d => decide (12 < d.length)) = false) (h0 : ¬ds.length = 0) (hS : (ds.take (i + 1)).any (trkBad []) = ((ds.take i).any (trkBad []) || trkBad [] d)) (hT : trkBad [] d = true) : imageChk ds = 2 := by
 unfold imageChk
 rw [if_neg h84, if_neg (by rw [hany]; exact Bool.false_ne_true), if_neg h0, if_pos]
 rw [hT, Bool.or_true] at hS
 exact any_take hS
theorem look_q {w : World} {b : Nat} {ks : List S4} {es : Array MapEntry} {clock : Nat} {k : S4} {q : Bool} (hb : w.heap[b]? = some (.map es clock)) (h : KeySet ks es) (hq : decide (k ∈ ks) = q) :
  (Instr.lookup 304 (.map (some b)) (kv k) false).run Tryz.prog w = .ok (.bool q) w := (set_look hb h k).trans (by rw [hq])
theorem below_block {B b : Nat} {w w1 : World} (h : Below B w w1) (hb : B ≤ b) (o : Obj) : Below B w (ChangeMaps.setBlock w1 b o) :=
 ⟨h.os, h.tape, h.output, by have := h.size; simpa [ChangeMaps.setBlock] using this, fun i hi => by
  have hne : b ≠ i := by omega
  rw [← h.block i hi]
  simp [ChangeMaps.setBlock, Array.getElem?_setIfInBounds, hne]⟩
theorem size_calls (a0 r : Int) (w : World) (h : image_Size.f a0 = some r) : Calls Tryz.prog 240 #[.int .u8 a0] w fun e w' => e = .returned (.int .i64 r) ∧ ∃ m, w' = w.drewN m :=
 (image_Size.calls a0 r w h).mono fun _ _ ⟨h1, h2⟩ => ⟨h1, h2.out⟩
theorem below_drewN' {B : Nat} {w W : World} (h : Below B w W) (n : Nat) : Below B w (W.drewN n) := ⟨h.os, h.tape, h.output, h.size, h.block⟩
set_option maxHeartbeats 8000000 in
set_option maxRecDepth 100000 in
theorem image_check_calls (A : Option Addr) (c : Nat) (ds : List (List S218)) (w : World) (hr : Kd.C (Go.Proofs.YtdppeaciahdekaaGreatW.PrintWords.Kd.slice 218 k218) w A ds.length ds) (hl : ds.length ≤ 1000000) (hl2 : ∀ d ∈ ds, d.length ≤ 1000000) (hok : dkOK ds) :
  Calls Tryz.prog 164 #[.agg #[.slice A ds.length c]] w fun e w' => e = .returned (.int .i64 (imageChk ds)) ∧ Below w.heap.size w w' := by
 have hu37 := Tryz.underlying37
 have hu216 := Tryz.underlying216
 have hu218 := Tryz.underlying218
 have HR := Aside0.mk hr
 have HL := Aside0.mk hl
 have HK := Aside0.mk hok
 have HL2 := Aside0.mk hl2
 clear hr hl hl2 hok
 have HB1 := Aside0.mk (below_alloc (Below.refl w.heap.size w) (Obj.cells #[Value.slice A ds.length c] 39))
 go_enter Tryz.func164, Tryz.ntmps164
 by_cases h84 : 84 < ds.length
 ·have h840 : decide ((84 : Int) < (ds.length : Int)) = true := decide_eq_true (by omega)
  have h841 : decide (84 < ds.length) = true := decide_eq_true (by omega)
  go_wp2
  go_ret
  exact ⟨by unfold imageChk; rw [if_pos h84]; rfl, HB1.out⟩
 have h840 : decide ((84 : Int) < (ds.length : Int)) = false := decide_eq_false (by omega)
 have h841 : decide (84 < ds.length) = false := decide_eq_false (by omega)
 have HR1 := Aside0.mk (Kd.C_below HR.out HB1.out)
 have k1 := Aside0.mk (heap_alloc_new w (Obj.cells #[Value.slice A ds.length c] 39))
 cases hany : ds.any (fun d => decide (12 < d.length)) with
 | true =>
  go_wp2_with (first | (go_at_call 238; refine (contains_calls A c ds _ HR1.out HL.out).mono ?_; rintro e w1 ⟨rfl, hb1⟩; rw [hany]; have HB := Aside0.mk hb1; clear hb1))
  go_ret
  exact ⟨by unfold imageChk; rw [if_neg h84, if_pos hany]; rfl, below_then HB1.out HB1.out.size HB.out⟩
 | false =>
  by_cases h0 : ds.length = 0
  ·obtain rfl : ds = [] := List.eq_nil_of_length_eq_zero h0
   go_wp2_with (first | (go_at_call 238; refine (contains_calls A c [] _ HR1.out HL.out).mono ?_; rintro e w1 ⟨rfl, hb1⟩; rw [hany]; have HB := Aside0.mk (below_then HB1.out HB1.out.size hb1); have b1 : w1.cell? ⟨w.heap.size, 0, none⟩ = some (.slice A 0 c) := (blk_cell ((hb1.block w.heap.size (by simp)).trans k1.out) 0).trans rfl; clear hb1))
   go_ret
   exact ⟨by unfold imageChk; rw [if_neg h84, if_neg (by rw [hany]; exact Bool.false_ne_true), if_pos h0]; rfl, HB.out⟩
  have h00 : decide ((ds.length : Int) = 0) = false := decide_eq_false (by omega)
  have h01 : ((ds.length : Int) == 0) = false := beq_eq_false_iff_ne.2 (by omega)
  have h02 : (ds.length == 0) = false := beq_eq_false_iff_ne.2 h0
  go_wp2_with (first | (go_at_call 238; refine (contains_calls A c ds _ HR1.out HL.out).mono ?_; rintro e w1 ⟨rfl, hb1⟩; rw [hany]; have HB := Aside0.mk (below_then HB1.out HB1.out.size hb1); have b1 : w1.cell? ⟨w.heap.size, 0, none⟩ = some (.slice A ds.length c) := (blk_cell ((hb1.block w.heap.size (by simp)).trans k1.out) 0).trans rfl; clear hb1))
  clear b1
  have HANY := Aside0.mk hany
  have H00 := Aside0.mk h0
  clear hany h0
  go_loopg [24] ds.length (fun kq v24 w' => ∃ i : Nat, v24 = .int .i64 i ∧ i ≤ ds.length ∧ Aside0 (ds.length - i ≤ kq) ∧ Aside0 ((ds.take i).any (trkBad []) = false) ∧ Aside0 (Below w.heap.size w w'))
  case atStart => exact ⟨0, rfl, Nat.zero_le _, ⟨Nat.le_refl _⟩, ⟨rfl⟩, HB⟩
  case round =>
   clear HB
   obtain ⟨i, rfl, hi, HKq, HN, HB⟩ := hrel
   rename World => wo
   by_cases hc : i < ds.length
   ·have hc0 : decide ((i : Int) < (ds.length : Int)) = true := decide_eq_true (by omega)
    have hc1 : decide (i < ds.length) = true := decide_eq_true hc
    have p1 : (0 : Int) ≤ (i : Int) := by omega
    have q1 : (i : Int) < (ds.length : Int) := by omega
    obtain ⟨ad, A0, c0, e1, h0', l0, g0⟩ := at_L5 HR.out i p1 q1
    cases e1
    have hin : ((i : Int)).toNat = i := rfl
    rw [hin] at h0'
    replace h0' := (HB.out.cell (World.block_lt_of_cell? w _ h0')).trans h0'
    have G0 := Aside0.mk (Kd.C_below g0 HB.out)
    clear g0
    have hmem : rd_L5 ds i ∈ ds := by
     have : rd_L5 ds i = ds[i] := by simp [rd_L5, List.getD_eq_getElem?_getD, hc]
     rw [this]; exact List.getElem_mem hc
    have HMEM := Aside0.mk (HK.out _ hmem)
    have HS := Aside0.mk (any_snoc' ds (trkBad []) hc)
    have HDL := Aside0.mk (HL2.out _ hmem)
    clear hmem
    replace p1 := eq_true p1
    replace q1 := eq_true q1
    generalize rd_L5 ds ↑i = d at h0' l0 G0 HMEM HS HDL
    cases gk with
    | zero => exact absurd HKq.out (by omega)
    | succ k1 =>
     have hmk : (Instr.makeMap 304 none).run Tryz.prog wo = .ok (.map (some wo.heap.size)) (wo.alloc (.map #[] 0)) := run_makeMap 304 wo
     have hmn := heap_alloc_new wo (Obj.map #[] 0)
     have hmb : Below wo.heap.size wo (wo.alloc (.map #[] 0)) := below_alloc (Below.refl _ _) _
     generalize wo.alloc (Obj.map #[] 0) = wm at hmk hmn hmb
     have HMN := Aside0.mk hmn
     have HMB := Aside0.mk hmb
     clear hmn hmb
     go_wp2
     clear hmk
     have HMBL : Aside0 (∃ mb, wo.heap.size = mb) := ⟨_, rfl⟩
     have HI0 : Aside0 (KeySet ((d.take 0).map key4) #[]) := ⟨⟨fun e he => by simp at he, fun k hk => by simp at hk⟩⟩
     go_loopg [31] d.length (fun kq v31 w' => ∃ (i2 : Nat) (es : Array MapEntry) (ck : Nat), v31 = .int .i64 i2 ∧ i2 ≤ d.length ∧ Aside0 (d.length - i2 ≤ kq) ∧ Aside0 (trkBad [] d = trkBad ((d.take i2).map key4) (d.drop i2)) ∧ Aside0 (w'.heap[wo.heap.size]? = some (.map es ck)) ∧ Aside0 (KeySet ((d.take i2).map key4) es) ∧ Aside0 (Below wo.heap.size wo w'))
     case atStart => exact ⟨0, #[], 0, rfl, Nat.zero_le _, ⟨Nat.le_refl _⟩, ⟨rfl⟩, HMN, HI0, HMB⟩
     case round =>
      clear HMN HI0 HMB
      obtain ⟨i2, es, ck, rfl, hi2, HK2, HT, HM, HKS, HBW⟩ := hrel
      by_cases hc2 : i2 < d.length
      ·have hc20 : decide ((i2 : Int) < (d.length : Int)) = true := decide_eq_true (by omega)
       have hc21 : decide (i2 < d.length) = true := decide_eq_true hc2
       have p2 : (0 : Int) ≤ (i2 : Int) := by omega
       have q2 : (i2 : Int) < (d.length : Int) := by omega
       obtain ⟨ad2, A6, c6, e2, s0, s1, s2, s3, s4, s5, s6, l6, g6⟩ := at_T218 G0.out i2 p2 q2
       cases e2
       have hin2 : ((i2 : Int)).toNat = i2 := rfl
       rw [hin2] at s0 s1 s2 s3 s4 s5 s6
       replace s0 := (HBW.out.cell (World.block_lt_of_cell? wo _ s0)).trans s0
       replace s1 := (HBW.out.cell (World.block_lt_of_cell? wo _ s1)).trans s1
       replace s2 := (HBW.out.cell (World.block_lt_of_cell? wo _ s2)).trans s2
       replace s3 := (HBW.out.cell (World.block_lt_of_cell? wo _ s3)).trans s3
       replace s4 := (HBW.out.cell (World.block_lt_of_cell? wo _ s4)).trans s4
       replace s5 := (HBW.out.cell (World.block_lt_of_cell? wo _ s5)).trans s5
       replace s6 := (HBW.out.cell (World.block_lt_of_cell? wo _ s6)).trans s6
       clear g6
       have hsm : rd_T218 d i2 ∈ d := by
        have : rd_T218 d i2 = d[i2] := by simp [rd_T218, List.getD_eq_getElem?_getD, hc2]
        rw [this]; exact List.getElem_mem hc2
       have HF3 := Aside0.mk (HMEM.out _ hsm)
       have HST := Aside0.mk (trk_step ((d.take i2).map key4) d hc2)
       have HTK := Aside0.mk (show (d.take (i2 + 1)).map key4 = (d.take i2).map key4 ++ [key4 (rd_T218 d i2)] by
        have : rd_T218 d i2 = d[i2] := by simp [rd_T218, List.getD_eq_getElem?_getD, hc2]
        rw [List.take_succ_eq_append_getElem hc2, List.map_append, this]; rfl)
       clear hsm
       replace p2 := eq_true p2
       replace q2 := eq_true q2
       generalize rd_T218 d ↑i2 = s at s0 s1 s2 s3 s4 s5 s6 l6 HF3 HST HTK
       cases gk with
       | zero => exact absurd HK2.out (by omega)
       | succ k2 =>
        clear h0'
        go_wp2
        have hn6 := heap_alloc_new wr (Obj.cells #[Value.int .u8 s.f0, Value.int .u8 s.f1, Value.int .u8 s.f2, Value.int .u8 s.f3, Value.int .u8 s.f4, Value.int .u8 s.f5, Value.slice A6 s.f6.length c6] 218)
        have hb6 : Below wr.heap.size wr (wr.alloc (Obj.cells #[Value.int .u8 s.f0, Value.int .u8 s.f1, Value.int .u8 s.f2, Value.int .u8 s.f3, Value.int .u8 s.f4, Value.int .u8 s.f5, Value.slice A6 s.f6.length c6] 218)) := below_alloc (Below.refl _ _) _
        have hs6 : (wr.alloc (Obj.cells #[Value.int .u8 s.f0, Value.int .u8 s.f1, Value.int .u8 s.f2, Value.int .u8 s.f3, Value.int .u8 s.f4, Value.int .u8 s.f5, Value.slice A6 s.f6.length c6] 218)).heap.size = wr.heap.size + 1 := by simp
        generalize wr.alloc (Obj.cells #[Value.int .u8 s.f0, Value.int .u8 s.f1, Value.int .u8 s.f2, Value.int .u8 s.f3, Value.int .u8 s.f4, Value.int .u8 s.f5, Value.slice A6 s.f6.length c6] 218) = w6 at hn6 hb6 hs6 ⊢
        have hmw : wo.heap.size < wr.heap.size := blk_lt HM.out
        have hm6 := Aside0.mk ((hb6.block _ hmw).trans HM.out)
        have HB6 := Aside0.mk hb6
        have HS6 := Aside0.mk hs6
        have HMW := Aside0.mk hmw
        clear hmw hb6 hs6 s0 s1 s2 s3 s4 s5 s6
        generalize hgE : wr.heap.size = g at hn6 HB6 HS6 HMW ⊢
        have b0 : w6.cell? ⟨g, 0, none⟩ = some (Value.int .u8 s.f0) := (blk_cell hn6 0).trans rfl
        have b1 : w6.cell? ⟨g, 1, none⟩ = some (Value.int .u8 s.f1) := (blk_cell hn6 1).trans rfl
        have b2 : w6.cell? ⟨g, 2, none⟩ = some (Value.int .u8 s.f2) := (blk_cell hn6 2).trans rfl
        have b3 : w6.cell? ⟨g, 3, none⟩ = some (Value.int .u8 s.f3) := (blk_cell hn6 3).trans rfl
        have b4 : w6.cell? ⟨g, 4, none⟩ = some (Value.int .u8 s.f4) := (blk_cell hn6 4).trans rfl
        have b5 : w6.cell? ⟨g, 5, none⟩ = some (Value.int .u8 s.f5) := (blk_cell hn6 5).trans rfl
        have b6 : w6.cell? ⟨g, 6, none⟩ = some (Value.slice A6 s.f6.length c6) := (blk_cell hn6 6).trans rfl
        clear hn6
        generalize hmbE : wo.heap.size = mb at hm6 HMW ⊢
        have HGE := Aside0.mk hgE
        have HMBE := Aside0.mk hmbE
        clear hgE hmbE
        by_cases c3 : 3 < s.f3
        ·have c30 : decide (3 < s.f3) = true := decide_eq_true c3
         go_wp2_with fail
         go_quiet (fail)
         go_wp2
         go_ret
         refine ⟨congrArg (fun x => Ending.returned (Value.int .i64 x)) (img_two h84 HANY.out H00.out HS.out (HT.out.trans (HST.out.trans (by simp [secBad, c30])))).symm, ?_⟩
         have hb := below_then HB.out HB.out.size HBW.out
         exact below_drewN' (below_then hb hb.size (HGE.out ▸ HB6.out)) _
        ·have c30 : decide (3 < s.f3) = false := decide_eq_false c3
         have hsz : image_Size.f s.f3 = some (shl .i64 128 s.f3) := by unfold image_Size.f; rw [if_neg (by omega), if_pos HF3.out]
         have HSB : Aside0 (secBad ((d.take i2).map key4) s = (!decide ((s.f6.length : Int) = shl .i64 128 s.f3) || decide (key4 s ∈ (d.take i2).map key4))) := ⟨by unfold secBad; rw [c30]; rfl⟩
         generalize shl .i64 128 s.f3 = z at hsz HSB
         have HSZ := Aside0.mk hsz
         clear hsz
         by_cases cz : (s.f6.length : Int) = z
         ·have cz0 : ((s.f6.length : Int) != z) = false := bne_eq_false_iff_eq.mpr cz
          have cz1 : decide ((s.f6.length : Int) = z) = true := decide_eq_true cz
          have HCZ := Aside0.mk cz1
          obtain ⟨q, hq⟩ : ∃ q, decide (key4 s ∈ (d.take i2).map key4) = q := ⟨_, rfl⟩
          have HQ := Aside0.mk hq
          clear hq
          have hlk : (Instr.lookup 304 (.map (some mb)) (kv (key4 s)) false).run Tryz.prog w6 = .ok (.bool q) w6 := (set_look hm6.out HKS.out _).trans (by rw [HQ.out])
          have hlkd : (Instr.lookup 304 (.map (some mb)) (kv (key4 s)) false).run Tryz.prog w6.drew = .ok (.bool q) w6.drew := look_q (w := w6.drew) hm6.out HKS.out HQ.out
          clear cz cz1
          go_wp2_with fail
          go_region_held3 (fun w' => w'.cell? ⟨g, 0, none⟩ = some (Value.int .u8 s.f0) ∧ w'.cell? ⟨g, 1, none⟩ = some (Value.int .u8 s.f1) ∧ w'.cell? ⟨g, 2, none⟩ = some (Value.int .u8 s.f2) ∧ w'.cell? ⟨g, 3, none⟩ = some (Value.int .u8 s.f3) ∧ w'.cell? ⟨g, 4, none⟩ = some (Value.int .u8 s.f4) ∧ w'.cell? ⟨g, 5, none⟩ = some (Value.int .u8 s.f5) ∧ w'.cell? ⟨g, 6, none⟩ = some (Value.slice A6 s.f6.length c6) ∧ w'.heap[mb]? = some (.map es ck) ∧ (Instr.lookup 304 (.map (some mb)) (kv (key4 s)) false).run Tryz.prog w' = .ok (.bool q) w') (first | exact ⟨b0, b1, b2, b3, b4, b5, b6, hm6.out, hlkd⟩ | (go_split_ands; refine ⟨?_, ?_, ?_, ?_, ?_, ?_, ?_, ?_, ?_⟩ <;> first | assumption | exact pw_cell_below (by assumption) (by assumption) | exact (Below.block (by assumption) _ (blk_lt (by assumption))).trans (by assumption) | exact look_q (by assumption) HKS.out HQ.out | exact look_q ((Below.block (by assumption) _ (blk_lt (by assumption))).trans (by assumption)) HKS.out HQ.out)) (first | (go_at_call 240; refine (image_Size.calls s.f3 z _ HSZ.out).mono ?_; rintro e w7 ⟨rfl, ⟨n7, rfl⟩⟩) | (go_at_call 241; refine (of_calls s A6 s.f6.length c6 _).mono ?_; rintro e w7 ⟨rfl, hb7⟩))
          rename_i hHeld
          obtain ⟨d0, d1, d2, d3, d4, d5, d6, hm7, hl7⟩ := hHeld
          have HM7 := Aside0.mk hm7
          have HB7 : Aside0 (Below g wr w7) := ⟨below_then (below_drewN' HB6.out _) (by have := HS6.out; show g ≤ w6.heap.size; omega) hb7⟩
          clear hm7 hl7 hb7 hlk hlkd b0 b1 b2 b3 b4 b5 b6 hm6
          have HWB := Aside0.mk (below_then HB.out HB.out.size HBW.out)
          cases q with
          | true =>
           have HKD := HQ
           go_wp2
           go_ret
           refine ⟨congrArg (fun x => Ending.returned (Value.int .i64 x)) (img_two h84 HANY.out H00.out HS.out (HT.out.trans (HST.out.trans (by rw [HSB.out, HKD.out, Bool.or_true]; rfl)))).symm, ?_⟩
           exact below_then HWB.out HWB.out.size (HGE.out ▸ HB7.out)
          | false =>
           have HKD := HQ
           have HKN := Aside0.mk (of_decide_eq_false HQ.out)
           go_wp2_with (first | (go_at_call 241; refine (of_calls s A6 s.f6.length c6 _).mono ?_; rintro e w8 ⟨rfl, hb8⟩; have hm8 := (hb8.block mb (blk_lt HM7.out)).trans HM7.out; obtain ⟨es', ck', hu, hks'⟩ := set_put hm8 HKS.out (key4 s) HKN.out; have HM8 := Aside0.mk hm8; have HKS' := Aside0.mk hks'; have HB8 := Aside0.mk hb8; clear hm8 hks' hb8))
           obtain ⟨hmbE⟩ := HMBE
           subst hmbE
           go_roundg k2
           case measure => omega
           case rel =>
            have hblt : wo.heap.size < w8.heap.size := blk_lt HM8.out
            refine ⟨i2 + 1, es', ck', by rw [wrap64_add1 (by omega : (0 : Int) ≤ i2) (by have := HDL.out; omega)]; rfl, by omega, ⟨by have := HK2.out; omega⟩, ⟨?_⟩, ⟨?_⟩, ⟨?_⟩, ⟨?_⟩⟩
            ·rw [HTK.out, HT.out, HST.out, HSB.out, HCZ.out, HKD.out]; rfl
            ·simp [ChangeMaps.setBlock, hblt]
            ·rw [HTK.out]; exact HKS'.out
            ·have h1 : Below wo.heap.size wo w8 := below_then HBW.out HBW.out.size (HGE.out ▸ below_then HB7.out (by have := HB7.out.size; have := HGE.out; omega) HB8.out)
             exact below_block h1 (Nat.le_refl _) _
         ·have cz0 : ((s.f6.length : Int) != z) = true := bne_iff_ne.mpr cz
          have cz1 : decide ((s.f6.length : Int) = z) = false := decide_eq_false cz
          have HCZ := Aside0.mk cz1
          clear cz cz1
          go_wp2_with fail
          go_quiet (first | (go_at_call 240; exact Calls.quiet_of (size_calls s.f3 z _ HSZ.out)))
          go_wp2
          go_ret
          refine ⟨congrArg (fun x => Ending.returned (Value.int .i64 x)) (img_two h84 HANY.out H00.out HS.out (HT.out.trans (HST.out.trans (by rw [HSB.out, HCZ.out]; rfl)))).symm, ?_⟩
          have hb := below_then HB.out HB.out.size HBW.out
          exact below_drewN' (below_then hb hb.size (HGE.out ▸ HB6.out)) _
      ·have hc20 : decide ((i2 : Int) < (d.length : Int)) = false := decide_eq_false (by omega)
       have hc21 : decide (i2 < d.length) = false := decide_eq_false hc2
       clear h0'
       go_wp2
       go_roundg k1
       case measure => omega
       case rel =>
        refine ⟨i + 1, by first | rfl | (rw [wrap64_add1 (by omega : (0 : Int) ≤ i) (by have := HL.out; omega)]; rfl), by omega, ⟨by have := HKq.out; omega⟩, ⟨?_⟩, ⟨below_then HB.out HB.out.size HBW.out⟩⟩
        rw [HS.out, HN.out, HT.out, show i2 = d.length by omega, List.drop_length]; rfl
   ·have hc0 : decide ((i : Int) < (ds.length : Int)) = false := decide_eq_false (by omega)
    have hc1 : decide (i < ds.length) = false := decide_eq_false hc
    go_wp2
    go_ret
    refine ⟨congrArg (fun x => Ending.returned (Value.int .i64 x)) ?_, HB.out⟩
    have h1 := HN.out
    rw [show i = ds.length by omega, List.take_length] at h1
    unfold imageChk
    rw [if_neg h84, if_neg (by rw [HANY.out]; exact Bool.false_ne_true), if_neg H00.out, if_neg (by rw [h1]; exact Bool.false_ne_true)]
end Go.Sim
end
section
namespace Go.Sim
attribute [local instance] noRO
open Go.Proofs Go.RowKit Go.Proofs.YtdppeaciahdekaaGreatW.PrintWords Go.Proofs.YtdppeaciahdekaaGreatW.PrintLast Go.Proofs.YtdppeaciahdekaaGreatW.PrintMore
open Go.Proofs.YtdppeaciahdekaaGreat.PLockParts
structure Dsk where
 A : Option Addr
 c : Nat
 ds : List (List S218)
structure Dsk.lies (t : Dsk) (w : World) : Prop where
 r : Kd.C (Go.Proofs.YtdppeaciahdekaaGreatW.PrintWords.Kd.slice 218 k218) w t.A t.ds.length t.ds
 c : t.ds.length ≤ t.c
 l : t.ds.length ≤ 1000000
 l2 : ∀ d ∈ t.ds, d.length ≤ 1000000 ∧ ∀ s ∈ d, s.f6.length ≤ 1000000
 ok : dkOK t.ds
theorem Dsk.lies.below {t : Dsk} {w w' : World} (h : t.lies w) (hb : Below w.heap.size w w') : t.lies w' := ⟨Kd.C_below h.r hb, h.c, h.l, h.l2, h.ok⟩
def dskChk (a0 a1 : Int) (b : Bool) (ds : List (List S218)) : Int := if a0 < 1 then 2 else if a0 > 1048576 then 2 else if a1 < 1 then 2 else if a1 > 1048576 then 2 else if b = true then imageChk ds else 0
set_option maxHeartbeats 8000000 in
set_option maxRecDepth 100000 in
theorem fdc_check (a0 a1 : Int) (b : Bool) (t : Dsk) (w : World) (ht : t.lies w) :
  Calls Tryz.prog 109 #[.agg #[.int .i64 a0, .int .i64 a1, .bool b, .slice t.A t.ds.length t.c]] w fun e w' => e = .returned (.int .i64 (dskChk a0 a1 b t.ds)) ∧ Below w.heap.size w w' := by
 have hu41 := Tryz.underlying41
 have hu39 := Tryz.underlying39
 have HT := Aside0.mk ht
 clear ht
 have HB1 := Aside0.mk (below_alloc (Below.refl w.heap.size w) (Obj.cells #[.int .i64 a0, .int .i64 a1, .bool b, .slice t.A t.ds.length t.c] 41))
 have HE : Aside0 (∀ x, x = dskChk a0 a1 b t.ds → Ending.returned (Value.int .i64 x) = Ending.returned (.int .i64 (dskChk a0 a1 b t.ds))) := ⟨fun x h => by rw [h]⟩
 by_cases c1 : a0 < 1
 ·have d1 : decide (a0 < 1) = true := decide_eq_true c1
  go_enter Tryz.func109, Tryz.ntmps109
  go_wp2
  go_ret
  exact ⟨HE.out 2 (by unfold dskChk; rw [if_pos (by omega)]), HB1.out⟩
 have d1 : decide (a0 < 1) = false := decide_eq_false c1
 by_cases c2 : 1048576 < a0
 ·have d2 : decide (1048576 < a0) = true := decide_eq_true c2
  go_enter Tryz.func109, Tryz.ntmps109
  go_wp2
  go_ret
  exact ⟨HE.out 2 (by unfold dskChk; rw [if_neg (by omega), if_pos (by omega)]), HB1.out⟩
 have d2 : decide (1048576 < a0) = false := decide_eq_false c2
 by_cases c3 : a1 < 1
 ·have d3 : decide (a1 < 1) = true := decide_eq_true c3
  go_enter Tryz.func109, Tryz.ntmps109
  go_wp2
  go_ret
  exact ⟨HE.out 2 (by unfold dskChk; rw [if_neg (by omega), if_neg (by omega), if_pos (by omega)]), HB1.out⟩
 have d3 : decide (a1 < 1) = false := decide_eq_false c3
 by_cases c4 : 1048576 < a1
 ·have d4 : decide (1048576 < a1) = true := decide_eq_true c4
  go_enter Tryz.func109, Tryz.ntmps109
  go_wp2
  go_ret
  exact ⟨HE.out 2 (by unfold dskChk; rw [if_neg (by omega), if_neg (by omega), if_neg (by omega), if_pos (by omega)]), HB1.out⟩
 have d4 : decide (1048576 < a1) = false := decide_eq_false c4
 cases b with
 | false =>
  go_enter Tryz.func109, Tryz.ntmps109
  go_wp2
  go_ret
  exact ⟨HE.out 0 (by unfold dskChk; rw [if_neg (by omega), if_neg (by omega), if_neg (by omega), if_neg (by omega)]; rfl), HB1.out⟩
 | true =>
  have HX := Aside0.mk (show imageChk t.ds = dskChk a0 a1 true t.ds by unfold dskChk; rw [if_neg (by omega), if_neg (by omega), if_neg (by omega), if_neg (by omega)]; rfl)
  have HT1 := Aside0.mk (HT.out.below HB1.out)
  go_enter Tryz.func109, Tryz.ntmps109
  go_wp2_with (first | (go_at_call 164; refine (image_check_calls t.A t.c t.ds _ HT1.out.r HT1.out.l (fun d hd => (HT1.out.l2 d hd).1) HT1.out.ok).mono ?_; rintro e w5 ⟨rfl, hb5⟩; have HB5 := Aside0.mk hb5; clear hb5))
  go_ret
  exact ⟨HE.out _ HX.out, below_then HB1.out HB1.out.size HB5.out⟩
def or4 (a b c d : Int) : Int := if a ≠ 0 then a else if b ≠ 0 then b else if c ≠ 0 then c else d
end Go.Sim
end
section
namespace Go.Sim
attribute [local instance] noRO
open Go.Proofs Go.RowKit Go.Proofs.YtdppeaciahdekaaGreatW.PrintWords Go.Proofs.YtdppeaciahdekaaGreatW.PrintLast Go.Proofs.YtdppeaciahdekaaGreatW.PrintMore
open Go.Proofs.YtdppeaciahdekaaGreat.PLockParts
set_option maxHeartbeats 8000000 in
set_option maxRecDepth 100000 in
theorem or_calls (g : Nat) (a b c d : Int) (w : World) (h0 : w.cell? ⟨g, 0, none⟩ = some (.int .i64 a)) (h1 : w.cell? ⟨g, 1, none⟩ = some (.int .i64 b)) (h2 : w.cell? ⟨g, 2, none⟩ = some (.int .i64 c)) (h3 : w.cell? ⟨g, 3, none⟩ = some (.int .i64 d)) :
  Calls Tryz.prog 118 #[.slice (some ⟨g, 0, none⟩) 4 4] w fun e w' => e = .returned (.int .i64 (or4 a b c d)) ∧ w' = w := by
 go_enter Tryz.func118, Tryz.ntmps118
 go_wp2
 go_loopg [8] 4 (fun kq v8 w' => ∃ i : Nat, v8 = .int .i64 i ∧ i ≤ 4 ∧ Aside0 (4 - i ≤ kq) ∧ Aside0 ((1 ≤ i → a = 0) ∧ (2 ≤ i → b = 0) ∧ (3 ≤ i → c = 0) ∧ (4 ≤ i → d = 0)) ∧ w' = w)
 case atStart => exact ⟨0, rfl, Nat.zero_le _, ⟨Nat.le_refl _⟩, ⟨fun h => absurd h (by omega), fun h => absurd h (by omega), fun h => absurd h (by omega), fun h => absurd h (by omega)⟩, rfl⟩
 case round =>
  obtain ⟨i, rfl, hi, HK, HI, rfl⟩ := hrel
  match i, hi, HK, HI with
  | 0, hi, HK, HI =>
   by_cases ha : a = 0
   ·have e0 : (a != 0) = false := bne_eq_false_iff_eq.mpr ha
    have HZ := Aside0.mk ha
    clear ha
    cases gk with
    | zero => exact absurd HK.out (by omega)
    | succ k1 =>
     go_wp2
     go_roundg k1
     case measure => omega
     case rel => exact ⟨1, rfl, by omega, ⟨by have := HK.out; omega⟩, ⟨fun _ => HZ.out, fun h => absurd h (by omega), fun h => absurd h (by omega), fun h => absurd h (by omega)⟩, rfl⟩
   ·have e0 : (a != 0) = true := bne_iff_ne.mpr ha
    have HZ := Aside0.mk ha
    clear ha
    go_wp2
    go_ret
    refine ⟨congrArg (fun x => Ending.returned (Value.int .i64 x)) ?_, rfl⟩
    unfold or4
    rw [if_pos HZ.out]
  | 1, hi, HK, HI =>
   by_cases hb : b = 0
   ·have e0 : (b != 0) = false := bne_eq_false_iff_eq.mpr hb
    have HZ := Aside0.mk hb
    clear hb
    cases gk with
    | zero => exact absurd HK.out (by omega)
    | succ k1 =>
     go_wp2
     go_roundg k1
     case measure => omega
     case rel => exact ⟨2, rfl, by omega, ⟨by have := HK.out; omega⟩, ⟨fun _ => HI.out.1 (by omega), fun _ => HZ.out, fun h => absurd h (by omega), fun h => absurd h (by omega)⟩, rfl⟩
   ·have e0 : (b != 0) = true := bne_iff_ne.mpr hb
    have HZ := Aside0.mk hb
    clear hb
    go_wp2
    go_ret
    refine ⟨congrArg (fun x => Ending.returned (Value.int .i64 x)) ?_, rfl⟩
    unfold or4
    rw [if_neg (not_not_intro (HI.out.1 (by omega))), if_pos HZ.out]
  | 2, hi, HK, HI =>
   by_cases hc : c = 0
   ·have e0 : (c != 0) = false := bne_eq_false_iff_eq.mpr hc
    have HZ := Aside0.mk hc
    clear hc
    cases gk with
    | zero => exact absurd HK.out (by omega)
    | succ k1 =>
     go_wp2
     go_roundg k1
     case measure => omega
     case rel => exact ⟨3, rfl, by omega, ⟨by have := HK.out; omega⟩, ⟨fun _ => HI.out.1 (by omega), fun _ => HI.out.2.1 (by omega), fun _ => HZ.out, fun h => absurd h (by omega)⟩, rfl⟩
   ·have e0 : (c != 0) = true := bne_iff_ne.mpr hc
    have HZ := Aside0.mk hc
    clear hc
    go_wp2
    go_ret
    refine ⟨congrArg (fun x => Ending.returned (Value.int .i64 x)) ?_, rfl⟩
    unfold or4
    rw [if_neg (not_not_intro (HI.out.1 (by omega))), if_neg (not_not_intro (HI.out.2.1 (by omega))), if_pos HZ.out]
  | 3, hi, HK, HI =>
   by_cases hd : d = 0
   ·have e0 : (d != 0) = false := bne_eq_false_iff_eq.mpr hd
    have HZ := Aside0.mk hd
    clear hd
    cases gk with
    | zero => exact absurd HK.out (by omega)
    | succ k1 =>
     go_wp2
     go_roundg k1
     case measure => omega
     case rel => exact ⟨4, rfl, by omega, ⟨by have := HK.out; omega⟩, ⟨fun _ => HI.out.1 (by omega), fun _ => HI.out.2.1 (by omega), fun _ => HI.out.2.2.1 (by omega), fun _ => HZ.out⟩, rfl⟩
   ·have e0 : (d != 0) = true := bne_iff_ne.mpr hd
    have HZ := Aside0.mk hd
    clear hd
    go_wp2
    go_ret
    refine ⟨congrArg (fun x => Ending.returned (Value.int .i64 x)) ?_, rfl⟩
    unfold or4
    rw [if_neg (not_not_intro (HI.out.1 (by omega))), if_neg (not_not_intro (HI.out.2.1 (by omega))), if_neg (not_not_intro (HI.out.2.2.1 (by omega)))]
  | 4, hi, HK, HI =>
   go_wp2
   go_ret
   refine ⟨congrArg (fun x => Ending.returned (Value.int .i64 x)) ?_, rfl⟩
   unfold or4
   rw [if_neg (not_not_intro (HI.out.1 (by omega))), if_neg (not_not_intro (HI.out.2.1 (by omega))), if_neg (not_not_intro (HI.out.2.2.1 (by omega))), HI.out.2.2.2 (by omega)]
  | n + 5, hi, _, _ => exact absurd hi (by omega)
end Go.Sim
end
section
namespace Go.Sim
attribute [local instance] noRO
open Go.Proofs Go.RowKit Go.Proofs.YtdppeaciahdekaaGreatW.PrintWords Go.Proofs.YtdppeaciahdekaaGreatW.PrintLast Go.Proofs.YtdppeaciahdekaaGreatW.PrintMore
open Go.Proofs.YtdppeaciahdekaaGreat.PLockParts
theorem zero_of {t : TypeId} {z : Rope AVal} (h : LP.E.zro t = some z) : ∃ i v, Tryz.prog.info? t = some i ∧ i.zero = some v ∧ i.size = z.size ∧ v.cells.size = z.size ∧ ∀ (j : Nat) a u, z.get j = some a → a.val1 = some u → j < z.size → v.cells[j]? = some u := by
 obtain ⟨i, v, h1, h2, h3, h4, h5, _⟩ := LP.envOK.zro t z h
 refine ⟨i, v, h1, h2, h3, h4, fun j a u ha hu hj => ?_⟩
 obtain ⟨a', u', g1, g2, g3, g4⟩ := h5 (fun _ => none) j hj
 rw [ha] at g1; cases g1
 rw [Nat.zero_add] at g3
 rw [g3, val1_sound hu g4]
theorem wpList_alloc_zero {ops : Array Oper} {rest : List Oper} {o : Oper} {a : Act} {w : World} {Q : Exit → Act → World → Prop} (hgd : o.guard = none) (t : TypeId) (ho : o.op = .alloc t) {i : TypeInfo} {v : Value} (hi : Tryz.prog.info? t = some i) (hz : i.zero = some v)
  (h : ∀ w', Aside0 (w'.heap[w.heap.size]? = some (.cells v.cells t)) → Aside0 (Below w.heap.size w w') → Aside0 (w'.heap.size = w.heap.size + 1) → wpList Tryz.prog ops Q rest (a.put o.dst (.pointer (some ⟨w.heap.size, 0, none⟩))) w') : wpList Tryz.prog ops Q (o :: rest) a w :=
 wpList_plain hgd fun K hK => by
  unfold Oper.wp execOp
  simp only [ho, Instr.alloc, Sem.run_bind, run_zero hi hz, Result.andThen_ok, newVar, newRow, run_newObj, Sem.run_pure]
  exact hK _ _ (h _ ⟨heap_alloc_new w _⟩ ⟨below_alloc (Below.refl _ _) _⟩ ⟨by simp⟩)
theorem wpList_copy_at {P : Program} {w : World} {ops : Array Oper} {rest : List Oper} {o : Oper} {a : Act} {Q : Exit → Act → World → Prop} (hgd : o.guard = none) (d s : Operand) (dT sT : TypeId)
  (ho : o.op = .call { callee := .builtin .copy, args := #[d, s], argTypes := #[dT, sT] }) (elem : TypeId) (hu : P.underlying dT = some (.slice elem)) (hsz : (P.info? elem).map (·.size) = some 1)
  (dp sp : Option Addr) (dLen dCap sLen sCap : Nat) (hd : a.eval d = .slice dp dLen dCap) (hs : a.eval s = .slice sp sLen sCap)
  (g off : Nat) (cur : List Value) (t : TypeId) (hg : w.heap[g]? = some (.cells cur.toArray t (0, 0))) (cs : List Value) (hn : cs.length = Nat.min sLen dLen)
  (hpos : 0 < cs.length → dp = some ⟨g, off, none⟩ ∧ ∃ ad, sp = some ad ∧ ∀ j v, cs[j]? = some v → w.cell? (ad.add j) = some v)
  (hfit : off + cs.length ≤ cur.length) (h1 : ∀ v ∈ cs, v.oneCell' = true)
  (h : ∀ w', Aside0 (w'.heap[g]? = some (.cells (splice cur off cs).toArray t (0, 0))) → Aside0 (Only (fun b => b = g) w w') → Aside0 (w'.heap.size = w.heap.size) → wpList P ops Q rest (a.put o.dst (goInt cs.length)) w') :
  wpList P ops Q (o :: rest) a w := by
 by_cases h0 : cs.length = 0
 ·obtain rfl : cs = [] := List.eq_nil_of_length_eq_zero h0
  refine wpList_copy_nothing hgd d s dT sT ho elem hu hsz dp sp dLen dCap sLen sCap hd hs (by simpa using hn.symm) ?_
  exact h w ⟨by simpa [splice] using hg⟩ ⟨Only.refl _ _⟩ ⟨rfl⟩
 ·obtain ⟨rfl, ad, rfl, hsrc⟩ := hpos (by omega)
  refine wpList_copy_own hgd d s dT sT ho elem hu hsz g off dLen dCap ad sLen sCap hd hs cur.toArray t hg cs hn hsrc (by simpa using hfit) h1 ?_
  exact h _ ⟨by simpa [splice] using setRow_heap w g _ _ t _ hg⟩ ⟨⟨fun k hk hn => setRow_other w g k _ hn, ⟨by simp [World.setRow], rfl, rfl, rfl⟩⟩⟩ ⟨by simp [World.setRow]⟩
def putP (p : S127) (f : Nat → Int → Int) : Nat → Int → Int := fun b i => if (b : Int) = p.f0 ∧ p.f1 ≤ i ∧ i < p.f1 + p.f2.length then p.f2.getD (i - p.f1).toNat 0 else f b i
def bankF (ps : List S127) : Nat → Int → Int := ps.foldl (fun f p => putP p f) fun _ _ => 0
theorem bankF_snoc (ps : List S127) {i : Nat} (hi : i < ps.length) : bankF (ps.take (i + 1)) = putP (rd_T127 ps i) (bankF (ps.take i)) := by
 have : rd_T127 ps i = ps[i] := by simp [rd_T127, List.getD_eq_getElem?_getD, hi]
 rw [this]
 unfold bankF
 rw [show ps.take (i + 1) = ps.take i ++ [ps[i]] from by rw [List.take_append_getElem hi], List.foldl_append]
 rfl
def byOK (ps : List S127) : Prop := ∀ p ∈ ps, ∀ x ∈ p.f2, (0 : Int) ≤ x ∧ x ≤ 255
theorem putP_rg {p : S127} (hp : ∀ x ∈ p.f2, (0 : Int) ≤ x ∧ x ≤ 255) {f : Nat → Int → Int} (hf : ∀ b i, 0 ≤ f b i ∧ f b i ≤ 255) (b : Nat) (i : Int) : 0 ≤ putP p f b i ∧ putP p f b i ≤ 255 := by
 unfold putP
 split
 ·rename_i h
  by_cases hj : (i - p.f1).toNat < p.f2.length
  ·rw [List.getD_eq_getElem?_getD, List.getElem?_eq_getElem hj]
   exact hp _ (List.getElem_mem hj)
  ·rw [List.getD_eq_getElem?_getD, List.getElem?_eq_none (by omega)]; simp
 ·exact hf b i
theorem bankF_rg {ps : List S127} (h : byOK ps) : ∀ b i, 0 ≤ bankF ps b i ∧ bankF ps b i ≤ 255 := by
 unfold bankF
 suffices ∀ (l : List S127) (f : Nat → Int → Int), (∀ p ∈ l, p ∈ ps) → (∀ b i, 0 ≤ f b i ∧ f b i ≤ 255) → ∀ b i, 0 ≤ l.foldl (fun f p => putP p f) f b i ∧ l.foldl (fun f p => putP p f) f b i ≤ 255 from this ps _ (fun _ h => h) (fun _ _ => ⟨Int.le_refl _, by omega⟩)
 intro l
 induction l with
 | nil => intro f _ hf; exact hf
 | cons p l ih => intro f hl hf; exact ih _ (fun q hq => hl q (List.mem_cons_of_mem _ hq)) fun b i => putP_rg (h p (hl p List.mem_cons_self)) hf b i
def bankC (f : Int → Int) : List Value := (List.range 16384).map fun (i : Nat) => .int .u8 (f i)
theorem bankC_len (f : Int → Int) : (bankC f).length = 16384 := by simp [bankC]
theorem bankC_get (f : Int → Int) {j : Nat} (hj : j < 16384) : (bankC f)[j]? = some (.int .u8 (f j)) := by simp [bankC, hj]
theorem bankC_put {p : S127} {f : Nat → Int → Int} {b : Nat} (hb : (b : Int) = p.f0) {at0 : Nat} (ha : (at0 : Int) = p.f1) (hfit : at0 + p.f2.length ≤ 16384) : splice (bankC (f b)) at0 (p.f2.map (Value.int .u8)) = bankC (putP p f b) := by
 apply List.ext_getElem?
 intro j
 have hl : (splice (bankC (f b)) at0 (p.f2.map (Value.int .u8))).length = 16384 := by
  rw [length_splice _ _ _ (by rw [bankC_len]; simpa using hfit), bankC_len]
 by_cases hj : j < 16384
 ·rw [bankC_get _ hj]
  unfold splice putP
  by_cases h1 : j < at0
  ·rw [List.getElem?_append_left (by simp [bankC_len]; omega), List.getElem?_take, if_pos h1, bankC_get _ hj, if_neg (by omega)]
  ·have e1 : ((bankC (f b)).take at0).length = at0 := by simp [bankC_len]; omega
   rw [List.getElem?_append_right (by rw [e1]; omega), e1]
   by_cases h2 : j - at0 < p.f2.length
   ·rw [List.getElem?_append_left (by simpa using h2), if_pos (by omega), List.getElem?_map, show ((j : Int) - p.f1).toNat = j - at0 by omega, List.getD_eq_getElem?_getD, List.getElem?_eq_getElem h2]
    rfl
   ·rw [List.getElem?_append_right (by simpa using h2), if_neg (by omega), List.getElem?_drop, List.length_map, show at0 + p.f2.length + (j - at0 - p.f2.length) = j by omega, bankC_get _ hj]
 ·rw [List.getElem?_eq_none (by omega), List.getElem?_eq_none (by rw [bankC_len]; omega)]
theorem bank_zero {v : Value} {z : Rope AVal} (hs : v.cells.size = 16384) (h : ∀ j, j < 16384 → v.cells[j]? = some (.int .u8 0)) : v.cells = (bankC fun _ => 0).toArray := by
 apply Array.ext'
 apply List.ext_getElem?
 intro j
 by_cases hj : j < 16384
 ·rw [List.toList_toArray, bankC_get _ hj, Array.getElem?_toList]; exact h j hj
 ·rw [List.getElem?_eq_none (by simpa [hs] using hj), List.getElem?_eq_none (by rw [List.toList_toArray, bankC_len]; omega)]
def memC (g i : Nat) : List Value := (List.range 16).map (fun k => if k < i then .pointer (some ⟨g + 1 + k, 0, none⟩) else .pointer none) ++ [.int .u8 0, .int .u8 0]
theorem memC_set (g : Nat) {i : Nat} (hi : i < 16) : (memC g i).set i (.pointer (some ⟨g + 1 + i, 0, none⟩)) = memC g (i + 1) := by
 unfold memC
 rw [List.set_append_left _ _ (by simpa using hi)]
 congr 1
 apply List.ext_getElem?
 intro j
 by_cases hj : j < 16
 ·by_cases e : i = j
  ·subst e; simp [hj]
  ·rw [List.getElem?_set_ne e]
   simp only [List.getElem?_map, List.getElem?_range hj, Option.map_some]
   by_cases h1 : j < i
   ·rw [if_pos h1, if_pos (by omega)]
   ·rw [if_neg h1, if_neg (by omega)]
 ·rw [List.getElem?_eq_none (by simp; omega), List.getElem?_eq_none (by simp; omega)]
theorem memC_get (g : Nat) {i : Nat} (hi : i < 16) : (memC g i)[i]? = some (.pointer none) := by
 unfold memC
 rw [List.getElem?_append_left (by simpa using hi)]
 simp [hi]
theorem memC_at (g : Nat) {i k : Nat} (hi : i ≤ 16) (hk : k < i) : (memC g i)[k]? = some (.pointer (some ⟨g + 1 + k, 0, none⟩)) := by
 unfold memC
 rw [List.getElem?_append_left (by simp; omega)]
 simp [hk, show k < 16 by omega]
end Go.Sim
end
section
set_option maxRecDepth 1000000
namespace Go.Sim
attribute [local instance] noRO
open Go.Proofs.Tryz
def memV : Vars := ⟨[], List.replicate 12 (0, 255), 0⟩
def seen0 : List SVal := [.ptr none, .ptr none, .ptr none, .ptr none]
def seen1 : List SVal := [.ptr (some (9, 0)), .ptr (some (6, 0)), .ptr (some (3, 0)), .ptr (some (1, 0))]
def memS (seen : List SVal) : SRope SVal := .lst ([.ptr (some (1, 0)), .ptr (some (2, 0)), .ptr (some (3, 0)), .ptr (some (4, 0)), .ptr (some (5, 0)), .ptr (some (6, 0)), .ptr (some (7, 0)), .ptr (some (8, 0)), .ptr (some (9, 0)), .ptr (some (10, 0)), .ptr (some (11, 0)), .ptr (some (12, 0))] ++ seen ++ [b8 0, b8 0])
def banksS : List (SRope SVal) := [bankP 0, bankP 1, bankP 2, bankP 3, bankP 4, bankP 5, bankP 6, bankP 7, bankP 8, bankP 9, bankP 10, bankP 11]
def mbH (seen : List SVal) : SHeap := ⟨13, layS 0 (memS seen :: banksS) .leaf⟩
def lookChk (_ : Facts) : SRes → Bool
 | .ret (.tup []) H => lieS H 0 (memS seen1 :: banksS)
 | _ => false
theorem look_tree : stree (fun F => scall0 memV F 161 [.ptr (some (0, 0))] (mbH seen0)) lookChk memV 10 [] = true := by kernel_rfl
theorem mbH_get (σ : Sig) (s : List SVal) (i : Nat) : (instH σ (mbH s)).get i = ((memS s :: banksS)[i]?).map (fun r => .cells (instR σ r) 0 true) := by
 show ((mbH s).tree.mapv (instB σ)).get i = _
 rw [Trie.get_map]
 show ((layS 0 _ .leaf).get i).map _ = _
 rw [layS_get, Trie.get_leaf]
 split
 ·simp only [Nat.sub_zero, Option.map_map]; rfl
 ·rename_i h
  have : ¬ i < (memS s :: banksS).length := by omega
  rw [List.getElem?_eq_none (by omega)]; rfl
theorem mbH_sc {σ : Sig} (hV : memV.fit σ) (i : Nat) (b : ABlk) (hb : (instH σ (mbH seen1)).get i = some b) : i < 13 ∧ ScB 13 b := by
 rw [mbH_get] at hb
 obtain ⟨x, hx, rfl⟩ := Option.map_eq_some_iff.1 hb
 refine ⟨(List.getElem?_eq_some_iff.1 hx).1, ?_⟩
 have : (memS seen1 :: banksS).all (scSR 13 0) = true := by rfl
 exact scSR_sound hV x (List.all_eq_true.1 this x (List.mem_of_getElem? hx))
theorem look_calls {σ : Sig} (hV : memV.fit σ) (ρ : Ren) (w : World) (l : Loc) (hl : ρ 0 = some l) (hw : Rep ρ (instH σ (mbH seen0)) w) :
  Calls prog 161 #[.pointer (some ⟨l.blk, l.off, none⟩)] w fun x w' => ∃ u, x = .returned u ∧ Only (foot ρ (instH σ (mbH seen0))) w w' ∧ ∃ ρ', ρ.le ρ' ∧ Rep ρ' (instH σ (mbH seen1)) w' := by
 obtain ⟨F', r, hF', hr, hc⟩ := stree_sound hV look_tree (fun _ h => by cases h)
 have hrun := scall0_ok hV hF' _ _ _ _ hr
 unfold lookChk at hc
 split at hc
 ·rename_i H
  refine (rep_call acall0_ok (by rfl) hrun (LR.one (.ptr hl)) hw).mono fun x w' hp => ?_
  obtain ⟨ρ', v', hx, hv, hr', hle, hon, hfr⟩ := hp
  refine ⟨v', hx, hon, cutρ ρ' 13, cutρ_ge hle hw.dom, WR.sub (H2 := instH σ (mbH seen1)) hr' fun i b hi => ⟨?_, mbH_sc hV i b hi⟩⟩
  rw [mbH_get] at hi
  obtain ⟨x, hx, rfl⟩ := Option.map_eq_some_iff.1 hi
  have := lieS_sound hc i x hx
  rw [Nat.zero_add] at this
  exact hget_inst this
 ·cases hc
def bankSig (f : Nat → Int → Int) : Sig := ⟨fun _ => 0, fun j i => if j < 12 then f j i else 0, fun _ => (none, 0, 0), fun _ => default, fun _ => (none, 0, 0)⟩
theorem bankSig_fit {f : Nat → Int → Int} (h : ∀ b i, 0 ≤ f b i ∧ f b i ≤ 255) : memV.fit (bankSig f) := by
 refine ⟨fun j => ⟨Int.le_refl _, Int.le_refl _⟩, fun j i => ?_, fun j i p e => by cases e⟩
 show (rgAt (List.replicate 12 (0, 255)) j).has (if j < 12 then f j i else 0)
 by_cases hj : j < 12
 ·rw [if_pos hj]
  have : j = 0 ∨ j = 1 ∨ j = 2 ∨ j = 3 ∨ j = 4 ∨ j = 5 ∨ j = 6 ∨ j = 7 ∨ j = 8 ∨ j = 9 ∨ j = 10 ∨ j = 11 := by omega
  rcases this with rfl | rfl | rfl | rfl | rfl | rfl | rfl | rfl | rfl | rfl | rfl | rfl <;> exact h _ _
 ·rw [if_neg hj]
  obtain ⟨k, rfl⟩ : ∃ k, j = k + 12 := ⟨j - 12, by omega⟩
  exact ⟨Int.le_refl _, Int.le_refl _⟩
def memRen (g : Nat) : Ren := fun i => if i < 13 then some ⟨g + i, 0, 0⟩ else none
theorem bank_RR (ρ : Ren) {f : Nat → Int → Int} {k : Nat} (hk : k < 12) : RR ρ (instR (bankSig f) (bankP k)) (bankC (f k)).toArray 0 := by
 intro j hj
 rw [SRope.size_inst] at hj
 have hj : j < 16384 := hj
 refine ⟨.int .u8 (f k j), .int .u8 (f k j), ?_, rfl, ?_, .int _ _⟩
 ·have := SRope.get_inst (bankSig f) (bankP k) j (.sym .u8 (.sel (.v k) (.lit j))) (by simp only [bankP, SRope.get, show Nat.blt j 16384 = true from by rw [Nat.blt_eq]; exact hj, cond_true])
  rw [this]
  simp [SVal.inst, Sx.ev, Ax.ev, bankSig, hk]
 ·rw [Nat.zero_add, List.getElem?_toArray, bankC_get _ hj]
theorem mem_RR (f : Nat → Int → Int) (g : Nat) : RR (memRen g) (instR (bankSig f) (memS seen0)) (memC g 12).toArray 0 := by
 intro j hj
 rw [SRope.size_inst] at hj
 have hj : j < 18 := hj
 rw [Nat.zero_add, List.getElem?_toArray]
 have hp : ∀ i, i < 12 → VR (memRen g) (.ptr (some (i + 1, 0))) (.pointer (some ⟨g + 1 + i, 0, none⟩)) := by
  intro i hi
  have h1 : memRen g (i + 1) = some ⟨g + (i + 1), 0, 0⟩ := if_pos (by omega)
  have := VR.ptr (o := 0) h1
  rwa [show g + (i + 1) = g + 1 + i by omega] at this
 match j with
 | 0 => exact ⟨_, _, rfl, rfl, rfl, hp 0 (by omega)⟩
 | 1 => exact ⟨_, _, rfl, rfl, rfl, hp 1 (by omega)⟩
 | 2 => exact ⟨_, _, rfl, rfl, rfl, hp 2 (by omega)⟩
 | 3 => exact ⟨_, _, rfl, rfl, rfl, hp 3 (by omega)⟩
 | 4 => exact ⟨_, _, rfl, rfl, rfl, hp 4 (by omega)⟩
 | 5 => exact ⟨_, _, rfl, rfl, rfl, hp 5 (by omega)⟩
 | 6 => exact ⟨_, _, rfl, rfl, rfl, hp 6 (by omega)⟩
 | 7 => exact ⟨_, _, rfl, rfl, rfl, hp 7 (by omega)⟩
 | 8 => exact ⟨_, _, rfl, rfl, rfl, hp 8 (by omega)⟩
 | 9 => exact ⟨_, _, rfl, rfl, rfl, hp 9 (by omega)⟩
 | 10 => exact ⟨_, _, rfl, rfl, rfl, hp 10 (by omega)⟩
 | 11 => exact ⟨_, _, rfl, rfl, rfl, hp 11 (by omega)⟩
 | 12 => exact ⟨_, _, rfl, rfl, rfl, .ptrNil⟩
 | 13 => exact ⟨_, _, rfl, rfl, rfl, .ptrNil⟩
 | 14 => exact ⟨_, _, rfl, rfl, rfl, .ptrNil⟩
 | 15 => exact ⟨_, _, rfl, rfl, rfl, .ptrNil⟩
 | 16 => exact ⟨_, _, rfl, rfl, rfl, .int _ _⟩
 | 17 => exact ⟨_, _, rfl, rfl, rfl, .int _ _⟩
 | n + 18 => omega
theorem bank_at {k : Nat} (hk : k < 12) : banksS[k]? = some (bankP k) := by
 have : k = 0 ∨ k = 1 ∨ k = 2 ∨ k = 3 ∨ k = 4 ∨ k = 5 ∨ k = 6 ∨ k = 7 ∨ k = 8 ∨ k = 9 ∨ k = 10 ∨ k = 11 := by omega
 rcases this with rfl | rfl | rfl | rfl | rfl | rfl | rfl | rfl | rfl | rfl | rfl | rfl <;> rfl
theorem mem_rep {w : World} {g : Nat} {f : Nat → Int → Int} (hm : w.heap[g]? = some (.cells (memC g 12).toArray 243 (0, 0))) (hb : ∀ k, k < 12 → w.heap[g + 1 + k]? = some (.cells (bankC (f k)).toArray 244 (0, 0))) : Rep (memRen g) (instH (bankSig f) (mbH seen0)) w := by
 refine ⟨fun i b hi => ?_, fun i j bi bj li lj hi hj hwi hwj hli hlj e => ?_, fun b (h : False) => h.elim, fun i l h => ?_, fun b (h : False) => h.elim, fun b (h : False) => h.elim⟩
 ·rw [mbH_get] at hi
  obtain ⟨x, hx, rfl⟩ := Option.map_eq_some_iff.1 hi
  have hlt : i < 13 := (List.getElem?_eq_some_iff.1 hx).1
  cases i with
  | zero =>
   simp only [List.getElem?_cons_zero, Option.some.injEq] at hx
   subst hx
   exact ⟨⟨g + 0, 0, 0⟩, _, if_pos (by omega), hm, .cells (fun _ => rfl) (by rw [SRope.size_inst]; simp [memC, memS, seen0, SRope.size]) (fun _ => rfl) (mem_RR f g), fun _ h => h, fun h => by cases h⟩
  | succ k =>
   have hk : k < 12 := by omega
   rw [List.getElem?_cons_succ, bank_at hk] at hx
   simp only [Option.some.injEq] at hx
   subst hx
   refine ⟨⟨g + (k + 1), 0, 0⟩, .cells (bankC (f k)).toArray 244 (0, 0), if_pos (by omega), ?_, .cells (fun _ => rfl) (by rw [SRope.size_inst]; simp [bankC_len, bankP, SRope.size]) (fun _ => rfl) (bank_RR _ hk), fun _ h => h, fun h => by cases h⟩
   rw [show g + (k + 1) = g + 1 + k by omega]
   exact hb k hk
 ·unfold memRen at hli hlj
  split at hli
  ·split at hlj
   ·simp only [Option.some.injEq] at hli hlj
    subst hli hlj
    have e : g + i = g + j := e
    omega
   ·cases hlj
  ·cases hli
 ·unfold memRen at h
  split at h
  ·assumption
  ·cases h
end Go.Sim
end
