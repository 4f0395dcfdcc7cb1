/- A part of the proof that LockParts returns true for every input. No condition. -/
import Derived.Test.YtdppeaciahdekaaGreatG24
import Derived.StillTailTactics
import Derived.Test.YtdppeaciahdekaaGreatG21
import Derived.Test.YtdppeaciahdekaaGreatG20
set_option linter.all false
section
namespace Go.Sim
attribute [local instance] noRO
open Go.Proofs Go.RowKit Go.Proofs.YtdppeaciahdekaaGreatW.PrintWords Go.Proofs.YtdppeaciahdekaaGreatW.PrintLast Go.Proofs.YtdppeaciahdekaaGreatW.PrintMore
open Go.Proofs.YtdppeaciahdekaaGreat.PLockParts
theorem pchk_zero : ∀ {ps : List S127}, pchk ps = 0 → ∀ p ∈ ps, ckP p = 0
 | [], _, p, hp => by cases hp
 | q :: l, h, p, hp => by
  unfold pchk at h
  split at h
  ·rename_i hq
   rcases List.mem_cons.1 hp with rfl | hp
   ·exact hq
   ·exact pchk_zero h p hp
  ·rename_i hq; exact absurd h hq
theorem rd_mem {ps : List S127} {i : Nat} (hi : i < ps.length) : rd_T127 ps i ∈ ps := by
 have : rd_T127 ps i = ps[i] := by simp [rd_T127, List.getD_eq_getElem?_getD, hi]
 rw [this]; exact List.getElem_mem hi
theorem ckP_zero {p : S127} (h : ckP p = 0) : 0 ≤ p.f0 ∧ p.f0 < 12 ∧ 0 ≤ p.f1 ∧ p.f1 + p.f2.length ≤ 16384 := by
 unfold ckP bank_CheckPatch.f at h
 by_cases h1 : p.f0 < 0
 ·rw [if_pos h1] at h; cases h
 rw [if_neg h1] at h
 by_cases h2 : p.f0 ≥ 12
 ·rw [if_pos h2] at h; cases h
 rw [if_neg h2] at h
 by_cases h3 : p.f1 < 0
 ·rw [if_pos h3] at h; cases h
 rw [if_neg h3] at h
 by_cases h4 : p.f1 > 16384
 ·rw [if_pos h4] at h; cases h
 rw [if_neg h4] at h
 by_cases h5 : (p.f2.length : Int) > wrap64 (16384 - p.f1)
 ·rw [if_pos h5] at h; cases h
 have : wrap64 (16384 - p.f1) = 16384 - p.f1 := by unfold wrap64; omega
 rw [this] at h5
 omega
theorem info5' : (Tryz.prog.info? 5).map (·.size) = some 1 := by kernel_rfl
theorem zero244 : ∃ i v, Tryz.prog.info? 244 = some i ∧ i.zero = some v ∧ v.cells = (bankC fun _ => 0).toArray := by
 have hz : LP.E.zro 244 = some (.rep 16384 (.int .u8 0)) := by kernel_rfl
 obtain ⟨i, v, h1, h2, h3, h4, h5⟩ := zero_of hz
 refine ⟨i, v, h1, h2, bank_zero (z := .rep 16384 (.int .u8 0)) h4 fun j hj => h5 j (.int .u8 0) _ (by simp [Rope.get, hj]) rfl (by simpa [Rope.size] using hj)⟩
set_option maxHeartbeats 8000000 in
set_option maxRecDepth 100000 in
theorem bank_new_calls (A : Option Addr) (c : Nat) (ps : List S127) (w : World) (hr : Kd.C k127 w A ps.length ps) (hc : ps.length ≤ c) (hl : ps.length ≤ 1000000) (hok : pchk ps = 0) (hby : byOK ps) :
  Calls Tryz.prog 102 #[.slice A ps.length c] w fun e w' => ∃ (g : Nat) (ρ' : Ren), e = .returned (.tuple #[.pointer (some ⟨g, 0, none⟩), .int .i64 0]) ∧ w.heap.size ≤ g ∧ Below w.heap.size w w' ∧ ρ' 0 = some ⟨g, 0, 0⟩ ∧ Rep ρ' (instH (bankSig (bankF ps)) (mbH seen1)) w' ∧ ∀ b, foot ρ' (instH (bankSig (bankF ps)) (mbH seen1)) b → w.heap.size ≤ b := by
 have hu127 := Tryz.underlying127
 have HR := Aside0.mk hr
 have HC := Aside0.mk hc
 have HL := Aside0.mk hl
 clear hr hc hl
 have HPZ := Aside0.mk (pchk_zero hok)
 clear hok
 obtain ⟨zi, zv, hzi, hzv, hzc⟩ := zero244
 have HZI := Aside0.mk hzi
 have HZV := Aside0.mk hzv
 have HZC := Aside0.mk hzc
 clear hzi hzv hzc
 go_enter Tryz.func102, Tryz.ntmps102
 go_wp2
 have HB := Aside0.mk (Below.refl w.heap.size w)
 go_loopg [13] ps.length (fun kq v13 w' => ∃ i : Nat, v13 = .int .i64 i ∧ i ≤ ps.length ∧ Aside0 (ps.length - i ≤ kq) ∧ Aside0 (Below w.heap.size w w'))
 case atStart => exact ⟨0, rfl, Nat.zero_le _, ⟨Nat.le_refl _⟩, HB⟩
 case round =>
  obtain ⟨i, rfl, hi, HK, HBL⟩ := hrel
  by_cases hc : i < ps.length
  ·have hc0 : decide ((i : Int) < (ps.length : Int)) = true := decide_eq_true (by omega)
   have hc1 : decide (i < ps.length) = true := decide_eq_true hc
   have p1 : (0 : Int) ≤ (i : Int) := by omega
   have q1 : (i : Int) < (ps.length : Int) := by omega
   obtain ⟨ad, A2, c2, e1, h0, h1, h2, l2, g2⟩ := at_T127 HR.out i p1 q1
   cases e1
   have hin : ((i : Int)).toNat = i := rfl
   rw [hin] at h0 h1 h2
   replace h0 := (HBL.out.cell (World.block_lt_of_cell? w _ h0)).trans h0
   replace h1 := (HBL.out.cell (World.block_lt_of_cell? w _ h1)).trans h1
   replace h2 := (HBL.out.cell (World.block_lt_of_cell? w _ h2)).trans h2
   have G2 := Aside0.mk (Kd.C_below g2 HBL.out)
   clear g2
   replace p1 := eq_true p1
   replace q1 := eq_true q1
   have hck := Aside0.mk (ckP_f (rd_T127 ps i))
   have hz := HPZ.out _ (rd_mem hc)
   cases gk with
   | zero => exact absurd HK.out (by omega)
   | succ k1 =>
    have hz0 : (ckP (rd_T127 ps i) != 0) = false := bne_eq_false_iff_eq.mpr hz
    go_wp2_with (first | (go_at_call 160; refine (bank_CheckPatch.calls (rd_T127 ps i).f0 (rd_T127 ps i).f1 A2 c2 (rd_T127 ps i).f2 (ckP (rd_T127 ps i)) _ (Kd.C_below G2.out (below_alloc (Below.refl _ _) _)) l2 hck.out).mono ?_; rintro e w5 ⟨rfl, hb5⟩; have HB5 := Aside0.mk hb5; clear hb5))
    go_roundg k1
    case measure => omega
    case rel => exact ⟨i + 1, by simp [wrap64_add1 (by omega : (0 : Int) ≤ i) (by have := HL.out; omega)], by omega, ⟨by have := HK.out; omega⟩, ⟨below_then (below_alloc HBL.out _) (Nat.le_trans HBL.out.size (by simp)) HB5.out⟩⟩
  ·have hc0 : decide ((i : Int) < (ps.length : Int)) = false := decide_eq_false (by omega)
   have hc1 : decide (i < ps.length) = false := decide_eq_false hc
   go_wp2
   have HG := Aside0.mk HBL.out.size
   have HB3 := Aside0.mk (below_alloc (o := Obj.cells (memC wr.heap.size 0).toArray 243 (0, 0)) HBL.out)
   have HM3 := Aside0.mk (heap_alloc_new wr (Obj.cells (memC wr.heap.size 0).toArray 243 (0, 0)))
   have HS3 := Aside0.mk (show (wr.alloc (Obj.cells (memC wr.heap.size 0).toArray 243 (0, 0))).heap.size = wr.heap.size + 1 + 0 from by simp)
   change Code.wp _ _ _ _ (wr.alloc (Obj.cells (memC wr.heap.size 0).toArray 243 (0, 0)))
   generalize wr.alloc (Obj.cells (memC wr.heap.size 0).toArray 243 (0, 0)) = w3 at HB3 HM3 HS3 ⊢
   generalize hgE : wr.heap.size = g at HG HB3 HM3 HS3 ⊢
   have HGE := Aside0.mk hgE
   clear hgE
   go_loopg [25] 12 (fun kq v25 w' => ∃ i2 : Nat, v25 = .int .i64 i2 ∧ i2 ≤ 12 ∧ Aside0 (12 - i2 ≤ kq) ∧ Aside0 (w'.heap.size = g + 1 + i2) ∧ Aside0 (w'.heap[g]? = some (.cells (memC g i2).toArray 243 (0, 0))) ∧ Aside0 (∀ k, k < i2 → w'.heap[g + 1 + k]? = some (.cells (bankC fun _ => 0).toArray 244 (0, 0))) ∧ Aside0 (Below w.heap.size w w'))
   case atStart => exact ⟨0, rfl, Nat.zero_le _, ⟨Nat.le_refl _⟩, HS3, HM3, ⟨fun k hk => absurd hk (Nat.not_lt_zero _)⟩, HB3⟩
   case round =>
    obtain ⟨i2, rfl, hi2, HK2, HS, HM, HZ, HB2⟩ := hrel
    by_cases hc2 : i2 < 12
    ·have hc20 : decide ((i2 : Int) < 12) = true := decide_eq_true (by omega)
     have p2 : (0 : Int) ≤ (i2 : Int) := by omega
     have q2 : (i2 : Int) < 12 := by omega
     replace p2 := eq_true p2
     replace q2 := eq_true q2
     have hgl : g < wr.heap.size := by have := HS.out; omega
     cases gk with
     | zero => exact absurd HK2.out (by omega)
     | succ k2 =>
      go_wp2_with (first | ((with_reducible refine gate_dst (N := 30) rfl ?_); refine wpList_alloc_zero rfl 244 rfl HZI.out HZV.out ?_; rw [HZC.out]; intro w6 hn6 hb6 hs6; have hm6 := Aside0.mk ((hb6.out.block g hgl).trans HM.out); have hcs : w6.cell? ⟨g, i2, none⟩ = some (.pointer none) := (blk_cell hm6.out i2).trans (by rw [List.getElem?_toArray]; exact memC_get g (by omega)); have hfz : w6.frozen? ⟨g, i2, none⟩ = false := blk_frozen hm6.out i2))
      go_roundg k2
      case measure => omega
      case rel =>
       refine ⟨i2 + 1, by simp, by omega, ⟨by have := HK2.out; omega⟩, ⟨by have h1 := HS.out; have h2 := hs6.out; simp [World.setCell]; omega⟩, ⟨?_⟩, ⟨fun k hk => ?_⟩, ⟨below_set (below_then HB2.out HB2.out.size hb6.out) (by have := HG.out; omega)⟩⟩
       ·rw [blk_set hm6.out, List.setIfInBounds_toArray, ← memC_set g (by omega : i2 < 16), HS.out, show g + 1 + i2 = g + 1 + i2 from rfl]
       ·have hne : g + 1 + k ≠ g := by omega
        rw [Below.heap_setCell _ _ _ _ hne]
        by_cases e : k = i2
        ·subst e
         have := hn6.out
         rwa [HS.out] at this
        ·rw [hb6.out.block _ (by have := HS.out; omega)]
         exact HZ.out k (by omega)
    ·have hc20 : decide ((i2 : Int) < 12) = false := decide_eq_false (by omega)
     have e12 : i2 = 12 := by omega
     subst e12
     go_wp2
     have HS13 := Aside0.mk (show g + 13 ≤ wr.heap.size by have := HS.out; omega)
     have HZ0 : Aside0 (∀ k, k < 12 → wr.heap[g + 1 + k]? = some (.cells (bankC (bankF (ps.take 0) k)).toArray 244 (0, 0))) := HZ
     clear HZ HS
     go_loopg [37] ps.length (fun kq v37 w' => ∃ i3 : Nat, v37 = .int .i64 i3 ∧ i3 ≤ ps.length ∧ Aside0 (ps.length - i3 ≤ kq) ∧ Aside0 (g + 13 ≤ w'.heap.size) ∧ Aside0 (w'.heap[g]? = some (.cells (memC g 12).toArray 243 (0, 0))) ∧ Aside0 (∀ k, k < 12 → w'.heap[g + 1 + k]? = some (.cells (bankC (bankF (ps.take i3) k)).toArray 244 (0, 0))) ∧ Aside0 (Below w.heap.size w w'))
     case atStart => exact ⟨0, rfl, Nat.zero_le _, ⟨Nat.le_refl _⟩, HS13, HM, HZ0, HB2⟩
     case round =>
      clear HS13 HM HZ0 HB2
      obtain ⟨i3, rfl, hi3, HK3, HS, HM, HZ, HB2⟩ := hrel
      by_cases hc3 : i3 < ps.length
      ·have hc30 : decide ((i3 : Int) < (ps.length : Int)) = true := decide_eq_true (by omega)
       have hc31 : decide (i3 < ps.length) = true := decide_eq_true hc3
       have p1 : (0 : Int) ≤ (i3 : Int) := by omega
       have q1 : (i3 : Int) < (ps.length : Int) := by omega
       obtain ⟨ad, A2, c2, e1, h0, h1, h2, l2, g2⟩ := at_T127 HR.out i3 p1 q1
       cases e1
       have hin : ((i3 : Int)).toNat = i3 := rfl
       rw [hin] at h0 h1 h2
       replace h0 := (HB2.out.cell (World.block_lt_of_cell? w _ h0)).trans h0
       replace h1 := (HB2.out.cell (World.block_lt_of_cell? w _ h1)).trans h1
       replace h2 := (HB2.out.cell (World.block_lt_of_cell? w _ h2)).trans h2
       have G2 := Aside0.mk (Kd.C_below g2 HB2.out)
       clear g2
       replace p1 := eq_true p1
       replace q1 := eq_true q1
       obtain ⟨z0, z1, z2, z3⟩ := ckP_zero (HPZ.out _ (rd_mem hc3))
       cases gk with
       | zero => exact absurd HK3.out (by omega)
       | succ k3 =>
        go_wp2
        generalize hp : rd_T127 ps ↑i3 = p at G2 l2 z0 z1 z2 z3 ⊢
        have HP := Aside0.mk hp
        clear hp h0 h1 h2
        have hn6 := heap_alloc_new wr (Obj.cells #[.int .i64 p.f0, .int .i64 p.f1, .slice A2 p.f2.length c2] 127)
        have hb6 : Below wr.heap.size wr (wr.alloc (Obj.cells #[.int .i64 p.f0, .int .i64 p.f1, .slice A2 p.f2.length c2] 127)) := below_alloc (Below.refl _ _) _
        have hs6 : (wr.alloc (Obj.cells #[.int .i64 p.f0, .int .i64 p.f1, .slice A2 p.f2.length c2] 127)).heap.size = wr.heap.size + 1 := by simp
        generalize wr.alloc (Obj.cells #[.int .i64 p.f0, .int .i64 p.f1, .slice A2 p.f2.length c2] 127) = w6 at hn6 hb6 hs6 ⊢
        have HB6 := Aside0.mk hb6
        have HS6 := Aside0.mk hs6
        clear hb6 hs6
        have b0 : w6.cell? ⟨wr.heap.size, 0, none⟩ = some (.int .i64 p.f0) := (blk_cell hn6 0).trans rfl
        have b1 : w6.cell? ⟨wr.heap.size, 1, none⟩ = some (.int .i64 p.f1) := (blk_cell hn6 1).trans rfl
        have b2 : w6.cell? ⟨wr.heap.size, 2, none⟩ = some (.slice A2 p.f2.length c2) := (blk_cell hn6 2).trans rfl
        clear hn6
        have hgl : g < wr.heap.size := by have := HS.out; omega
        have hm6 := Aside0.mk ((HB6.out.block g hgl).trans HM.out)
        obtain ⟨m, hm⟩ : ∃ m : Nat, (m : Int) = p.f0 := ⟨p.f0.toNat, by omega⟩
        obtain ⟨at0, hat⟩ : ∃ m : Nat, (m : Int) = p.f1 := ⟨p.f1.toNat, by omega⟩
        have hml : m < 12 := by omega
        have HML := Aside0.mk hml
        have bm : w6.cell? ⟨g, p.f0.toNat, none⟩ = some (.pointer (some ⟨g + 1 + m, 0, none⟩)) := (blk_cell hm6.out _).trans (by rw [List.getElem?_toArray, show p.f0.toNat = m by omega]; exact memC_at g (by omega) hml)
        have hz6 := Aside0.mk ((HB6.out.block (g + 1 + m) (by have := HS.out; omega)).trans (HZ.out m hml))
        clear hml
        have HM0 := Aside0.mk hm
        have HAT := Aside0.mk hat
        clear hm hat
        have z3' : p.f1 ≤ 16384 := by omega
        have p3 := eq_true z0
        have q3 := eq_true z1
        have p4 := eq_true z2
        have q4 := eq_true z3'
        go_still_tail 13, (by kernel_rfl)
        change wpList _ _ _ _ _ w6.drew
        have hmn : p.f2.length = Nat.min p.f2.length (16384 - p.f1.toNat) := (Nat.min_eq_left (by omega)).symm
        have HMN := Aside0.mk (show (p.f2.map (Value.int .u8)).length = Nat.min p.f2.length (16384 - p.f1.toNat) by rw [List.length_map]; exact hmn)
        have HPOS : Aside0 (0 < (p.f2.map (Value.int .u8)).length → some (if 16384 = p.f1.toNat then (⟨g + 1 + m, 0, none⟩ : Addr) else ⟨g + 1 + m, p.f1.toNat, none⟩) = some ⟨g + 1 + m, p.f1.toNat, none⟩ ∧ ∃ ad, A2 = some ad ∧ ∀ j v, (p.f2.map (Value.int .u8))[j]? = some v → w6.drew.cell? (ad.add j) = some v) := by
         refine ⟨fun hpos => ?_⟩
         rw [List.length_map] at hpos
         refine ⟨by rw [if_neg (by omega)], ?_⟩
         obtain ⟨_, _, hh⟩ := G2.out
         obtain ⟨ad2, rfl, hcell⟩ := hh hpos
         refine ⟨ad2, rfl, fun j v hv => ?_⟩
         rw [List.getElem?_map] at hv
         obtain ⟨x, hx, rfl⟩ := Option.map_eq_some_iff.1 hv
         obtain ⟨cc, _, hK, hcc⟩ := hcell j x hx
         have hK' : cc = [Value.int .u8 x] := hK
         subst hK'
         have h5 := hcc 0 _ rfl
         have hsz1 : (Kd.int .u8).sz = 1 := rfl
         rw [hsz1, Nat.mul_one, Nat.add_zero] at h5
         exact pw_cell_below HB6.out h5
        have HFIT := Aside0.mk (show p.f1.toNat + (p.f2.map (Value.int .u8)).length ≤ (bankC (bankF (ps.take i3) m)).length by rw [bankC_len, List.length_map]; omega)
        have HCUR : Aside0 (w6.drew.heap[g + 1 + m]? = some (.cells (bankC (bankF (ps.take i3) m)).toArray 244 (0, 0))) := hz6
        clear hmn b0 b1 b2 bm p3 q3 p4 q4 z3'
        have hbnd : p.f1.toNat + p.f2.length ≤ 16384 := by omega
        have hatn : (p.f1.toNat : Int) = p.f1 := by omega
        have HBND := Aside0.mk hbnd
        have HATN := Aside0.mk hatn
        clear hbnd hatn z0 z1 z2 z3
        refine wpList_copy_at rfl (.tmp 51) (.tmp 53) 124 124 rfl 5 Tryz.underlying124 info5' (some (if 16384 = p.f1.toNat then (⟨g + 1 + m, 0, none⟩ : Addr) else ⟨g + 1 + m, p.f1.toNat, none⟩)) A2 (16384 - p.f1.toNat) (16384 - p.f1.toNat) p.f2.length c2 rfl rfl (g + 1 + m) p.f1.toNat (bankC (bankF (ps.take i3) m)) 244 HCUR.out (p.f2.map (Value.int .u8)) HMN.out HPOS.out HFIT.out (by intro v hv; obtain ⟨x, _, rfl⟩ := List.mem_map.1 hv; rfl) ?_
        intro w7 hn7 ho7 hs7
        generalize (if 16384 = p.f1.toNat then (⟨g + 1 + m, 0, none⟩ : Addr) else ⟨g + 1 + m, p.f1.toNat, none⟩) = dpx
        have HD7 : Aside0 (w6.drew.heap.size = w6.heap.size) := ⟨rfl⟩
        go_wp2
        go_roundg k3
        case measure => omega
        case rel =>
         have h6 := HS6.out
         have h7 := hs7.out
         have hd7 := HD7.out
         have hS := HS.out
         have hG := HG.out
         have hm12 := HML.out
         refine ⟨i3 + 1, by simp [wrap64_add1 (by omega : (0 : Int) ≤ i3) (by have := HL.out; omega)], by omega, ⟨by have := HK3.out; omega⟩, ⟨by omega⟩, ⟨?_⟩, ⟨fun k hk => ?_⟩, ⟨?_⟩⟩
         ·rw [ho7.out.keep g (by omega) (by show g ≠ g + 1 + m; omega)]
          exact hm6.out
         ·rw [bankF_snoc ps hc3, HP.out]
          by_cases e : k = m
          ·subst e
           rw [hn7.out, bankC_put HM0.out HATN.out HBND.out]
          ·rw [ho7.out.keep (g + 1 + k) (by omega) (by show g + 1 + k ≠ g + 1 + m; omega)]
           have : putP p (bankF (ps.take i3)) k = bankF (ps.take i3) k := by
            funext x
            unfold putP
            rw [if_neg (by have := HM0.out; omega)]
           rw [this]
           exact (HB6.out.block (g + 1 + k) (by omega)).trans (HZ.out k hk)
         ·have hb7 : Below w.heap.size w6.drew w7 := ho7.out.below (by omega) (fun b hb => by have hb : b = g + 1 + m := hb; omega)
          exact (below_drew (below_then HB2.out HB2.out.size HB6.out)).trans hb7
      ·have hc30 : decide ((i3 : Int) < (ps.length : Int)) = false := decide_eq_false (by omega)
       have hc31 : decide (i3 < ps.length) = false := decide_eq_false hc3
       have e3 : i3 = ps.length := by omega
       subst e3
       have hfit := bankSig_fit (bankF_rg hby)
       have hrep := mem_rep (f := bankF ps) HM.out (by have := HZ.out; rwa [List.take_length] at this)
       have hl0 : memRen g 0 = some ⟨g, 0, 0⟩ := rfl
       have HREP := Aside0.mk hrep
       clear hrep
       have hfoot : ∀ b, foot (memRen g) (instH (bankSig (bankF ps)) (mbH seen0)) b → g ≤ b := by
        rintro b ⟨i, bi, li, h1, h2, rfl⟩
        unfold memRen at h2
        split at h2
        ·cases h2; exact Nat.le_add_right _ _
        ·cases h2
       go_wp2_with (first | (go_at_call 161; refine (look_calls hfit (memRen g) _ ⟨g, 0, 0⟩ hl0 HREP.out).mono ?_; rintro e w9 ⟨u, rfl, ho9, ρ9, hle9, hr9⟩; have HR9 := Aside0.mk hr9; clear hr9))
       go_ret2
       refine ⟨g, ρ9, rfl, HG.out, HB2.out.trans (ho9.below HB2.out.size fun b hb => Nat.le_trans HG.out (hfoot b hb)), hle9 0 _ hl0, HR9.out, ?_⟩
       rintro b ⟨i, bi, li, h1, h2, rfl⟩
       rw [mbH_get] at h1
       obtain ⟨x, hx, _⟩ := Option.map_eq_some_iff.1 h1
       have hlt : i < 13 := (List.getElem?_eq_some_iff.1 hx).1
       have h3 : memRen g i = some ⟨g + i, 0, 0⟩ := if_pos hlt
       have := hle9 i _ h3
       rw [h2] at this; cases this
       exact Nat.le_trans HG.out (Nat.le_add_right _ _)
end Go.Sim
end
section
set_option maxRecDepth 1000000
namespace Go.Sim
attribute [local instance] noRO
open Go.Proofs Go.RowKit Go.Proofs.Tryz Go.Proofs.YtdppeaciahdekaaGreatW.PrintWords Go.Proofs.YtdppeaciahdekaaGreat.PLockParts
def junkT (n : Nat) : STmps := (List.range n).foldl (fun T t => T.set t (some .junk)) .leaf
def cloneX : SCallF := fun f l H => bif Nat.beq f 105 then match l with
  | [.ovs 0] => SR.guard (Nat.beq H.next 1) (.ok (.ret (.osl 0) ⟨H.next + 1000, H.tree⟩))
  | _ => .no
 else .no
def unewS : List SVal := scrL ++ [.ovs 0, .ovs 1, .bool false]
def unewH : SHeap := ⟨1, (Trie.leaf : Trie SBlk).set 0 (some (.cells (.lst unewS) 0 true))⟩
def unewV : Vars := ⟨List.replicate 7 full64, [], 2⟩
def unewT : STmps := (junkT 50).set 1 (some (.ptr (some (0, 0))))
def unewC : ACode := (flatC LP.a51.body).getD 4 .bad
def unewR : SRope SVal := .app 8 (.lst (scrL ++ [.osl 0])) (.app 32768 (.rep 32768 (.int .u8 0)) (.lst [.bool false, .int .u8 7, .int .u8 0, .int .u8 0, .int .u8 255, .int .i64 0, .int .i64 0]))
def unewChk (_ : Facts) : SX × SSt → Bool
 | (.normal, s) => (match stget s.T 5, s.D with | .ptr (some (j, 0)), [] => Nat.beq j 1001 && (match s.H.get j with | some (.cells r 0 true) => sreq r unewR | _ => false) | _, _ => false)
 | _ => false
structure Tch where
 A : Option Addr
 c : Nat
 ts : List S184
def Tch.o (t : Tch) : Option (Nat × Nat) × Nat × Nat := match t.A with | none => (none, 0, 0) | some _ => (some (1, 0), t.ts.length, t.ts.length)
structure Tch.lies (t : Tch) (w : World) : Prop where
 r : Kd.C k184 w t.A t.ts.length t.ts
 nil : t.A = none → t.ts = [] ∧ t.c = 0
 c : t.ts.length ≤ t.c
 l : t.ts.length ≤ 1000000
theorem Tch.lies.below {t : Tch} {w w' : World} (h : t.lies w) (hb : Below w.heap.size w w') : t.lies w' := ⟨Kd.C_below h.r hb, h.nil, h.c, h.l⟩
def cloneV (t : Tch) (H : AHeap) : AVal := match t.A with | none => .slice none 0 0 | some _ => .slice (some (H.next, 0)) t.ts.length t.ts.length
noncomputable def cloneP (t : Tch) : CallF := piece 105 [.vs t.A t.ts.length t.c] (fun _ => True) fun H => (cloneV t H, ⟨H.next + 1000, H.tree⟩)
@[reducible] def roW (W : World) : RO := ⟨fun b => b < W.heap.size, fun b => W.heap[b]?⟩
theorem below_of_same {W w : World} (hs : ∀ b, b < W.heap.size → w.heap[b]? = W.heap[b]?) (hz : W.heap.size ≤ w.heap.size) : Below W.heap.size W { w with os := W.os, tape := W.tape, output := W.output } := ⟨rfl, rfl, rfl, hz, hs⟩
theorem k184_heap {w : World} {o : Os} {t : Nat → Question → Nat} {p : Array (Nat × ByteArray)} {A : Option Addr} {n : Nat} {xs : List S184} (h : Kd.C k184 { w with os := o, tape := t, output := p } A n xs) : Kd.C k184 w A n xs := h
theorem Tch.lies.same {t : Tch} {W w : World} (h : t.lies W) (hs : ∀ b, b < W.heap.size → w.heap[b]? = W.heap[b]?) (hz : W.heap.size ≤ w.heap.size) : t.lies w := ⟨k184_heap (Kd.C_below h.r (below_of_same hs hz)), h.nil, h.c, h.l⟩
theorem heap_le {W w : World} (hs : ∀ b, b < W.heap.size → w.heap[b]? = W.heap[b]?) : W.heap.size ≤ w.heap.size := by
 rcases Nat.lt_or_ge w.heap.size W.heap.size with h | h
 ·have h1 := hs w.heap.size h
  rw [Array.getElem?_eq_none (Nat.le_refl _)] at h1
  have : W.heap[w.heap.size]? ≠ none := by simp [h]
  exact absurd h1.symm this
 ·exact h
theorem LR.one_inv {ρ : Ren} {x : AVal} {l : Array Value} (h : LR ρ [x] l) : ∃ v, l = #[v] ∧ VR ρ x v := by
 obtain ⟨h1, h2⟩ := h
 have h1 : l.size = 1 := h1
 refine ⟨l[0], ?_, h2 0 x _ rfl (by simp [h1])⟩
 apply Array.ext
 ·simp [h1]
 ·intro i a b
  have : i = 0 := by omega
  subst this; rfl
theorem cloneP_ok {t : Tch} {W : World} (ht : t.lies W) : @CallOK (roW W) prog LP.E (cloneP t) := by
 letI : RO := roW W
 refine piece_ok fun H _ K ρ w l' hl hw => ?_
 have hlies : t.lies w := ht.same (fun b hb => hw.same b hb) (heap_le fun b hb => hw.same b hb)
 obtain ⟨v, rfl, hv⟩ := LR.one_inv hl
 cases hv with
 | vs a n c =>
 cases hA : t.A with
 | none =>
  obtain ⟨e1, e2⟩ := hlies.nil hA
  rw [e1, e2]
  refine (clone_nil w).mono fun e w' hp => ?_
  obtain ⟨rfl, hb⟩ := hp
  refine ⟨ρ, _, rfl, ?_, ⟨ρ.le_refl, ?_, fun b hb' => hb.block b (hw.kb b hb'), ⟨hb.size, hb.os, hb.output, hb.tape⟩⟩⟩
  ·simp only [cloneV, hA]; exact .sliceNil
  ·have h1 := hw.frame hb.block hb.size
   exact ⟨h1.live, h1.inj, h1.ro, fun i l h => Nat.lt_of_lt_of_le (h1.dom i l h) (Nat.le_add_right _ _), h1.kb, h1.same⟩
 | some ad =>
  have hr := hlies.r
  rw [hA] at hr
  refine (clone_touches ad t.c t.ts w hr hlies.l).mono fun e w' hp => ?_
  obtain ⟨g, c', rfl, hc, hb⟩ := hp
  let ρ' : Ren := fun i => if i = H.next then some ⟨g, 0, c' - t.ts.length⟩ else ρ i
  have hle : ρ.le ρ' := by
   intro i l h
   have := hw.dom i l h
   show (if i = H.next then _ else ρ i) = _
   rw [if_neg (by omega)]; exact h
  have h1 := hw.frame hb.block hb.size
  refine ⟨ρ', _, rfl, ?_, ⟨hle, ⟨fun i b hi => ?_, fun i j bi bj li lj hi hj hwi hwj hli hlj e => ?_, h1.ro, fun i l h => ?_, h1.kb, h1.same⟩, fun b hb' => hb.block b (hw.kb b hb'), ⟨hb.size, hb.os, hb.output, hb.tape⟩⟩⟩
  ·simp only [cloneV, hA]
   have h2 : ρ' H.next = some ⟨g, 0, c' - t.ts.length⟩ := if_pos rfl
   have := VR.slice (o := 0) (n := t.ts.length) (c := t.ts.length) h2
   rwa [show t.ts.length + (c' - t.ts.length) = c' by omega] at this
  ·obtain ⟨l, o, a1, a2, a3, a4⟩ := h1.live i b hi
   exact ⟨l, o, hle _ _ a1, a2, a3.mono hle, a4⟩
  ·obtain ⟨l1, o1, a1, _⟩ := h1.live i bi hi
   obtain ⟨l2, o2, b1, _⟩ := h1.live j bj hj
   have e1 := hle _ _ a1
   rw [hli] at e1; cases e1
   have e2 := hle _ _ b1
   rw [hlj] at e2; cases e2
   exact h1.inj i j bi bj _ _ hi hj hwi hwj a1 b1 e
  ·show i < H.next + 1000
   by_cases hi : i = H.next
   ·omega
   ·have : ρ i = some l := by simpa [ρ', hi] using h
    have := hw.dom i l this; omega
end Go.Sim
end
section
namespace Go.Sim
attribute [local instance] noRO
open Go.Proofs Go.RowKit Go.Proofs.YtdppeaciahdekaaGreatW.PrintWords Go.Proofs.YtdppeaciahdekaaGreatW.PrintLast Go.Proofs.YtdppeaciahdekaaGreatW.PrintMore
open Go.Proofs.YtdppeaciahdekaaGreat.PLockParts
structure Inp where
 s : Sig
 v : Nat → Int
 b27 : Bool
 b28 : Bool
 b30 : Bool
 b31 : Bool
 A : Option Addr
 c : Nat
 ps : List S127
 t : Tch
 ay : Int
 f0 : Int
 f1 : Int
 fb : Bool
 k : Dsk
 tt : Int
structure Inp.lies (x : Inp) (w : World) : Prop where
 r : Kd.C k127 w x.A x.ps.length x.ps
 c : x.ps.length ≤ x.c
 l : x.ps.length ≤ 1000000
 t : x.t.lies w
 k : x.k.lies w
theorem Inp.lies.below {x : Inp} {w w' : World} (h : x.lies w) (hb : Below w.heap.size w w') : x.lies w' := ⟨Kd.C_below h.r hb, h.c, h.l, h.t.below hb, h.k.below hb⟩
def Inp.cpu (x : Inp) : Value := .agg #[.int .i64 (x.s.v 0), .int .i64 (x.s.v 1), .int .i64 (x.s.v 2), .int .i64 (x.s.v 3), .int .i64 (x.s.v 4), .int .i64 (x.s.v 5), .int .i64 (x.s.v 6), .int .u8 (x.v 7), .int .u8 (x.v 8), .int .u8 (x.v 9), .int .u8 (x.v 10), .int .u8 (x.v 11), .int .u8 (x.v 12), .int .u8 (x.v 13), .int .u8 (x.v 14), .int .u8 (x.v 15), .int .u8 (x.v 16), .int .u8 (x.v 17), .int .u16 (x.v 18), .int .u16 (x.v 19), .int .u16 (x.v 20), .int .u16 (x.v 21), .int .u16 (x.v 22), .int .u16 (x.v 23), .int .u16 (x.v 24), .int .u16 (x.v 25), .int .u16 (x.v 26), .bool x.b27, .bool x.b28, .int .i64 (x.v 29), .bool x.b30, .bool x.b31, .slice x.A x.ps.length x.c]
def Inp.fdc (x : Inp) : Value := .agg #[.int .i64 x.f0, .int .i64 x.f1, .bool x.fb, .slice x.k.A x.k.ds.length x.k.c]
def Inp.cells (x : Inp) : Array Value := #[.int .i64 (x.s.v 0), .int .i64 (x.s.v 1), .int .i64 (x.s.v 2), .int .i64 (x.s.v 3), .int .i64 (x.s.v 4), .int .i64 (x.s.v 5), .int .i64 (x.s.v 6), .int .u8 (x.v 7), .int .u8 (x.v 8), .int .u8 (x.v 9), .int .u8 (x.v 10), .int .u8 (x.v 11), .int .u8 (x.v 12), .int .u8 (x.v 13), .int .u8 (x.v 14), .int .u8 (x.v 15), .int .u8 (x.v 16), .int .u8 (x.v 17), .int .u16 (x.v 18), .int .u16 (x.v 19), .int .u16 (x.v 20), .int .u16 (x.v 21), .int .u16 (x.v 22), .int .u16 (x.v 23), .int .u16 (x.v 24), .int .u16 (x.v 25), .int .u16 (x.v 26), .bool x.b27, .bool x.b28, .int .i64 (x.v 29), .bool x.b30, .bool x.b31, .slice x.A x.ps.length x.c, .slice x.t.A x.t.ts.length x.t.c, .int .i64 x.ay, .int .i64 x.f0, .int .i64 x.f1, .bool x.fb, .slice x.k.A x.k.ds.length x.k.c, .int .i64 x.tt]
def Inp.all (x : Inp) : Value := .agg x.cells
def ayK (a : Int) : Int := if a < 1 then 2 else if a > 65536 then 2 else 0
def Inp.chk (x : Inp) (n kk : Int) : Int := or4 (setupF n (x.v 29) x.ps) kk (ayK x.ay) (dskChk x.f0 x.f1 x.fb x.k.ds)
def Inp.code (x : Inp) (n kk : Int) : Int := if x.chk n kk ≠ 0 then x.chk n kk else if x.tt < 0 then 2 else if x.tt > 16777216 then 2 else 0
def Inp.cpuL (x : Inp) : List Value := [.int .i64 (x.s.v 0), .int .i64 (x.s.v 1), .int .i64 (x.s.v 2), .int .i64 (x.s.v 3), .int .i64 (x.s.v 4), .int .i64 (x.s.v 5), .int .i64 (x.s.v 6), .int .u8 (x.v 7), .int .u8 (x.v 8), .int .u8 (x.v 9), .int .u8 (x.v 10), .int .u8 (x.v 11), .int .u8 (x.v 12), .int .u8 (x.v 13), .int .u8 (x.v 14), .int .u8 (x.v 15), .int .u8 (x.v 16), .int .u8 (x.v 17), .int .u16 (x.v 18), .int .u16 (x.v 19), .int .u16 (x.v 20), .int .u16 (x.v 21), .int .u16 (x.v 22), .int .u16 (x.v 23), .int .u16 (x.v 24), .int .u16 (x.v 25), .int .u16 (x.v 26), .bool x.b27, .bool x.b28, .int .i64 (x.v 29), .bool x.b30, .bool x.b31, .slice x.A x.ps.length x.c]
def Inp.restL (x : Inp) : List Value := [.slice x.t.A x.t.ts.length x.t.c, .int .i64 x.ay, .int .i64 x.f0, .int .i64 x.f1, .bool x.fb, .slice x.k.A x.k.ds.length x.k.c, .int .i64 x.tt]
def Inp.preL (x : Inp) : List Value := [.int .i64 (x.s.v 0), .int .i64 (x.s.v 1), .int .i64 (x.s.v 2), .int .i64 (x.s.v 3), .int .i64 (x.s.v 4), .int .i64 (x.s.v 5), .int .i64 (x.s.v 6), .int .u8 (x.v 7), .int .u8 (x.v 8), .int .u8 (x.v 9), .int .u8 (x.v 10), .int .u8 (x.v 11), .int .u8 (x.v 12), .int .u8 (x.v 13), .int .u8 (x.v 14), .int .u8 (x.v 15), .int .u8 (x.v 16), .int .u8 (x.v 17), .int .u16 (x.v 18), .int .u16 (x.v 19), .int .u16 (x.v 20), .int .u16 (x.v 21), .int .u16 (x.v 22), .int .u16 (x.v 23), .int .u16 (x.v 24), .int .u16 (x.v 25), .int .u16 (x.v 26), .bool x.b27, .bool x.b28, .int .i64 (x.v 29), .bool x.b30, .bool x.b31, .slice x.A x.ps.length x.c, .slice x.t.A x.t.ts.length x.t.c, .int .i64 x.ay]
def Inp.fdcL (x : Inp) : List Value := [.int .i64 x.f0, .int .i64 x.f1, .bool x.fb, .slice x.k.A x.k.ds.length x.k.c]
set_option maxRecDepth 100000 in
theorem Inp.load33 (x : Inp) {w : World} {g : Nat} (hg : w.heap[g]? = some (.cells x.cells 43 (0, 0))) : (loadVar 33 ⟨g, 0, none⟩).run Tryz.prog w = .ok x.cpu w :=
 run_loadVar_sub 33 [] x.cpuL x.restL hg rfl Tryz.underlying33 rfl (by kernel_rfl)
set_option maxRecDepth 100000 in
theorem Inp.load41 (x : Inp) {w : World} {g : Nat} (hg : w.heap[g]? = some (.cells x.cells 43 (0, 0))) : (loadVar 41 ⟨g, 35, none⟩).run Tryz.prog w = .ok x.fdc w :=
 run_loadVar_sub 41 x.preL x.fdcL [.int .i64 x.tt] hg rfl Tryz.underlying41 rfl (by kernel_rfl)
@[irreducible] def ld33 (a : Addr) : Sem Value := loadVar 33 a
theorem ld33_eq (a : Addr) : loadVar 33 a = ld33 a := by unfold ld33; rfl
theorem Inp.rd33 (x : Inp) {w : World} {g : Nat} (hg : w.heap[g]? = some (.cells x.cells 43 (0, 0))) : (Go.Sim.ld33 ⟨g, 0, none⟩).run Tryz.prog w = .ok x.cpu w := by rw [← ld33_eq]; exact x.load33 hg
theorem Inp.keep (x : Inp) {w w1 : World} (hb : Below w.heap.size w w1) (hh : w1.heap[w.heap.size]? = some (.cells x.cells 43 (0, 0))) : (fun w' => Below w.heap.size w w' ∧ w'.heap[w.heap.size]? = some (.cells x.cells 43 (0, 0)) ∧ (ld33 ⟨w.heap.size, 0, none⟩).run Tryz.prog w' = .ok x.cpu w' ∧ w'.cell? ⟨w.heap.size, 33, none⟩ = some (.slice x.t.A x.t.ts.length x.t.c) ∧ w'.cell? ⟨w.heap.size, 34, none⟩ = some (.int .i64 x.ay) ∧ w'.cell? ⟨w.heap.size, 35, none⟩ = some (.int .i64 x.f0) ∧ w'.cell? ⟨w.heap.size, 36, none⟩ = some (.int .i64 x.f1) ∧ w'.cell? ⟨w.heap.size, 37, none⟩ = some (.bool x.fb) ∧ w'.cell? ⟨w.heap.size, 38, none⟩ = some (.slice x.k.A x.k.ds.length x.k.c)) w1 :=
 ⟨hb, hh, x.rd33 hh, (blk_cell hh 33).trans rfl, (blk_cell hh 34).trans rfl, (blk_cell hh 35).trans rfl, (blk_cell hh 36).trans rfl, (blk_cell hh 37).trans rfl, (blk_cell hh 38).trans rfl⟩
theorem Inp.keep2 (x : Inp) {w w1 w2 : World} (h : (fun w' => Below w.heap.size w w' ∧ w'.heap[w.heap.size]? = some (.cells x.cells 43 (0, 0)) ∧ (ld33 ⟨w.heap.size, 0, none⟩).run Tryz.prog w' = .ok x.cpu w' ∧ w'.cell? ⟨w.heap.size, 33, none⟩ = some (.slice x.t.A x.t.ts.length x.t.c) ∧ w'.cell? ⟨w.heap.size, 34, none⟩ = some (.int .i64 x.ay) ∧ w'.cell? ⟨w.heap.size, 35, none⟩ = some (.int .i64 x.f0) ∧ w'.cell? ⟨w.heap.size, 36, none⟩ = some (.int .i64 x.f1) ∧ w'.cell? ⟨w.heap.size, 37, none⟩ = some (.bool x.fb) ∧ w'.cell? ⟨w.heap.size, 38, none⟩ = some (.slice x.k.A x.k.ds.length x.k.c)) w1) (hb : Below w1.heap.size w1 w2) : (fun w' => Below w.heap.size w w' ∧ w'.heap[w.heap.size]? = some (.cells x.cells 43 (0, 0)) ∧ (ld33 ⟨w.heap.size, 0, none⟩).run Tryz.prog w' = .ok x.cpu w' ∧ w'.cell? ⟨w.heap.size, 33, none⟩ = some (.slice x.t.A x.t.ts.length x.t.c) ∧ w'.cell? ⟨w.heap.size, 34, none⟩ = some (.int .i64 x.ay) ∧ w'.cell? ⟨w.heap.size, 35, none⟩ = some (.int .i64 x.f0) ∧ w'.cell? ⟨w.heap.size, 36, none⟩ = some (.int .i64 x.f1) ∧ w'.cell? ⟨w.heap.size, 37, none⟩ = some (.bool x.fb) ∧ w'.cell? ⟨w.heap.size, 38, none⟩ = some (.slice x.k.A x.k.ds.length x.k.c)) w2 :=
 x.keep (below_then h.1 h.1.size hb) ((hb.block _ (blk_lt h.2.1)).trans h.2.1)
theorem Inp.cpuC (x : Inp) {n : Int} {w w' : World} (hs : ∀ w, Calls Tryz.prog 158 #[scrVals x.s] w fun e w' => e = .returned (.int .i64 n) ∧ Only (fun _ => False) w w') (hx : x.lies w) (h : Below w.heap.size w w' ∧ w'.heap[w.heap.size]? = some (.cells x.cells 43 (0, 0)) ∧ (ld33 ⟨w.heap.size, 0, none⟩).run Tryz.prog w' = .ok x.cpu w' ∧ w'.cell? ⟨w.heap.size, 33, none⟩ = some (.slice x.t.A x.t.ts.length x.t.c) ∧ w'.cell? ⟨w.heap.size, 34, none⟩ = some (.int .i64 x.ay) ∧ w'.cell? ⟨w.heap.size, 35, none⟩ = some (.int .i64 x.f0) ∧ w'.cell? ⟨w.heap.size, 36, none⟩ = some (.int .i64 x.f1) ∧ w'.cell? ⟨w.heap.size, 37, none⟩ = some (.bool x.fb) ∧ w'.cell? ⟨w.heap.size, 38, none⟩ = some (.slice x.k.A x.k.ds.length x.k.c)) :
  Calls Tryz.prog 101 #[x.cpu] w' fun e w2 => e = .returned (.int .i64 (setupF n (x.v 29) x.ps)) ∧ Below w'.heap.size w' w2 := by
 have hx' := hx.below h.1
 exact cpu_check hs (x.v 7) (x.v 8) (x.v 9) (x.v 10) (x.v 11) (x.v 12) (x.v 13) (x.v 14) (x.v 15) (x.v 16) (x.v 17) (x.v 18) (x.v 19) (x.v 20) (x.v 21) (x.v 22) (x.v 23) (x.v 24) (x.v 25) (x.v 26) x.b27 x.b28 (x.v 29) x.b30 x.b31 x.A x.c x.ps w' hx'.r hx'.c hx'.l
theorem Inp.keysC (x : Inp) {K : Nat} {kk : Int} {w w' : World} (hk : keysIs K x.t.ts kk) (hx : x.lies w) (h : Below w.heap.size w w' ∧ w'.heap[w.heap.size]? = some (.cells x.cells 43 (0, 0)) ∧ (ld33 ⟨w.heap.size, 0, none⟩).run Tryz.prog w' = .ok x.cpu w' ∧ w'.cell? ⟨w.heap.size, 33, none⟩ = some (.slice x.t.A x.t.ts.length x.t.c) ∧ w'.cell? ⟨w.heap.size, 34, none⟩ = some (.int .i64 x.ay) ∧ w'.cell? ⟨w.heap.size, 35, none⟩ = some (.int .i64 x.f0) ∧ w'.cell? ⟨w.heap.size, 36, none⟩ = some (.int .i64 x.f1) ∧ w'.cell? ⟨w.heap.size, 37, none⟩ = some (.bool x.fb) ∧ w'.cell? ⟨w.heap.size, 38, none⟩ = some (.slice x.k.A x.k.ds.length x.k.c)) :
  Calls Tryz.prog 119 #[.slice x.t.A x.t.ts.length x.t.c] w' fun e w2 => e = .returned (.int .i64 kk) ∧ Below w'.heap.size w' w2 := by
 have hx' := hx.below h.1
 exact (keys_C K x.t.A x.t.c x.t.ts kk w' hx'.t.r hx'.t.c hk).mono fun e w2 ⟨h1, h2⟩ => ⟨h1, h2⟩
theorem ayC (a : Int) (w' : World) : Calls Tryz.prog 107 #[.agg #[.int .i64 a]] w' fun e w2 => e = .returned (.int .i64 (ayK a)) ∧ Below w'.heap.size w' w2 := by
 have h : ay_CheckSetup.f a = some (ayK a) := by unfold ay_CheckSetup.f ayK; split <;> (try split) <;> rfl
 exact (ay_CheckSetup.calls a _ w' h).mono fun e w2 ⟨h1, h2⟩ => ⟨h1, h2⟩
theorem Inp.fdcC (x : Inp) {w w' : World} (hx : x.lies w) (h : Below w.heap.size w w' ∧ w'.heap[w.heap.size]? = some (.cells x.cells 43 (0, 0)) ∧ (ld33 ⟨w.heap.size, 0, none⟩).run Tryz.prog w' = .ok x.cpu w' ∧ w'.cell? ⟨w.heap.size, 33, none⟩ = some (.slice x.t.A x.t.ts.length x.t.c) ∧ w'.cell? ⟨w.heap.size, 34, none⟩ = some (.int .i64 x.ay) ∧ w'.cell? ⟨w.heap.size, 35, none⟩ = some (.int .i64 x.f0) ∧ w'.cell? ⟨w.heap.size, 36, none⟩ = some (.int .i64 x.f1) ∧ w'.cell? ⟨w.heap.size, 37, none⟩ = some (.bool x.fb) ∧ w'.cell? ⟨w.heap.size, 38, none⟩ = some (.slice x.k.A x.k.ds.length x.k.c)) :
  Calls Tryz.prog 109 #[.agg #[.int .i64 x.f0, .int .i64 x.f1, .bool x.fb, .slice x.k.A x.k.ds.length x.k.c]] w' fun e w2 => e = .returned (.int .i64 (dskChk x.f0 x.f1 x.fb x.k.ds)) ∧ Below w'.heap.size w' w2 :=
 fdc_check x.f0 x.f1 x.fb x.k w' (hx.below h.1).k
theorem lv2 (a : Addr) : loadVar 2 a = (do if ← isAgg 2 then pure (.agg (← loadCells a (← sizeOf 2))) else load a) := rfl
theorem lv34 (a : Addr) : loadVar 34 a = (do if ← isAgg 34 then pure (.agg (← loadCells a (← sizeOf 34))) else load a) := rfl
theorem lv36 (a : Addr) : loadVar 36 a = (do if ← isAgg 36 then pure (.agg (← loadCells a (← sizeOf 36))) else load a) := rfl
theorem lv41 (a : Addr) : loadVar 41 a = (do if ← isAgg 41 then pure (.agg (← loadCells a (← sizeOf 41))) else load a) := rfl
section
attribute [-go_sem] Go.loadVar
attribute [local go_sem] ld33_eq lv2 lv34 lv36 lv41
set_option maxHeartbeats 8000000 in
set_option maxRecDepth 100000 in
theorem stim_check (x : Inp) {n kk : Int} {K : Nat} (hs : ∀ w, Calls Tryz.prog 158 #[scrVals x.s] w fun e w' => e = .returned (.int .i64 n) ∧ Only (fun _ => False) w w') (hk : keysIs K x.t.ts kk) (w : World) (hx : x.lies w) :
  Calls Tryz.prog 63 #[x.all] w fun e w' => e = .returned (.int .i64 (x.code n kk)) ∧ Below w.heap.size w w' := by
 have HX := Aside0.mk hx
 clear hx
 unfold Inp.all Inp.cells
 go_enter Tryz.func63, Tryz.ntmps63
 go_wp2_with fail
 have hh := heap_alloc_new w (Obj.cells x.cells 43)
 have hb := below_alloc (Below.refl w.heap.size w) (Obj.cells x.cells 43)
 have hn : w.heap.size < (w.alloc (Obj.cells x.cells 43)).heap.size := by simp
 change Code.wp _ _ _ _ (w.alloc (Obj.cells x.cells 43))
 generalize w.alloc (Obj.cells x.cells 43) = w1 at hh hb hn ⊢
 have hSd := x.keep (w := w) (w1 := w1.drew) (below_drew hb) hh
 generalize hx0 : Value.agg _ = x0
 clear hx0
 go_region_held3 (fun w' => Below w.heap.size w w' ∧ w'.heap[w.heap.size]? = some (.cells x.cells 43 (0, 0)) ∧ (ld33 ⟨w.heap.size, 0, none⟩).run Tryz.prog w' = .ok x.cpu w' ∧ w'.cell? ⟨w.heap.size, 33, none⟩ = some (.slice x.t.A x.t.ts.length x.t.c) ∧ w'.cell? ⟨w.heap.size, 34, none⟩ = some (.int .i64 x.ay) ∧ w'.cell? ⟨w.heap.size, 35, none⟩ = some (.int .i64 x.f0) ∧ w'.cell? ⟨w.heap.size, 36, none⟩ = some (.int .i64 x.f1) ∧ w'.cell? ⟨w.heap.size, 37, none⟩ = some (.bool x.fb) ∧ w'.cell? ⟨w.heap.size, 38, none⟩ = some (.slice x.k.A x.k.ds.length x.k.c)) (first | exact hSd | assumption | (refine x.keep2 ?_ hb7; assumption) | (refine x.keep2 ?_ (below_alloc (Below.refl _ _) _); assumption))
  (first | (go_at_call 101; refine (x.cpuC hs HX.out (by assumption)).mono ?_; rintro e w7 ⟨rfl, hb7⟩) | (go_at_call 119; refine (x.keysC hk HX.out (by assumption)).mono ?_; rintro e w7 ⟨rfl, hb7⟩) | (go_at_call 107; refine (ayC x.ay _).mono ?_; rintro e w7 ⟨rfl, hb7⟩) | (go_at_call 109; refine (x.fdcC HX.out (by assumption)).mono ?_; rintro e w7 ⟨rfl, hb7⟩) | (go_at_call 118; refine (or_calls _ _ _ _ _ _ ((blk_cell (heap_alloc_new _ _) 0).trans rfl) ((blk_cell (heap_alloc_new _ _) 1).trans rfl) ((blk_cell (heap_alloc_new _ _) 2).trans rfl) ((blk_cell (heap_alloc_new _ _) 3).trans rfl)).mono ?_; rintro e w7 ⟨rfl, rfl⟩))
 rename_i hHeld
 have HB2 := Aside0.mk hHeld.1
 have hc9 := (blk_cell hHeld.2.1 39).trans (show x.cells[39]? = some (.int .i64 x.tt) from rfl)
 clear hHeld
 generalize w7.alloc (Obj.cells #[Value.int .i64 (setupF n (x.v 29) x.ps), Value.int .i64 kk, Value.int .i64 (ayK x.ay), Value.int .i64 (dskChk x.f0 x.f1 x.fb x.k.ds)] 23) = w9 at HB2 hc9 ⊢
 have HE : Aside0 (∀ y, y = x.code n kk → Ending.returned (Value.int .i64 y) = Ending.returned (.int .i64 (x.code n kk))) := ⟨fun y h => by rw [h]⟩
 have hcd : x.code n kk = if or4 (setupF n (x.v 29) x.ps) kk (ayK x.ay) (dskChk x.f0 x.f1 x.fb x.k.ds) ≠ 0 then or4 (setupF n (x.v 29) x.ps) kk (ayK x.ay) (dskChk x.f0 x.f1 x.fb x.k.ds) else if x.tt < 0 then 2 else if x.tt > 16777216 then 2 else 0 := rfl
 have HCD := Aside0.mk hcd
 clear hcd
 generalize or4 (setupF n (x.v 29) x.ps) kk (ayK x.ay) (dskChk x.f0 x.f1 x.fb x.k.ds) = r at HCD ⊢
 by_cases hr : r = 0
 ·have hr0 : (r != 0) = false := bne_eq_false_iff_eq.mpr hr
  have HR0 := Aside0.mk hr
  clear hr
  by_cases c1 : x.tt < 0
  ·have d1 : decide (x.tt < 0) = true := decide_eq_true c1
   go_wp2
   go_ret
   exact ⟨HE.out 2 (by rw [HCD.out, if_neg (not_not_intro HR0.out), if_pos (by omega)]), HB2.out⟩
  have d1 : decide (x.tt < 0) = false := decide_eq_false c1
  by_cases c2 : 16777216 < x.tt
  ·have d2 : decide (16777216 < x.tt) = true := decide_eq_true c2
   go_wp2
   go_ret
   exact ⟨HE.out 2 (by rw [HCD.out, if_neg (not_not_intro HR0.out), if_neg (by omega), if_pos (by omega)]), HB2.out⟩
  have d2 : decide (16777216 < x.tt) = false := decide_eq_false c2
  go_wp2
  go_ret
  exact ⟨HE.out 0 (by rw [HCD.out, if_neg (not_not_intro HR0.out), if_neg (by omega), if_neg (by omega)]), HB2.out⟩
 ·have hr0 : (r != 0) = true := bne_iff_ne.mpr hr
  have HR0 := Aside0.mk hr
  clear hr
  go_wp2
  go_ret
  exact ⟨HE.out r (by rw [HCD.out, if_pos HR0.out]), HB2.out⟩
end
end Go.Sim
end
section
namespace Go.Sim
attribute [local instance] noRO
open Go.Proofs Go.RowKit Go.Proofs.YtdppeaciahdekaaGreatW.PrintWords Go.Proofs.YtdppeaciahdekaaGreatW.PrintLast Go.Proofs.YtdppeaciahdekaaGreatW.PrintMore
open Go.Proofs.YtdppeaciahdekaaGreat.PLockParts
def Says (e : Ending) (p : Prop) : Prop := ∃ r : Bool, e = .returned (.bool r) ∧ (r = true → p)
set_option maxHeartbeats 8000000 in
set_option maxRecDepth 100000 in
theorem lightP_calls (A : Option Addr) (c : Nat) (ps : List S127) (w : World) (hr : Kd.C k127 w A ps.length ps) :
  Calls Tryz.prog 74 #[.slice A ps.length c, .int .i64 20, .int .i64 600] w fun e w' => Says e (ps.length ≤ 20) ∧ Below w.heap.size w w' := by
 have hu127 := Tryz.underlying127
 have HR := Aside0.mk hr
 clear hr
 go_enter Tryz.func74, Tryz.ntmps74
 go_wp2
 go_loopg [2, 7] ps.length (fun kq v2 v7 w' => ∃ (i : Nat) (m : Int), v2 = .int .i64 m ∧ v7 = .int .i64 i ∧ i ≤ ps.length ∧ Aside0 (ps.length - i ≤ kq) ∧ Aside0 (Below w.heap.size w w'))
 case atStart => exact ⟨0, 600, rfl, rfl, Nat.zero_le _, ⟨Nat.le_refl _⟩, ⟨Below.refl _ _⟩⟩
 case round =>
  obtain ⟨i, m, rfl, rfl, hi, HK, HB⟩ := hrel
  have hfin : ∀ r : Bool, r = decide ((ps.length : Int) ≤ 20) → r = true → ps.length ≤ 20 := fun r h h2 => by rw [h2] at h; have := of_decide_eq_true h.symm; omega
  have HFIN := Aside0.mk hfin
  clear hfin
  by_cases hc : i < ps.length
  ·have hc0 : decide ((i : Int) < (ps.length : Int)) = true := decide_eq_true (by omega)
   have hc1 : decide (i < ps.length) = true := decide_eq_true hc
   by_cases h20 : i ≤ 20
   ·have h200 : decide ((i : Int) ≤ 20) = true := decide_eq_true (by omega)
    have h201 : decide (i ≤ 20) = true := decide_eq_true h20
    have p1 : (0 : Int) ≤ (i : Int) := by omega
    have q1 : (i : Int) < (ps.length : Int) := by omega
    obtain ⟨ad, A2, c2, e1, h0, h1, h2, l2, g2⟩ := at_T127 HR.out i p1 q1
    cases e1
    replace h2 := (HB.out.cell (World.block_lt_of_cell? w _ h2)).trans h2
    have hin : ((i : Int)).toNat = i := rfl
    rw [hin] at h2
    clear h0 h1 g2 l2
    replace p1 := eq_true p1
    replace q1 := eq_true q1
    generalize (rd_T127 ps ↑i).f2.length = L at h2
    by_cases hm : wrap64 (m - (L : Int)) < 0
    ·have hm0 : decide (wrap64 (m - (L : Int)) < 0) = true := decide_eq_true hm
     go_wp2
     go_ret
     exact ⟨⟨false, rfl, fun h => by cases h⟩, HB.out⟩
    ·have hm0 : decide (wrap64 (m - (L : Int)) < 0) = false := decide_eq_false hm
     cases gk with
     | zero => exact absurd HK.out (by omega)
     | succ k1 =>
      go_wp2
      go_roundg k1
      case measure => have := HK.out; omega
      case rel => exact ⟨i + 1, _, rfl, rfl, by omega, ⟨by have := HK.out; omega⟩, HB⟩
   ·have h200 : decide ((i : Int) ≤ 20) = false := decide_eq_false (by omega)
    have h201 : decide (i ≤ 20) = false := decide_eq_false h20
    go_wp2
    go_ret
    exact ⟨⟨_, rfl, HFIN.out _ rfl⟩, HB.out⟩
  ·have hc0 : decide ((i : Int) < (ps.length : Int)) = false := decide_eq_false (by omega)
   have hc1 : decide (i < ps.length) = false := decide_eq_false hc
   go_wp2
   go_ret
   exact ⟨⟨_, rfl, HFIN.out _ rfl⟩, HB.out⟩
def dskFew (ds : List (List S218)) : Prop := ds.length ≤ 12 ∧ ∀ d ∈ ds, d.length ≤ 12 ∧ ∀ s ∈ d, s.f6.length ≤ 300
theorem rdL5_mem {ds : List (List S218)} {i : Nat} (h : i < ds.length) : rd_L5 ds i = ds[i] := by simp [rd_L5, List.getD_eq_getElem?_getD, h]
theorem rd218_mem {d : List S218} {i : Nat} (h : i < d.length) : rd_T218 d i = d[i] := by simp [rd_T218, List.getD_eq_getElem?_getD, h]
theorem few_snoc {α : Type} {P : α → Prop} {l : List α} {i : Nat} (h : i < l.length) (h1 : ∀ x ∈ l.take i, P x) (h2 : P l[i]) : ∀ x ∈ l.take (i + 1), P x := by
 intro x hx
 rw [List.take_succ_eq_append_getElem h, List.mem_append, List.mem_singleton] at hx
 rcases hx with hx | rfl
 ·exact h1 x hx
 ·exact h2
section
attribute [local go_sem] min_two
set_option maxHeartbeats 16000000 in
set_option maxRecDepth 100000 in
theorem lightD_calls (A : Option Addr) (c : Nat) (ds : List (List S218)) (w : World) (hr : Kd.C (Go.Proofs.YtdppeaciahdekaaGreatW.PrintWords.Kd.slice 218 k218) w A ds.length ds) :
  Calls Tryz.prog 75 #[.agg #[.slice A ds.length c], .int .i64 12, .int .i64 300] w fun e w' => Says e (dskFew ds) ∧ Below w.heap.size w w' := by
 have hu37 := Tryz.underlying37
 have hu216 := Tryz.underlying216
 have hu218 := Tryz.underlying218
 have HR := Aside0.mk hr
 clear hr
 have HB1 := Aside0.mk (below_alloc (Below.refl w.heap.size w) (Obj.cells #[.slice A ds.length c] 39))
 have HK1 := Aside0.mk (heap_alloc_new w (Obj.cells #[.slice A ds.length c] 39))
 go_enter Tryz.func75, Tryz.ntmps75
 go_wp2
 go_loopg [7, 8] ds.length (fun kq v7 v8 w' => ∃ (t : Nat) (m : Int), v7 = .int .i64 m ∧ v8 = .int .i64 t ∧ t ≤ ds.length ∧ m + t ≤ 12 ∧ -13 ≤ m ∧ Aside0 (ds.length - t ≤ kq) ∧ Aside0 (0 ≤ m → ∀ d ∈ ds.take t, d.length ≤ 12 ∧ ∀ s ∈ d, s.f6.length ≤ 300) ∧ Aside0 (w'.heap[w.heap.size]? = some (.cells #[.slice A ds.length c] 39 (0, 0))) ∧ Aside0 (Below w.heap.size w w'))
 case atStart => exact ⟨0, 12, rfl, rfl, Nat.zero_le _, by omega, by omega, ⟨Nat.le_refl _⟩, ⟨fun _ d hd => by simp at hd⟩, HK1, HB1⟩
 case round =>
  clear HB1 HK1
  obtain ⟨t, m, rfl, rfl, hi, hm12, hm13, HK, HF, HG, HB⟩ := hrel
  rename World => wo
  have c0 : wo.cell? ⟨w.heap.size, 0, none⟩ = some (.slice A ds.length c) := (blk_cell HG.out 0).trans rfl
  by_cases hc : t < ds.length
  ·have hc0 : decide ((t : Int) < (ds.length : Int)) = true := decide_eq_true (by omega)
   have hc1 : decide (t < ds.length) = true := decide_eq_true hc
   by_cases hm : 0 ≤ m
   ·have hm0 : decide (m ≥ 0) = true := decide_eq_true hm
    have p1 : (0 : Int) ≤ (t : Int) := by omega
    have q1 : (t : Int) < (ds.length : Int) := by omega
    obtain ⟨ad, A0, cc0, e1, h0', l0, g0⟩ := at_L5 HR.out t p1 q1
    cases e1
    have hin : ((t : Int)).toNat = t := rfl
    rw [hin] at h0'
    replace h0' := (HB.out.cell (World.block_lt_of_cell? w _ h0')).trans h0'
    have G0 := Aside0.mk g0
    have HS := Aside0.mk (fun (h1 : ∀ d ∈ ds.take t, d.length ≤ 12 ∧ ∀ s ∈ d, s.f6.length ≤ 300) (h2 : (rd_L5 ds ↑t).length ≤ 12 ∧ ∀ s ∈ rd_L5 ds ↑t, s.f6.length ≤ 300) => few_snoc (P := fun d => d.length ≤ 12 ∧ ∀ s ∈ d, s.f6.length ≤ 300) hc h1 (by rw [← rdL5_mem hc]; exact h2))
    clear g0
    replace p1 := eq_true p1
    replace q1 := eq_true q1
    generalize rd_L5 ds ↑t = d at h0' l0 G0 HS
    cases gk with
    | zero => exact absurd HK.out (by omega)
    | succ k1 =>
     obtain ⟨L, hL0, hL12, hmin, HLD⟩ : ∃ L : Int, 0 ≤ L ∧ L ≤ 12 ∧ Builtin.min2 (.int .i64 (d.length : Int)) (.int .i64 12) = (pure (.int .i64 L) : Sem Value) ∧ Aside0 (m - 1 - L ≥ 0 → d.length ≤ 12) := by
      by_cases hd : (12 : Int) < (d.length : Int)
      ·exact ⟨12, by omega, by omega, by rw [min2_int, if_pos hd], ⟨fun h => by omega⟩⟩
      ·exact ⟨d.length, by omega, by omega, by rw [min2_int, if_neg hd], ⟨fun h => by omega⟩⟩
     go_wp2
     have hm2a : m - 1 - L + (t + 1) ≤ 12 := by omega
     have hm2b : -13 ≤ m - 1 - L := by omega
     have HF1 := Aside0.mk (fun (hi : 0 ≤ m - 1 - L) (h : ∀ s ∈ d, s.f6.length ≤ 300) => HS.out (HF.out hm) ⟨HLD.out hi, h⟩)
     have HD12 := Aside0.mk (fun (hi : 0 ≤ m - 1 - L) => HLD.out hi)
     have HC0 := Aside0.mk h0'
     clear h0' c0 hmin
     generalize m - 1 - L = m2 at hm2a hm2b HF1 HD12
     clear HS HF HLD
     go_loopg [9] d.length (fun kq v9 w' => ∃ i : Nat, v9 = .int .i64 i ∧ i ≤ d.length ∧ Aside0 (d.length - i ≤ kq) ∧ Aside0 (0 ≤ m2 → ∀ s ∈ d.take i, s.f6.length ≤ 300) ∧ Aside0 (w'.heap[w.heap.size]? = some (.cells #[.slice (some ad) ds.length c] 39 (0, 0))) ∧ Aside0 (w'.cell? (ad.add t) = some (.slice A0 d.length cc0)) ∧ Aside0 (Below w.heap.size w w'))
     case atStart => exact ⟨0, rfl, Nat.zero_le _, ⟨Nat.le_refl _⟩, ⟨fun _ s hs => by simp at hs⟩, HG, HC0, HB⟩
     case round =>
      clear HG HB HC0
      obtain ⟨i, rfl, hi2, HK2, HI, HG2, HC2, HB2⟩ := hrel
      have c0 : wr.cell? ⟨w.heap.size, 0, none⟩ = some (.slice (some ad) ds.length c) := (blk_cell HG2.out 0).trans rfl
      have c1 := HC2.out
      by_cases hc2 : i < d.length
      ·have hc20 : decide ((i : Int) < (d.length : Int)) = true := decide_eq_true (by omega)
       have hc21 : decide (i < d.length) = true := decide_eq_true hc2
       by_cases hm2 : 0 ≤ m2
       ·have hm20 : decide (m2 ≥ 0) = true := decide_eq_true hm2
        have p2 : (0 : Int) ≤ (i : Int) := by omega
        have q2 : (i : Int) < (d.length : Int) := by omega
        obtain ⟨ad2, A6, c6, e2, s0, s1, s2, s3, s4, s5, s6, l6, g6⟩ := at_T218 G0.out i p2 q2
        cases e2
        have hin2 : ((i : Int)).toNat = i := rfl
        rw [hin2] at s6
        clear s0 s1 s2 s3 s4 s5 l6 g6
        replace s6 := (HB2.out.cell (World.block_lt_of_cell? w _ s6)).trans s6
        have HS2 := Aside0.mk (fun (h1 : ∀ s ∈ d.take i, s.f6.length ≤ 300) (h2 : (rd_T218 d ↑i).f6.length ≤ 300) => few_snoc (P := fun s : S218 => s.f6.length ≤ 300) hc2 h1 (by rw [← rd218_mem hc2]; exact h2))
        replace p2 := eq_true p2
        replace q2 := eq_true q2
        generalize (rd_T218 d ↑i).f6.length = N at s6 HS2
        by_cases hN : 300 < N
        ·have hN0 : decide ((300 : Int) < (N : Int)) = true := decide_eq_true (by omega)
         have hN1 : decide (300 < N) = true := decide_eq_true hN
         go_wp2
         go_ret
         exact ⟨⟨false, rfl, fun h => by cases h⟩, HB2.out⟩
        ·have hN0 : decide ((300 : Int) < (N : Int)) = false := decide_eq_false (by omega)
         have hN1 : decide (300 < N) = false := decide_eq_false hN
         cases gk with
         | zero => exact absurd HK2.out (by omega)
         | succ k2 =>
          go_wp2
          go_roundg k2
          case measure => have := HK2.out; omega
          case rel => exact ⟨i + 1, by have := HD12.out hm2; rw [wrap64_add1 (by omega) (by omega)]; rfl, by omega, ⟨by have := HK2.out; omega⟩, ⟨fun h => HS2.out (HI.out h) (by omega)⟩, HG2, HC2, HB2⟩
       ·have hm20 : decide (m2 ≥ 0) = false := decide_eq_false hm2
        have HEND := Aside0.mk (fun (h : 0 ≤ m2) => absurd h hm2 (b := ∀ d ∈ ds.take (t + 1), d.length ≤ 12 ∧ ∀ s ∈ d, s.f6.length ≤ 300))
        go_wp2
        go_roundg k1
        case measure => have := HK.out; omega
        case rel => exact ⟨t + 1, m2, rfl, rfl, by omega, by omega, by omega, ⟨by have := HK.out; omega⟩, ⟨fun h => HEND.out h⟩, HG2, HB2⟩
      ·have hc20 : decide ((i : Int) < (d.length : Int)) = false := decide_eq_false (by omega)
       have hc21 : decide (i < d.length) = false := decide_eq_false hc2
       have HEND := Aside0.mk (fun (h : 0 ≤ m2) => HF1.out h (by have h3 := HI.out h; rwa [List.take_of_length_le (by omega)] at h3))
       go_wp2
       go_roundg k1
       case measure => have := HK.out; omega
       case rel => exact ⟨t + 1, m2, rfl, rfl, by omega, by omega, by omega, ⟨by have := HK.out; omega⟩, ⟨fun h => HEND.out h⟩, HG2, HB2⟩
   ·have hm0 : decide (m ≥ 0) = false := decide_eq_false hm
    go_wp2
    go_ret
    exact ⟨⟨false, rfl, fun h => by cases h⟩, HB.out⟩
  ·have hc0 : decide ((t : Int) < (ds.length : Int)) = false := decide_eq_false (by omega)
   have hc1 : decide (t < ds.length) = false := decide_eq_false hc
   have HFIN := Aside0.mk (fun (r : Bool) (h : r = decide (m ≥ 0)) (h2 : r = true) => show dskFew ds from by
    rw [h2] at h
    have hm := of_decide_eq_true h.symm
    have h3 := HF.out hm
    rw [List.take_of_length_le (by omega)] at h3
    exact ⟨by omega, h3⟩)
   go_wp2
   go_ret
   exact ⟨⟨_, rfl, HFIN.out _ rfl⟩, HB.out⟩
end
theorem lv39 (a : Addr) : loadVar 39 a = (do if ← isAgg 39 then pure (.agg (← loadCells a (← sizeOf 39))) else load a) := rfl
theorem lv31' (a : Addr) : loadVar 31 a = (do if ← isAgg 31 then pure (.agg (← loadCells a (← sizeOf 31))) else load a) := rfl
structure Inp.Light (x : Inp) : Prop where
 p : x.ps.length ≤ 20
 t : x.t.ts.length ≤ 40
 k : dskFew x.k.ds
 tt : x.tt ≤ 3000
section
attribute [-go_sem] Go.loadVar
attribute [local go_sem] lv31' lv34 lv39 lv2
set_option maxHeartbeats 16000000 in
set_option maxRecDepth 100000 in
theorem light_calls (x : Inp) (w : World) (hr : Kd.C k127 w x.A x.ps.length x.ps) (hk : Kd.C (Go.Proofs.YtdppeaciahdekaaGreatW.PrintWords.Kd.slice 218 k218) w x.k.A x.k.ds.length x.k.ds) :
  Calls Tryz.prog 17 #[x.all, .int .i64 3000] w fun e w' => Says e x.Light ∧ Below w.heap.size w w' := by
 have hu39 := Tryz.underlying39
 have HR := Aside0.mk (Kd.C_below hr (below_alloc (Below.refl w.heap.size w) (Obj.cells x.cells 43)))
 have HKD := Aside0.mk (Kd.C_below hk (below_alloc (Below.refl w.heap.size w) (Obj.cells x.cells 43)))
 have hk1 := heap_alloc_new w (Obj.cells x.cells 43)
 have HB1 := Aside0.mk (below_alloc (Below.refl w.heap.size w) (Obj.cells x.cells 43))
 have HK1 := Aside0.mk hk1
 have c32 : (w.alloc (Obj.cells x.cells 43)).cell? ⟨w.heap.size, 32, none⟩ = some (.slice x.A x.ps.length x.c) := (blk_cell hk1 32).trans rfl
 have hno : Says (.returned (.bool false)) x.Light := ⟨false, rfl, fun h => by cases h⟩
 have HNO := Aside0.mk hno
 clear hr hk hk1 hno
 unfold Inp.all
 go_enter Tryz.func17, Tryz.ntmps17
 go_wp2_with (first
  | (go_at_call 74; refine (lightP_calls x.A x.c x.ps _ HR.out).mono ?_; rintro e w1 ⟨⟨r1, rfl, h1⟩, hb1⟩; have H1 := Aside0.mk h1; have HK2 := Aside0.mk ((hb1.block w.heap.size (blk_lt HK1.out)).trans HK1.out); have HB2 := Aside0.mk (below_then HB1.out HB1.out.size hb1); have HKD2 := Aside0.mk (Kd.C_below HKD.out hb1); have c33 : w1.cell? ⟨w.heap.size, 33, none⟩ = some (.slice x.t.A x.t.ts.length x.t.c) := (blk_cell HK2.out 33).trans rfl; have c38 : w1.cell? ⟨w.heap.size, 38, none⟩ = some (.slice x.k.A x.k.ds.length x.k.c) := (blk_cell HK2.out 38).trans rfl; clear h1 hb1)
  | (go_at_call 75; refine (lightD_calls x.k.A x.k.c x.k.ds _ HKD2.out).mono ?_; rintro e w2 ⟨⟨r2, rfl, h2⟩, hb2⟩; have H2 := Aside0.mk h2; have HK3 := Aside0.mk ((hb2.block w.heap.size (blk_lt HK2.out)).trans HK2.out); have HB3 := Aside0.mk (below_then HB2.out HB2.out.size hb2); have c39 : w2.cell? ⟨w.heap.size, 39, none⟩ = some (.int .i64 x.tt) := (blk_cell HK3.out 39).trans rfl; clear h2 hb2))
 all_goals (go_ret; first | exact ⟨HNO.out, HB3.out⟩ | exact ⟨HNO.out, HB2.out⟩ | exact ⟨⟨_, rfl, fun h => ⟨H1.out (by assumption), by omega, H2.out (by assumption), of_decide_eq_true h⟩⟩, HB3.out⟩)
end
end Go.Sim
end
section
set_option maxRecDepth 1000000
namespace Go.Sim
attribute [local instance] noRO
open Go.Proofs.Tryz
def cpuB0 : SHeap := cpuB (u8v 17) (.sb (.v 29)) (.int .i64 0) (.int .i64 0)
def begChk (_ : Facts) : SRes → Bool
 | .ret (.tup []) H => lieS H 0 (cpuP (u8v 17) (.sb (.v 29)) (.int .i64 0) (.int .i64 0) :: cpuR)
 | _ => false
theorem beg_tree : stree (fun F => scall0 cpuV F 103 [.ptr (some (0, 0))] cpuB0) begChk cpuV 12 [] = true := by kernel_rfl
theorem cpuB0_get {σ : Sig} (h30 : σ.v 30 = 0) (h31 : σ.v 31 = 0) (i : Nat) : (instH σ cpuB0).get i = (instH σ cpuH).get i := by
 rw [cpuH_get]
 show (instH σ (cpuB _ _ _ _)).get i = _
 rw [cpuB_get]
 have e : instR σ (cpuP (u8v 17) (.sb (.v 29)) (.int .i64 0) (.int .i64 0)) = instR σ (cpuP (u8v 17) (.sb (.v 29)) (i64v 30) (i64v 31)) := by
  have e0 : SVal.inst σ (i64v 30) = SVal.inst σ (.int .i64 0) := by show AVal.int .i64 (σ.v 30) = _; rw [h30]; rfl
  have e1 : SVal.inst σ (i64v 31) = SVal.inst σ (.int .i64 0) := by show AVal.int .i64 (σ.v 31) = _; rw [h31]; rfl
  simp only [cpuP, scrL, instR, List.cons_append, List.nil_append, instL, e0, e1]
 cases i with
 | zero => simp only [List.getElem?_cons_zero, Option.map_some, e]
 | succ n => simp only [List.getElem?_cons_succ]
theorem begin_calls {σ : Sig} (hV : cpuV.fit σ) (h30 : σ.v 30 = 0) (h31 : σ.v 31 = 0) (ρ : Ren) (w : World) (l : Loc) (hl : ρ 0 = some l) (hw : Rep ρ (instH σ cpuB0) w) :
  Calls prog 103 #[.pointer (some ⟨l.blk, l.off, none⟩)] w fun x w' => ∃ u, x = .returned u ∧ Only (foot ρ (instH σ cpuB0)) w w' ∧ ∃ ρ', ρ.le ρ' ∧ Rep ρ' (instH σ cpuH) w' := by
 obtain ⟨F', r, hF', hr, hc⟩ := stree_sound hV beg_tree (fun _ h => by cases h)
 have hrun := scall0_ok hV hF' _ _ _ _ hr
 unfold begChk at hc
 split at hc
 ·rename_i H
  refine (rep_call acall0_ok (by rfl) hrun (LR.one (.ptr hl)) hw).mono fun x w' hp => ?_
  obtain ⟨ρ', v', hx, hv, hr', hle, hon, hfr⟩ := hp
  refine ⟨v', hx, hon, cutρ ρ' 14, cutρ_ge hle hw.dom, cpu_sub hV (by rfl) hr' fun i b hi => ?_⟩
  have hi1 : (instH σ cpuH).get i = some b := hi
  rw [← cpuB0_get h30 h31] at hi1
  have hi2 : (instH σ (cpuB (u8v 17) (.sb (.v 29)) (.int .i64 0) (.int .i64 0))).get i = some b := hi1
  rw [cpuB_get] at hi2
  obtain ⟨x, hx, rfl⟩ := Option.map_eq_some_iff.1 hi2
  have := lieS_sound hc i x hx
  rw [Nat.zero_add] at this
  exact hget_inst this
 ·cases hc
end Go.Sim
end
section
set_option maxRecDepth 1000000
namespace Go.Sim
attribute [local instance] noRO
open Go.Proofs.Tryz
def preR (b : Nat) (ρm : Ren) : Ren := fun i => match i with | 0 => some ⟨b, 0, 0⟩ | i + 1 => ρm i
theorem RR_shift {ρm ρ : Ren} {r r' : Rope AVal} {c : Array Value} {off : Nat} (h : RR ρm r c off) (hz : r'.size ≤ r.size) (hs : ∀ i, i < r'.size → ∃ v', r'.get i = some v' ∧ v'.one = true ∧ ∃ v, r.get i = some v ∧ ∀ u, VR ρm v u → VR ρ v' u) : RR ρ r' c off := by
 intro i hi
 obtain ⟨v', h1, h2, v, h3, h4⟩ := hs i hi
 obtain ⟨a, u, g1, g2, g3, g4⟩ := h i (by omega)
 rw [h3] at g1
 cases g1
 exact ⟨v', u, h1, h2, g3, h4 u g4⟩
theorem ptr_shift {b : Nat} {ρm : Ren} {k : Nat} {u : Value} (h : VR ρm (.ptr (some (k, 0))) u) : VR (preR b ρm) (.ptr (some (k + 1, 0))) u := by
 cases h with
 | ptr h => exact .ptr (i := k + 1) h
theorem mem_shift {b : Nat} {ρm : Ren} (σ σm : Sig) (i : Nat) (h : i < 18) : ∃ v', (instR σ memP).get i = some v' ∧ v'.one = true ∧ ∃ v, (instR σm (memS seen1)).get i = some v ∧ ∀ u, VR ρm v u → VR (preR b ρm) v' u := by
 match i, h with
 | 0, h | 1, h | 2, h | 3, h | 4, h | 5, h | 6, h | 7, h | 8, h | 9, h | 10, h | 11, h | 12, h | 13, h | 14, h | 15, h =>
  exact ⟨_, rfl, rfl, _, rfl, fun u hu => ptr_shift hu⟩
 | 16, h | 17, h =>
  exact ⟨_, rfl, rfl, _, rfl, fun u hu => by cases hu; exact .int _ _⟩
 | n + 18, h => exact absurd h (by omega)
theorem bank_shift {ρ ρm : Ren} (σ σm : Sig) (ha : σ.a = σm.a) (n i : Nat) (h : i < 16384) : ∃ v', (instR σ (bankP n)).get i = some v' ∧ v'.one = true ∧ ∃ v, (instR σm (bankP n)).get i = some v ∧ ∀ u, VR ρm v u → VR ρ v' u := by
 have e : ∀ τ : Sig, (instR τ (bankP n)).get i = some (.int .u8 (τ.a n i)) := fun τ => by
  show (Rope.lst ((List.range 16384).map fun (i : Nat) => AVal.int .u8 (τ.a n i))).get i = _
  simp [Rope.get, h]
 refine ⟨_, e σ, rfl, _, e σm, fun u hu => ?_⟩
 rw [ha]
 cases hu; exact .int _ _
theorem rep_cpu0 {σ : Sig} {f : Nat → Int → Int} (ha : σ.a = (bankSig f).a) {ρm : Ren} {g b : Nat} {w : World} (hg : ρm 0 = some ⟨g, 0, 0⟩) (hm : Rep ρm (instH (bankSig f) (mbH seen1)) w) {cs : Array Value} (hb : w.heap[b]? = some (.cells cs 180 (0, 0)))
  (hcs : RR (preR b ρm) (instR σ (cpuP (u8v 17) (.sb (.v 29)) (.int .i64 0) (.int .i64 0))) cs 0) (hz : (instR σ (cpuP (u8v 17) (.sb (.v 29)) (.int .i64 0) (.int .i64 0))).size ≤ cs.size) (hne : ¬ foot ρm (instH (bankSig f) (mbH seen1)) b) : Rep (preR b ρm) (instH σ cpuB0) w := by
 have hget : ∀ i, (instH σ cpuB0).get i = ((cpuP (u8v 17) (.sb (.v 29)) (.int .i64 0) (.int .i64 0) :: cpuR)[i]?).map (fun r => .cells (instR σ r) 0 true) := fun i => cpuB_get σ _ _ _ _ i
 have hsh : ∀ i bi, (instH σ cpuB0).get (i + 1) = some bi → ∃ bm, (instH (bankSig f) (mbH seen1)).get i = some bm ∧ bi.wr = true ∧ bm.wr = true ∧ ∀ l o, BR ρm l bm o → BR (preR b ρm) l bi o := by
  intro i bi hi
  rw [hget, List.getElem?_cons_succ] at hi
  obtain ⟨r, hr, rfl⟩ := Option.map_eq_some_iff.1 hi
  have hil : i < 13 := (List.getElem?_eq_some_iff.1 hr).1
  have hs : ∃ s, (memS seen1 :: banksS)[i]? = some s ∧ (instR σ r).size = (instR (bankSig f) s).size ∧ ∀ k, k < (instR σ r).size → ∃ v', (instR σ r).get k = some v' ∧ v'.one = true ∧ ∃ v, (instR (bankSig f) s).get k = some v ∧ ∀ u, VR ρm v u → VR (preR b ρm) v' u := by
   have hk : ∀ n, (instR σ (bankP n)).size = 16384 := fun n => by simp [bankP, instR, Rope.size]
   have hk2 : ∀ n, (instR (bankSig f) (bankP n)).size = 16384 := fun n => by simp [bankP, instR, Rope.size]
   match i, hil, hr with
   | 0, _, hr =>
    cases hr
    exact ⟨_, rfl, rfl, fun k hk => mem_shift σ _ k hk⟩
   | 1, _, hr | 2, _, hr | 3, _, hr | 4, _, hr | 5, _, hr | 6, _, hr | 7, _, hr | 8, _, hr | 9, _, hr | 10, _, hr | 11, _, hr | 12, _, hr =>
    cases hr
    exact ⟨_, rfl, by rw [hk, hk2], fun k h => bank_shift σ _ ha _ k (by rw [hk] at h; exact h)⟩
   | n + 13, h, _ => exact absurd h (by omega)
  obtain ⟨s, h1, h2, h3⟩ := hs
  refine ⟨.cells (instR (bankSig f) s) 0 true, by rw [mbH_get, h1]; rfl, rfl, rfl, fun l o hbr => ?_⟩
  cases hbr with
  | cells hf hsz hg0 h => exact .cells hf (by rw [h2]; exact hsz) hg0 (RR_shift h (by rw [h2]; exact Nat.le_refl _) h3)
 refine ⟨fun i bi hi => ?_, fun i j bi bj li lj hi hj wi wj h1 h2 he => ?_, fun b hb => hb.elim, fun i l hi => ?_, fun b hb => hb.elim, fun b hb => (hb : False).elim⟩
 ·cases i with
  | zero =>
   rw [hget] at hi
   cases hi
   refine ⟨⟨b, 0, 0⟩, _, rfl, hb, .cells (fun _ => rfl) (by simpa using hz) (fun _ => rfl) hcs, fun _ h => h, fun h => by cases h⟩
  | succ i =>
   obtain ⟨bm, h1, h2, h2', h3⟩ := hsh i bi hi
   obtain ⟨l, o, g1, g2, g3, g4⟩ := hm.live i bm h1
   exact ⟨l, o, g1, g2, h3 l o g3, fun _ h => h, fun h => by rw [h2] at h; cases h⟩
 ·cases i with
  | zero =>
   cases j with
   | zero => rfl
   | succ j =>
    cases h1
    obtain ⟨bm, k1, _⟩ := hsh j bj hj
    exact absurd ⟨j, bm, lj, k1, h2, he.symm⟩ hne
  | succ i =>
   cases j with
   | zero =>
    cases h2
    obtain ⟨bm, k1, _⟩ := hsh i bi hi
    exact absurd ⟨i, bm, li, k1, h1, he⟩ hne
   | succ j =>
    obtain ⟨bm, k1, _, k2, _⟩ := hsh i bi hi
    obtain ⟨bm', k3, _, k4, _⟩ := hsh j bj hj
    rw [hm.inj i j bm bm' li lj k1 k3 k2 k4 h1 h2 he]
 ·cases i with
  | zero => exact Nat.succ_pos _
  | succ i =>
   have h1 : i < 13 := hm.dom i l hi
   show i + 1 < 14
   omega
end Go.Sim
end
section
namespace Go.Sim
attribute [local instance] noRO
open Go.Proofs
def Inp.cpuSig (x : Inp) : Sig := ⟨fun i => if i < 7 then x.s.v i else if i < 27 then x.v i else if i = 27 then (if x.b28 = true then 1 else 0) else if i = 28 then x.v 29 else if i = 29 then (if x.b31 = true then 1 else 0) else 0, (bankSig (bankF x.ps)).a, fun _ => (none, 0, 0), fun _ => default, fun _ => (none, 0, 0)⟩
def Inp.made (x : Inp) (g : Nat) : Array Value := #[Value.int .i64 (x.s.v 0), Value.int .i64 (x.s.v 1), Value.int .i64 (x.s.v 2), Value.int .i64 (x.s.v 3), Value.int .i64 (x.s.v 4), Value.int .i64 (x.s.v 5), Value.int .i64 (x.s.v 6), Value.int .u8 (x.v 7), Value.pointer (some ⟨g, 0, none⟩), Value.int .u8 (x.v 8), Value.int .u8 (x.v 9), Value.int .u8 (x.v 10), Value.int .u8 (x.v 11), Value.int .u8 (x.v 12), Value.int .u8 (x.v 13), Value.int .u8 (x.v 14), Value.int .u8 (x.v 15), Value.int .u8 (x.v 16), Value.int .u8 (x.v 17), Value.int .u16 (x.v 18), Value.int .u16 (x.v 19), Value.int .u16 (x.v 20), Value.int .u16 (x.v 21), Value.int .u16 (x.v 22), Value.int .u16 (x.v 23), Value.int .u16 (x.v 24), Value.int .u16 (x.v 25), Value.int .u16 (x.v 26), Value.bool x.b27, Value.bool x.b28, Value.int .i64 (x.v 29), Value.bool x.b30, Value.bool x.b31, Value.int .i64 0, Value.int .i64 0, Value.bool false, Value.slice none 0 0]
set_option maxRecDepth 100000 in
theorem Inp.cpu_rr (x : Inp) (h27 : x.b27 = false) (h30 : x.b30 = true) {g b : Nat} {ρm : Ren} (hg : ρm 0 = some ⟨g, 0, 0⟩) : RR (preR b ρm) (instR x.cpuSig (cpuP (u8v 17) (.sb (.v 29)) (.int .i64 0) (.int .i64 0))) (x.made g) 0 := by
 intro i hi
 have hi : i < 37 := hi
 match i, hi with
 | 0, _ | 1, _ | 2, _ | 3, _ | 4, _ | 5, _ | 6, _ | 7, _ | 9, _ | 10, _ | 11, _ | 12, _ | 13, _ | 14, _ | 15, _ | 16, _ | 17, _ | 18, _ | 19, _ | 20, _ | 21, _ | 22, _ | 23, _ | 24, _ | 25, _ | 26, _ | 27, _ | 30, _ | 33, _ | 34, _ => exact ⟨_, _, rfl, rfl, rfl, .int _ _⟩
 | 8, _ => exact ⟨_, _, rfl, rfl, rfl, .ptr (i := 1) (o := 0) (l := ⟨g, 0, 0⟩) hg⟩
 | 28, _ => exact ⟨_, _, rfl, rfl, rfl, by show VR _ (AVal.bool false) (Value.bool x.b27); rw [h27]; exact .bool _⟩
 | 29, _ => exact ⟨_, _, rfl, rfl, rfl, by show VR _ (AVal.bool (decide ((if x.b28 = true then (1 : Int) else 0) ≠ 0))) (Value.bool x.b28); cases x.b28 <;> exact .bool _⟩
 | 31, _ => exact ⟨_, _, rfl, rfl, rfl, by show VR _ (AVal.bool true) (Value.bool x.b30); rw [h30]; exact .bool _⟩
 | 32, _ => exact ⟨_, _, rfl, rfl, rfl, by show VR _ (AVal.bool (decide ((if x.b31 = true then (1 : Int) else 0) ≠ 0))) (Value.bool x.b31); cases x.b31 <;> exact .bool _⟩
 | 35, _ => exact ⟨_, _, rfl, rfl, rfl, .bool _⟩
 | 36, _ => exact ⟨_, _, rfl, rfl, rfl, .sliceNil⟩
 | n + 37, h => exact absurd h (by omega)
end Go.Sim
end
section
set_option maxRecDepth 1000000
namespace Go.Sim
open Go.Proofs Go.RowKit Go.Proofs.Tryz Go.Proofs.YtdppeaciahdekaaGreatW.PrintWords Go.Proofs.YtdppeaciahdekaaGreat.PLockParts
def unewChk2 (F : Facts) (r : SX × SSt) : Bool := unewChk F r && (match r.2.H.get 0 with | some (.cells r0 0 true) => sreq r0 (.lst unewS) | _ => false) && (match stget r.2.T 1 with | .ptr (some (0, 0)) => true | _ => false)
theorem unew_tree2 : stree (fun F => sexec cloneX ⟨unewV, F, LP.E⟩ 50 10 unewC ⟨unewT, unewH, []⟩) unewChk2 unewV 5 [] = true := by kernel_rfl
def unewSig (σ : Sig) (t : Tch) (A : Option Addr) (n c : Nat) : Sig := ⟨fun j => if j < 7 then σ.v j else 0, fun _ _ => 0, fun j => if j = 0 then t.o else (none, 0, 0), fun _ => default, fun j => if j = 0 then (t.A, t.ts.length, t.c) else (A, n, c)⟩
theorem tch_o (t : Tch) (i p : Nat) (h : t.o.1 = some (i, p)) : i < 2 := by
 unfold Tch.o at h
 split at h
 ·cases h
 ·simp only [Option.some.injEq, Prod.mk.injEq] at h; omega
theorem unewSig_fit {σ : Sig} (hV : V7.fit σ) (t : Tch) (A : Option Addr) (n c : Nat) : unewV.fit (unewSig σ t A n c) := by
 refine ⟨fun j => ?_, fun j i => ⟨Int.le_refl _, Int.le_refl _⟩, fun j i p e => ?_⟩
 ·show (rgAt (List.replicate 7 full64) j).has (if j < 7 then σ.v j else 0)
  by_cases hj : j < 7
  ·rw [if_pos hj]; exact hV.1 j
  ·rw [if_neg hj]
   obtain ⟨k, rfl⟩ : ∃ k, j = k + 7 := ⟨j - 7, by omega⟩
   exact ⟨Int.le_refl _, Int.le_refl _⟩
 ·have e : (if j = 0 then t.o else (none, 0, 0)).1 = some (i, p) := e
  split at e
  ·exact tch_o t i p e
  ·cases e
theorem clone_sub (σ : Sig) (t : Tch) (A : Option Addr) (n c : Nat) : CallSub (unewSig σ t A n c) cloneX (cloneP t) := by
 intro f l H r h
 unfold cloneX at h
 cases hf : Nat.beq f 105 with
 | false => rw [hf] at h; cases h
 | true =>
  rw [hf] at h
  have := Nat.eq_of_beq_eq_true hf
  subst this
  simp only [cond_true] at h
  split at h
  ·unfold SR.guard at h
   cases hg : Nat.beq H.next 1 with
   | false => rw [hg] at h; cases h
   | true =>
    rw [hg] at h
    simp only [cond_true, SR.ok.injEq] at h
    subst h
    have hn := Nat.eq_of_beq_eq_true hg
    have e1 : instL (unewSig σ t A n c) [.ovs 0] = [.vs t.A t.ts.length t.c] := rfl
    rw [e1]
    unfold cloneP piece
    rw [if_pos ⟨rfl, rfl, trivial⟩]
    congr 1
    show CRes.ret (cloneV t (instH _ H)) _ = CRes.ret ((SVal.osl 0).inst _) _
    have e2 : cloneV t (instH (unewSig σ t A n c) H) = (SVal.osl 0).inst (unewSig σ t A n c) := by
     have hn' : (instH (unewSig σ t A n c) H).next = 1 := hn
     have e3 : (SVal.osl 0).inst (unewSig σ t A n c) = .slice t.o.1 t.o.2.1 t.o.2.2 := rfl
     rw [e3]
     unfold cloneV Tch.o
     cases t.A with
     | none => rfl
     | some ad => simp only [hn']
    rw [e2]; rfl
  ·cases h
def ulaSig (σ : Sig) (t : Tch) (f : Nat → Int → Int) : Sig := ⟨fun j => if j < 7 then σ.v j else if j = 9 then 255 else 0, fun j i => if j = 0 then f 5 i else if j = 1 then f 7 i else 0, fun j => if j = 0 then t.o else (none, 0, 0), fun _ => default, fun _ => (none, 0, 0)⟩
theorem RR_of_get {ρ : Ren} {r r' : Rope AVal} {cs : Array Value} {o : Nat} (hs : r'.size = r.size) (hg : ∀ j, j < r.size → r'.get j = r.get j) (h : RR ρ r cs o) : RR ρ r' cs o := by
 intro j hj
 rw [hs] at hj
 obtain ⟨a, v, h1, h2⟩ := h j hj
 exact ⟨a, v, by rw [hg j hj]; exact h1, h2⟩
theorem tail_eq (σ : Sig) (t : Tch) (A : Option Addr) (n c k : Nat) (hk : k < 7) : (instL (ulaSig σ t fun _ _ => 0) [.bool false, .int .u8 7, .int .u8 0, .int .u8 0, u8v 9, i64v 7, i64v 8])[k]? = (instL (unewSig σ t A n c) [.bool false, .int .u8 7, .int .u8 0, .int .u8 0, .int .u8 255, .int .i64 0, .int .i64 0])[k]? := by
 match k with
 | 0 | 1 | 2 | 3 | 4 | 5 | 6 => rfl
 | k + 7 => omega
theorem head_eq (σ : Sig) (t : Tch) (A : Option Addr) (n c k : Nat) (hk : k < 8) : (instL (ulaSig σ t fun _ _ => 0) (scrL ++ [.osl 0]))[k]? = (instL (unewSig σ t A n c) (scrL ++ [.osl 0]))[k]? := by
 match k with
 | 0 | 1 | 2 | 3 | 4 | 5 | 6 | 7 => rfl
 | k + 8 => omega
theorem mid_eq (f : Nat → AVal) (N k : Nat) (a : AVal) (h : k < N) (hf : ∀ i, f i = a) : ((List.range N).map f)[k]? = some a := by simp [h, hf]
theorem ula_get_eq (σ : Sig) (t : Tch) (A : Option Addr) (n c : Nat) (j : Nat) (hj : j < 32783) : (instR (ulaSig σ t fun _ _ => 0) (ulaP (u8v 9) (i64v 7) (i64v 8))).get j = (instR (unewSig σ t A n c) unewR).get j := by
 unfold ulaP unewR
 simp only [instR, Rope.get]
 by_cases h1 : j < 8
 ·rw [if_pos h1, if_pos h1]
  exact head_eq σ t A n c j h1
 ·rw [if_neg h1, if_neg h1]
  by_cases h2 : j - 8 < 16384
  ·have h4 : j - 8 < 32768 := by omega
   rw [if_pos h2, if_pos h4, if_pos h4]
   exact mid_eq _ _ _ _ h2 fun i => rfl
  ·rw [if_neg h2]
   by_cases h3 : j - 8 - 16384 < 16384
   ·have h4 : j - 8 < 32768 := by omega
    rw [if_pos h3, if_pos h4, if_pos h4]
    exact mid_eq _ _ _ _ h3 fun i => rfl
   ·have h4 : ¬ j - 8 < 32768 := by omega
    rw [if_neg h3, if_neg h4]
    have e : j - 8 - 16384 - 16384 = j - 8 - 32768 := by omega
    rw [e]
    exact tail_eq σ t A n c (j - 8 - 32768) (by omega)
end Go.Sim
end
section
set_option maxRecDepth 1000000
namespace Go.Sim
open Go.Proofs Go.RowKit Go.Proofs.Tryz Go.Proofs.YtdppeaciahdekaaGreatW.PrintWords Go.Proofs.YtdppeaciahdekaaGreat.PLockParts
theorem junkT_get (n t : Nat) : (junkT n).get t = if t < n then some .junk else none := by
 unfold junkT
 induction n with
 | zero => rw [if_neg (by omega)]; exact Trie.get_leaf t
 | succ n ih =>
  rw [List.range_succ, List.foldl_append]
  show (Trie.set _ n (some SVal.junk)).get t = _
  rw [Trie.get_set, ih]
  by_cases h : n = t
  ·rw [if_pos h, if_pos (by omega)]
  ·rw [if_neg h]
   by_cases h2 : t < n
   ·rw [if_pos h2, if_pos (by omega)]
   ·rw [if_neg h2, if_neg (by omega)]
theorem tget_T (σ : Sig) (T : STmps) (t : Nat) : tget (instT σ T) t = (stget T t).inst σ := by
 unfold tget stget instT
 rw [Trie.get_map]
 cases T.get t <;> rfl
theorem tr_of [RO] {ρ : Ren} {σ : Sig} {n : Nat} {tmps : Array Value} (hn : tmps.size = n) : ∀ (l : List (Nat × SVal)), (∀ p ∈ l, p.1 < n ∧ VR ρ (p.2.inst σ) (tmps.getD p.1 Go.undef)) → TR ρ (instT σ (l.foldr (fun p T => T.set p.1 (some p.2)) (junkT n))) tmps
 | [], _ => fun t => by
  rw [tget_T]
  simp only [List.foldr_nil, stget]
  rw [junkT_get]
  by_cases h : t < n
  ·rw [if_pos h]; exact .junk _
  ·rw [if_neg h]
   have : tmps.getD t Go.undef = Go.undef := by
    rw [Array.getD_eq_getD_getElem?, Array.getElem?_eq_none (by omega)]; rfl
   rw [this]; exact VR.undef ρ
 | p :: l, h => fun t => by
  have ih := tr_of hn l (fun q hq => h q (List.mem_cons_of_mem _ hq)) t
  rw [tget_T] at ih ⊢
  simp only [List.foldr_cons, stget] at ih ⊢
  rw [Trie.get_set]
  by_cases e : p.1 = t
  ·rw [if_pos e]; subst e; exact (h p List.mem_cons_self).2
  ·rw [if_neg e]; exact ih
theorem cells10 [RO] {ρ : Ren} (σ : Sig) (t : Tch) (A : Option Addr) (n c : Nat) : RR ρ (instR (unewSig σ t A n c) (.lst unewS)) #[.int .i64 (σ.v 0), .int .i64 (σ.v 1), .int .i64 (σ.v 2), .int .i64 (σ.v 3), .int .i64 (σ.v 4), .int .i64 (σ.v 5), .int .i64 (σ.v 6), .slice t.A t.ts.length t.c, .slice A n c, .bool false] 0 := by
 intro j hj
 rw [SRope.size_inst] at hj
 have hj : j < 10 := hj
 match j with
 | 0 | 1 | 2 | 3 | 4 | 5 | 6 => exact ⟨_, _, rfl, rfl, rfl, .int _ _⟩
 | 7 => exact ⟨_, _, rfl, rfl, rfl, .vs _ _ _⟩
 | 8 => exact ⟨_, _, rfl, rfl, rfl, .vs _ _ _⟩
 | 9 => exact ⟨_, _, rfl, rfl, rfl, .bool _⟩
 | k + 10 => omega
theorem ula_cell (σ : Sig) (t : Tch) (f : Nat → Int → Int) (j : Nat) (a : AVal) (h : (instR (ulaSig σ t f) (ulaP (u8v 9) (i64v 7) (i64v 8))).get j = some a) : (∃ k n, a = .int k n) ∨ (∃ b, a = .bool b) ∨ a = .slice t.o.1 t.o.2.1 t.o.2.2 := by
 have mid : ∀ (g : Nat → Int) (N k : Nat), ((List.range N).map fun (i : Nat) => AVal.int .u8 (g i))[k]? = some a → ∃ k n, a = .int k n := by
  intro g N k h
  rw [List.getElem?_map] at h
  obtain ⟨x, _, rfl⟩ := Option.map_eq_some_iff.1 h
  exact ⟨_, _, rfl⟩
 unfold ulaP at h
 simp only [instR, Rope.get] at h
 split at h
 ·rename_i h1
  match j with
  | 0 | 1 | 2 | 3 | 4 | 5 | 6 => cases h; exact .inl ⟨_, _, rfl⟩
  | 7 => cases h; exact .inr (.inr rfl)
  | k + 8 => omega
 ·split at h
  ·exact .inl (mid _ _ _ h)
  ·split at h
   ·exact .inl (mid _ _ _ h)
   ·generalize j - 8 - 16384 - 16384 = k at h
    match k with
    | 0 => cases h; exact .inr (.inl ⟨_, rfl⟩)
    | 1 | 2 | 3 | 4 | 5 | 6 => cases h; exact .inl ⟨_, _, rfl⟩
    | k + 7 => cases h
theorem ulaSig_fit {σ : Sig} (hV : V7.fit σ) (hs : ∀ i, i < 7 → (rgAt scrV i).has (σ.v i)) (t : Tch) {f : Nat → Int → Int} (hf : ∀ b i, 0 ≤ f b i ∧ f b i ≤ 255) : ulaV.fit (ulaSig σ t f) := by
 refine ⟨fun j => ?_, fun j i => ?_, fun j i p e => ?_⟩
 ·match j with
  | 0 => exact hs 0 (by omega)
  | 1 => exact hs 1 (by omega)
  | 2 => exact hs 2 (by omega)
  | 3 => exact hs 3 (by omega)
  | 4 => exact hs 4 (by omega)
  | 5 => exact hs 5 (by omega)
  | 6 => exact hs 6 (by omega)
  | 7 => exact ⟨Int.le_refl _, by show (0 : Int) ≤ 16777216; omega⟩
  | 8 => exact ⟨Int.le_refl _, by show (0 : Int) ≤ 16777216; omega⟩
  | 9 => exact ⟨by show (0 : Int) ≤ 255; omega, Int.le_refl _⟩
  | k + 10 => exact ⟨Int.le_refl _, Int.le_refl _⟩
 ·match j with
  | 0 => exact hf 5 i
  | 1 => exact hf 7 i
  | k + 2 => exact ⟨Int.le_refl _, Int.le_refl _⟩
 ·have e : (if j = 0 then t.o else (none, 0, 0)).1 = some (i, p) := e
  split at e
  ·exact tch_o t i p e
  ·cases e
theorem ula_lies {σ : Sig} (hV : V7.fit σ) (t : Tch) {f : Nat → Int → Int} (hf : ∀ b i, 0 ≤ f b i ∧ f b i ≤ 255) {ρ' : Ren} {w' : World} {l : Loc} {o : Obj} (hl : ρ' 1001 = some l) (ho : w'.heap[l.blk]? = some o)
  (hbr : BR ρ' l (.cells (instR (ulaSig σ t f) (ulaP (u8v 9) (i64v 7) (i64v 8))) 0 true) o) : Rep (pullρ ρ' (fun i => if i = 0 then 1001 else i) 2) (instH (ulaSig σ t f) ulaH) w' := by
 letI : RO := noRO
 refine ⟨fun i b hi => ?_, fun i j bi bj li lj hi hj hwi hwj hli hlj e => ?_, fun b (h : False) => h.elim, fun i l h => ?_, fun b (h : False) => h.elim, fun b (h : False) => h.elim⟩
 ·rw [ulaH_get] at hi
  split at hi
  ·rename_i h0
   subst h0
   simp only [Option.some.injEq] at hi
   subst hi
   refine ⟨l, o, by unfold pullρ; rw [if_pos (by omega)]; exact hl, ho, ?_, fun _ h => h, fun h => by cases h⟩
   cases hbr with
   | cells hf' hsz hg hr =>
    refine .cells hf' hsz hg fun j hj => ?_
    obtain ⟨a, v, y1, y2, y3, y4⟩ := hr j hj
    refine ⟨a, v, y1, y2, y3, ?_⟩
    rcases ula_cell σ t f j a y1 with ⟨k, n, rfl⟩ | ⟨b, rfl⟩ | rfl
    ·cases y4; exact .int _ _
    ·cases y4; exact .bool _
    ·unfold Tch.o at y4 ⊢
     split at y4
     ·cases y4; exact .sliceNil
     ·cases y4 with
      | slice h => exact .slice (by unfold pullρ; rw [if_pos (by omega)]; exact h)
  ·cases hi
 ·rw [ulaH_get] at hi hj
  split at hi
  ·split at hj
   ·omega
   ·cases hj
  ·cases hi
 ·unfold pullρ at h
  split at h
  ·assumption
  ·cases h
theorem unew_region {σ : Sig} (hV : V7.fit σ) (t : Tch) (A : Option Addr) (n c : Nat) {w0 w : World} (ht : t.lies w0) (hB : Below w0.heap.size w0 w) {pb : Nat} (hp0 : w0.heap.size ≤ pb)
  (hpb : w.heap[pb]? = some (.cells #[.int .i64 (σ.v 0), .int .i64 (σ.v 1), .int .i64 (σ.v 2), .int .i64 (σ.v 3), .int .i64 (σ.v 4), .int .i64 (σ.v 5), .int .i64 (σ.v 6), .slice t.A t.ts.length t.c, .slice A n c, .bool false] 105 (0, 0)))
  {a : Act} (hn : a.tmps.size = 50) (h1 : a.tmps.getD 1 Go.undef = .pointer (some ⟨pb, 0, none⟩)) (hd : a.defers = []) {cd : Code} (hc : codeOK prog LP.E cd unewC = true) :
  cd.wp prog (fun e a' w' => e = .normal ∧ a'.defers = [] ∧ a'.tmps.size = 50 ∧ a'.tmps.getD 1 Go.undef = .pointer (some ⟨pb, 0, none⟩) ∧ w'.cell? ⟨pb, 8, none⟩ = some (.slice A n c) ∧ Only (fun b => b = pb) w w' ∧
   ∃ (ρ : Ren) (l : Loc), a'.tmps.getD 5 Go.undef = .pointer (some ⟨l.blk, l.off, none⟩) ∧ ρ 0 = some l ∧ w.heap.size ≤ l.blk ∧ Rep ρ (instH (ulaSig σ t fun _ _ => 0) ulaH) w') a w := by
 letI : RO := roW w0
 let K : Nat → Prop := fun b => b < w.heap.size ∧ b ≠ pb
 let ρ : Ren := fun i => if i = 0 then some ⟨pb, 0, 0⟩ else none
 have hget : ∀ i, (instH (unewSig σ t A n c) unewH).get i = if i = 0 then some (.cells (instR (unewSig σ t A n c) (.lst unewS)) 0 true) else none := by
  intro i
  show (unewH.tree.mapv (instB _)).get i = _
  rw [Trie.get_map]
  show (((Trie.leaf : Trie SBlk).set 0 _).get i).map _ = _
  rw [Trie.get_set]
  by_cases h : i = 0
  ·subst h; rfl
  ·rw [if_neg (by omega), if_neg h, Trie.get_leaf]; rfl
 have hplt : pb < w.heap.size := (Array.getElem?_eq_some_iff.1 hpb).1
 have hw : WR K ρ (instH (unewSig σ t A n c) unewH) w := by
  refine ⟨fun i b hi => ?_, fun i j bi bj li lj hi hj hwi hwj hli hlj e => ?_, fun b hb => ⟨Nat.lt_of_lt_of_le hb hB.size, by have hb : b < w0.heap.size := hb; omega⟩, fun i l h => ?_, fun b hb => hb.1, fun b hb => hB.block b hb⟩
  ·rw [hget] at hi
   split at hi
   ·rename_i h0
    subst h0
    simp only [Option.some.injEq] at hi
    subst hi
    exact ⟨⟨pb, 0, 0⟩, _, if_pos rfl, hpb, .cells (fun _ => rfl) (by rw [SRope.size_inst]; simp [unewS, scrL, SRope.size]) (fun _ => rfl) (cells10 σ t A n c), fun _ h => h.2 rfl, fun h => by cases h⟩
   ·cases hi
  ·rw [hget] at hi hj
   split at hi
   ·split at hj
    ·omega
    ·cases hj
   ·cases hi
  ·show i < 1
   by_cases hi : i = 0
   ·omega
   ·have : (if i = 0 then some (⟨pb, 0, 0⟩ : Loc) else none) = some l := h
    rw [if_neg hi] at this; cases this
 have hT : TR ρ (instT (unewSig σ t A n c) unewT) a.tmps := by
  have := tr_of (ρ := ρ) (σ := unewSig σ t A n c) hn [(1, .ptr (some (0, 0)))] (fun p hp => by
   simp only [List.mem_singleton] at hp
   subst hp
   refine ⟨by omega, ?_⟩
   show VR ρ (.ptr (some (0, 0))) (a.tmps.getD 1 Go.undef)
   rw [h1]
   have h2 : ρ 0 = some ⟨pb, 0, 0⟩ := rfl
   exact VR.ptr (o := 0) h2)
  exact this
 obtain ⟨F, x, s', hF, hck, hwp⟩ := frag (unewSig_fit hV t A n c) (cloneP_ok ht) (fun F _ => clone_sub σ t A n c) unew_tree2 (fun _ h => by cases h) hc hw hT hn hd
 refine Code.wp_mono ?_ hwp
 rintro e a' w' ⟨ρ', hP, hT', hn', hD', hX⟩
 unfold unewChk2 at hck
 simp only [Bool.and_eq_true] at hck
 obtain ⟨⟨c1, c2⟩, c3⟩ := hck
 unfold unewChk at c1
 split at c1
 ·rename_i s heq
  obtain ⟨rfl, rfl⟩ := Prod.mk.inj heq
  split at c1
  ·rename_i j h5 hDD
   simp only [Bool.and_eq_true] at c1
   obtain ⟨cj, c1⟩ := c1
   have cj := Nat.eq_of_beq_eq_true cj
   subst cj
   split at c1
   ·rename_i r hr
    have c1 := sreq_sound c1
    subst c1
    split at c2
    ·rename_i r0 hr0
     have c2 := sreq_sound c2
     subst c2
     split at c3
     ·rename_i hs1
      have g1001 : (instH (unewSig σ t A n c) s'.H).get 1001 = some (.cells (instR (unewSig σ t A n c) unewR) 0 true) := hget_inst hr
      have g0 : (instH (unewSig σ t A n c) s'.H).get 0 = some (.cells (instR (unewSig σ t A n c) (.lst unewS)) 0 true) := hget_inst hr0
      obtain ⟨l, o, hl, ho, hbr, hk⟩ := hP.wr.live 1001 _ g1001
      have hρ0 : ρ' 0 = some ⟨pb, 0, 0⟩ := hP.le 0 _ rfl
      have t5 := hT' 5
      rw [show tget (instS (unewSig σ t A n c) s').T 5 = tget (instT (unewSig σ t A n c) s'.T) 5 from rfl, tget_T, h5] at t5
      have t1 := hT' 1
      rw [show tget (instS (unewSig σ t A n c) s').T 1 = tget (instT (unewSig σ t A n c) s'.T) 1 from rfl, tget_T, hs1] at t1
      have hlb : w.heap.size ≤ l.blk := by
       have h1 := hk.1 rfl
       have hne : l.blk ≠ pb := by
        intro e
        have := hP.wr.inj 1001 0 _ _ l ⟨pb, 0, 0⟩ g1001 g0 rfl rfl hl hρ0 e
        omega
       rcases Nat.lt_or_ge l.blk w.heap.size with h2 | h2
       ·exact absurd ⟨h2, hne⟩ h1
       ·exact h2
      refine ⟨?_, ?_, hn', ?_, ?_, ⟨fun b hb hnb => hP.keep b ⟨hb, hnb⟩, hP.size⟩, pullρ ρ' (fun i => if i = 0 then 1001 else i) 2, l, ?_, hl, hlb, ?_⟩
      ·exact hX
      ·have hD2 : DR LP.E ρ' (instS (unewSig σ t A n c) s').D a'.defers := hD'
       have : (instS (unewSig σ t A n c) s').D = [] := by show (s'.D.map _) = []; rw [hDD]; rfl
       rw [this] at hD2
       generalize a'.defers = dd at hD2
       cases hD2; rfl
      ·have t1' : VR ρ' (.ptr (some (0, 0))) (a'.tmps.getD 1 Go.undef) := t1
       generalize a'.tmps.getD 1 Go.undef = v1 at t1'
       cases t1' with
       | ptr h => rw [hρ0] at h; cases h; rfl
      ·obtain ⟨cs, ty, fr, q1, q2, q3, q4, q5, q6⟩ := WR.row hP.wr g0 hρ0
       obtain ⟨x8, v8, y1, y2, y3, y4⟩ := q4 8 (by rw [SRope.size_inst]; decide)
       have e8 : x8 = .vs A n c := by
        have : (instR (unewSig σ t A n c) (.lst unewS)).get 8 = some (.vs A n c) := rfl
        rw [this] at y1; exact (Option.some.inj y1).symm
       subst e8
       cases y4
       have q1' : w'.heap[pb]? = some (.cells cs ty fr) := q1
       simpa [World.cell?, q1'] using y3
      ·have t5' : VR ρ' (.ptr (some (1001, 0))) (a'.tmps.getD 5 Go.undef) := t5
       generalize a'.tmps.getD 5 Go.undef = v5 at t5'
       cases t5' with
       | ptr h => rw [hl] at h; cases h; rfl
      ·exact ula_lies hV t (f := fun _ _ => 0) (fun _ _ => ⟨Int.le_refl _, by omega⟩) hl ho (by
        cases hbr with
        | cells hf hsz hg hr => exact .cells hf (by rw [SRope.size_inst] at hsz ⊢; exact hsz) hg (RR_of_get (by rw [SRope.size_inst, SRope.size_inst]; rfl) (fun j hj => ula_get_eq σ t A n c j (by rw [SRope.size_inst] at hj; exact hj)) hr))
     ·cases c3
    ·cases c2
   ·cases c1
  ·cases c1
 ·cases c1
end Go.Sim
end
section
set_option maxRecDepth 1000000
namespace Go.Sim
attribute [local instance] noRO
open Go.Proofs.Tryz Go.RowKit Go.Proofs
def ayArg : List SVal := [.agg (.lst [i64v 0])]
def H00 : SHeap := ⟨0, .leaf⟩
def ayR0 : SRope SVal := ayP z64 z64 z64 z64 (.int .u32 1) z64 z64
def numS : SVal → Bool
 | .int _ _ | .sym _ _ => true
 | _ => false
def ayNewChk (_ : Facts) : SRes → Bool
 | .ret (.tup [.ptr (some (2, 0)), .int .i64 0]) H => (match H.get 2 with
  | some (.cells r 0 true) => Nat.beq r.size 34 && (List.range 34).all fun i => match r.get i, ayR0.get i with | some a, some b => sveq a b && numS b | _, _ => false
  | _ => false)
 | _ => false
theorem ayNew_tree : stree (fun F => scall0 ayV F 52 ayArg H00) ayNewChk ayV 12 [] = true := by kernel_rfl
theorem num_any {σ : Sig} {b : SVal} (h : numS b = true) : (b.inst σ).one = true ∧ ∀ (ρ ρ' : Ren) u, VR ρ' (b.inst σ) u → VR ρ (b.inst σ) u := by
 unfold numS at h
 split at h
 ·exact ⟨rfl, fun ρ ρ' u h => by cases h; exact .int _ _⟩
 ·exact ⟨rfl, fun ρ ρ' u h => by cases h; exact .int _ _⟩
 ·cases h
theorem rep_none (w : World) : Rep (fun _ => none) ⟨0, .leaf⟩ w := by
 refine ⟨fun i b hb => ?_, fun i j bi bj li lj hi => ?_, fun b (hb : False) => hb.elim, fun i l h => (by cases h), fun b (hb : False) => hb.elim, fun b (hb : False) => hb.elim⟩
 ·simp only [AHeap.get, Trie.get_leaf] at hb; cases hb
 ·simp only [AHeap.get, Trie.get_leaf] at hi; cases hi
theorem rep_alone {ρ' : Ren} {H' : AHeap} {w : World} (hw : Rep ρ' H' w) {k : Nat} {r : Rope AVal} (hb : H'.get k = some (.cells r 0 true)) {l : Loc} (hl : ρ' k = some l) {σ : Sig} {n : Nat} {r' : SRope SVal} (hn : 0 < n) {ρ : Ren} (h0 : ρ 0 = some l) (hd : ∀ i l, ρ i = some l → i < n)
  (hz : (instR σ r').size ≤ r.size) (hg : ∀ i, i < (instR σ r').size → ∃ v', (instR σ r').get i = some v' ∧ v'.one = true ∧ ∃ v, r.get i = some v ∧ ∀ u, VR ρ' v u → VR ρ v' u) : Rep ρ (instH σ (oneS n r')) w := by
 obtain ⟨c, t, fr, h1, h2, h3, h4, h5, h6⟩ := WR.row hw hb hl
 refine ⟨fun i b hb => ?_, fun i j bi bj li lj hi hj _ _ _ _ _ => ?_, fun b hb => hb.elim, hd, fun b hb => hb.elim, fun b hb => (hb : False).elim⟩
 ·rw [oneS_get] at hb
  split at hb
  ·rename_i h
   subst h
   simp only [Option.some.injEq] at hb
   subst hb
   exact ⟨l, _, h0, h1, .cells h6 (by simp only [Nat.mul_zero] at h2 ⊢; omega) h3 (RR_shift h4 hz hg), fun _ h => h, fun h => by cases h⟩
  ·cases hb
 ·rw [oneS_get] at hi hj
  split at hi
  ·rename_i e
   split at hj
   ·rename_i e'; rw [e, e']
   ·cases hj
  ·cases hi
def aySig (a : Int) : Sig := ⟨fun j => if j = 0 then a else if j = 5 then 1 else 0, fun _ _ => 0, fun _ => (none, 0, 0), fun _ => default, fun _ => (none, 0, 0)⟩
theorem aySig_fit {a : Int} (h1 : 1 ≤ a) (h2 : a ≤ 65536) : ayV.fit (aySig a) := by
 refine ⟨fun j => ?_, fun j i => ⟨Int.le_refl _, Int.le_refl _⟩, fun j i p e => by cases e⟩
 match j with
 | 0 => exact ⟨h1, h2⟩
 | 1 => exact ⟨Int.le_refl _, by show (0 : Int) ≤ 16777216; decide⟩
 | 2 | 3 | 4 | 7 => exact ⟨Int.le_refl _, by show (0 : Int) ≤ 1; decide⟩
 | 6 => exact ⟨Int.le_refl _, by show (0 : Int) ≤ 16; decide⟩
 | 5 => exact ⟨by show (0 : Int) ≤ 1; decide, by show (1 : Int) ≤ 131071; decide⟩
 | _ + 8 => exact ⟨Int.le_refl _, Int.le_refl _⟩
theorem ay_new_calls {a : Int} (h1 : 1 ≤ a) (h2 : a ≤ 65536) (w : World) :
  Calls prog 52 #[.agg #[.int .i64 a]] w fun e w' => ∃ (ρ : Ren) (l : Loc), e = .returned (.tuple #[.pointer (some ⟨l.blk, l.off, none⟩), .int .i64 0]) ∧ ρ 0 = some l ∧ w.heap.size ≤ l.blk ∧ Rep ρ (instH (aySig a) ayH) w' ∧ Below w.heap.size w w' := by
 have hV := aySig_fit h1 h2
 obtain ⟨F', r, hF', hr, hc⟩ := stree_sound hV ayNew_tree (fun _ h => by cases h)
 have hrun := scall0_ok hV hF' _ _ _ _ hr
 unfold ayNewChk at hc
 split at hc
 ·rename_i H
  split at hc
  ·rename_i r hb
   simp only [Bool.and_eq_true, List.all_eq_true] at hc
   obtain ⟨hz, hcell⟩ := hc
   have hz := Nat.eq_of_beq_eq_true hz
   have hl : LR (fun _ => none) (instL (aySig a) ayArg) #[.agg #[.int .i64 a]] := LR.one (.agg rfl (fun i hi => by
    have hi : i < 1 := hi
    have : i = 0 := by omega
    subst this; exact ⟨_, rfl, rfl⟩) (fun i x v hx hv => by
    have hi : i < 1 := (Array.getElem?_eq_some_iff.1 hv).1
    have : i = 0 := by omega
    subst this; cases hx; cases hv; exact .int _ _))
   refine (rep_call acall0_ok (by rfl) hrun hl (rep_none w)).mono fun x w' hp => ?_
   obtain ⟨ρ', v', hx, hv, hr', hle, hon, hfr⟩ := hp
   obtain ⟨y, z, rfl, hy, hz'⟩ := tup2_inv hv
   have hz' : z = .int .i64 0 := by cases hz'; rfl
   subst hz'
   cases hy with
   | ptr hl2 =>
    rename_i l
    have hlb : w.heap.size ≤ l.blk := by
     rcases hfr l.blk ⟨2, _, l, hget_inst hb, hl2, rfl⟩ with ⟨i, bi, l', g1, _⟩ | h
     ·simp only [AHeap.get, Trie.get_leaf] at g1
      cases g1
     ·exact h
    have hq := rep_alone (σ := aySig a) (n := 1) (r' := ayR0) (ρ := fun i => if i = 0 then some l else none) hr' (hget_inst hb) hl2 (by omega) (if_pos rfl) (fun i l h => by
     by_cases hi : i = 0
     ·omega
     ·simp only [if_neg hi] at h; cases h) (by rw [SRope.size_inst, SRope.size_inst, hz]; exact Nat.le_refl 34) (fun i hi => by
     have hi : i < 34 := hi
     have hci := hcell i (List.mem_range.2 hi)
     split at hci
     ·rename_i b b' e1 e2
      simp only [Bool.and_eq_true] at hci
      have := sveq_sound hci.1
      subst this
      obtain ⟨n1, n2⟩ := num_any (σ := aySig a) hci.2
      exact ⟨_, SRope.get_inst _ _ _ _ e2, n1, _, SRope.get_inst _ _ _ _ e1, fun u hu => n2 _ _ u hu⟩
     ·cases hci)
    exact ⟨_, l, by rw [hx]; rfl, if_pos rfl, hlb, hq, hon.below (Nat.le_refl _) fun b hb => by
     obtain ⟨i, bi, l', g1, _⟩ := hb
     simp only [AHeap.get, Trie.get_leaf] at g1
     cases g1⟩
  ·cases hc
 ·cases hc
end Go.Sim
end
section
set_option maxRecDepth 1000000
namespace Go.Sim
attribute [local instance] noRO
open Go.Proofs
structure Inp.typed (x : Inp) : Prop where
 s : V7.fit x.s
 b : ∀ j, 7 ≤ j → j < 18 → 0 ≤ x.v j ∧ x.v j ≤ 255
 w : ∀ j, 18 ≤ j → j < 27 → 0 ≤ x.v j ∧ x.v j ≤ 65535
 bk : byOK x.ps
theorem or4_zero {a b c d : Int} (h : or4 a b c d = 0) : a = 0 ∧ b = 0 ∧ c = 0 ∧ d = 0 := by
 unfold or4 at h
 by_cases ha : a = 0
 ·rw [if_neg (not_not_intro ha)] at h
  by_cases hb : b = 0
  ·rw [if_neg (not_not_intro hb)] at h
   by_cases hc : c = 0
   ·rw [if_neg (not_not_intro hc)] at h
    exact ⟨ha, hb, hc, h⟩
   ·rw [if_pos hc] at h; exact absurd h hc
  ·rw [if_pos hb] at h; exact absurd h hb
 ·rw [if_pos ha] at h; exact absurd h ha
structure Inp.Fine (x : Inp) (n kk : Int) : Prop where
 n : n = 0
 kk : kk = 0
 setup : setupF 0 (x.v 29) x.ps = 0
 im : 0 ≤ x.v 29 ∧ x.v 29 ≤ 2
 pat : pchk x.ps = 0
 ay : 1 ≤ x.ay ∧ x.ay ≤ 65536
 dsk : dskChk x.f0 x.f1 x.fb x.k.ds = 0
 tt : 0 ≤ x.tt
theorem code_zero {x : Inp} {n kk : Int} (h : x.code n kk = 0) : x.Fine n kk := by
 unfold Inp.code at h
 by_cases hc : x.chk n kk = 0
 ·rw [if_neg (not_not_intro hc)] at h
  obtain ⟨h1, h2, h3, h4⟩ := or4_zero hc
  have hn : n = 0 := by
   unfold setupF at h1
   by_cases hn : n = 0
   ·exact hn
   ·rw [if_neg hn] at h1; exact h1
  subst hn
  have h1' := h1
  unfold setupF at h1
  rw [if_pos rfl] at h1
  have hi : imchk (x.v 29) = 0 := by
   by_cases hi : imchk (x.v 29) = 0
   ·exact hi
   ·rw [if_neg hi] at h1; exact h1
  rw [if_pos hi] at h1
  have him : 0 ≤ x.v 29 ∧ x.v 29 ≤ 2 := by
   unfold imchk at hi
   by_cases c1 : x.v 29 < 0
   ·rw [if_pos c1] at hi; omega
   ·by_cases c2 : x.v 29 > 2
    ·rw [if_neg c1, if_pos c2] at hi; omega
    ·omega
  have hay : 1 ≤ x.ay ∧ x.ay ≤ 65536 := by
   unfold ayK at h3
   by_cases c1 : x.ay < 1
   ·rw [if_pos c1] at h3; omega
   ·by_cases c2 : x.ay > 65536
    ·rw [if_neg c1, if_pos c2] at h3; omega
    ·omega
  have htt : 0 ≤ x.tt := by
   by_cases c1 : x.tt < 0
   ·rw [if_pos c1] at h; omega
   ·omega
  exact ⟨rfl, h2, h1', him, h1, hay, h4, htt⟩
 ·rw [if_pos hc] at h; exact absurd h hc
theorem scr_hold_of {σ τ : Sig} (h : ∀ i, i < 7 → τ.v i = σ.v i) (hs : scrF.hold σ) : scrF.hold τ := by
 intro f hf
 have h2 := hs f hf
 have e0 := h 0 (by omega)
 have e1 := h 1 (by omega)
 have e2 := h 2 (by omega)
 have e3 := h 3 (by omega)
 have e4 := h 4 (by omega)
 have e5 := h 5 (by omega)
 have e6 := h 6 (by omega)
 simp only [scrF, List.mem_cons, List.not_mem_nil, or_false] at hf
 rcases hf with rfl | rfl | rfl | rfl | rfl | rfl <;> simpa [eqF, ltF, Atom.holds, Sx.ev, i64b, litS, e0, e1, e2, e3, e4, e5, e6] using h2
theorem Inp.cpu_fit (x : Inp) (ht : x.typed) (hs : ScrOK x.s) (him : 0 ≤ x.v 29 ∧ x.v 29 ≤ 2) : cpuV.fit x.cpuSig := by
 have hf := bankF_rg ht.bk
 refine ⟨fun j => ?_, fun j i => ?_, fun j i p e => by cases e⟩
 ·match j with
  | 0 => exact hs.rg 0 (by omega)
  | 1 => exact hs.rg 1 (by omega)
  | 2 => exact hs.rg 2 (by omega)
  | 3 => exact hs.rg 3 (by omega)
  | 4 => exact hs.rg 4 (by omega)
  | 5 => exact hs.rg 5 (by omega)
  | 6 => exact hs.rg 6 (by omega)
  | 7 => exact ht.b 7 (by omega) (by omega)
  | 8 => exact ht.b 8 (by omega) (by omega)
  | 9 => exact ht.b 9 (by omega) (by omega)
  | 10 => exact ht.b 10 (by omega) (by omega)
  | 11 => exact ht.b 11 (by omega) (by omega)
  | 12 => exact ht.b 12 (by omega) (by omega)
  | 13 => exact ht.b 13 (by omega) (by omega)
  | 14 => exact ht.b 14 (by omega) (by omega)
  | 15 => exact ht.b 15 (by omega) (by omega)
  | 16 => exact ht.b 16 (by omega) (by omega)
  | 17 => exact ht.b 17 (by omega) (by omega)
  | 18 => exact ht.w 18 (by omega) (by omega)
  | 19 => exact ht.w 19 (by omega) (by omega)
  | 20 => exact ht.w 20 (by omega) (by omega)
  | 21 => exact ht.w 21 (by omega) (by omega)
  | 22 => exact ht.w 22 (by omega) (by omega)
  | 23 => exact ht.w 23 (by omega) (by omega)
  | 24 => exact ht.w 24 (by omega) (by omega)
  | 25 => exact ht.w 25 (by omega) (by omega)
  | 26 => exact ht.w 26 (by omega) (by omega)
  | 27 => show Rg.has ⟨0, 1⟩ (if x.b28 = true then (1 : Int) else 0); cases x.b28 <;> exact ⟨by decide, by decide⟩
  | 28 => exact him
  | 29 => show Rg.has ⟨0, 1⟩ (if x.b31 = true then (1 : Int) else 0); cases x.b31 <;> exact ⟨by decide, by decide⟩
  | 30 => exact ⟨Int.le_refl _, by show (0 : Int) ≤ 16777216; decide⟩
  | 31 => exact ⟨Int.le_refl _, by show (0 : Int) ≤ 16777216; decide⟩
  | k + 32 => exact ⟨Int.le_refl _, Int.le_refl _⟩
 ·have h := hf j i
  show Rg.has _ (if j < 12 then bankF x.ps j i else 0)
  by_cases hj : j < 12
  ·rw [if_pos hj]
   match j, hj with
   | 0, _ | 1, _ | 2, _ | 3, _ | 4, _ | 5, _ | 6, _ | 7, _ | 8, _ | 9, _ | 10, _ | 11, _ => exact h
   | n + 12, h => exact absurd h (by omega)
  ·rw [if_neg hj]
   match j, hj with
   | n + 12, _ => exact ⟨Int.le_refl _, Int.le_refl _⟩
   | 0, h | 1, h | 2, h | 3, h | 4, h | 5, h | 6, h | 7, h | 8, h | 9, h | 10, h | 11, h => exact absurd (by omega) h
theorem Inp.cpu_good (x : Inp) (ht : x.typed) (hs : ScrOK x.s) (him : 0 ≤ x.v 29 ∧ x.v 29 ≤ 2) : CpuGood x.cpuSig :=
 ⟨x.cpu_fit ht hs him, scr_hold_of (σ := x.s) (fun i hi => if_pos hi) hs.hold, Int.le_refl 0⟩
theorem Inp.ula_good (x : Inp) (ht : x.typed) (hs : ScrOK x.s) : UlaGood (ulaSig x.s x.t (bankF x.ps)) :=
 ⟨ulaSig_fit ht.s hs.rg x.t (bankF_rg ht.bk), scr_hold_of (σ := x.s) (fun i hi => if_pos hi) hs.hold, Int.le_refl 0⟩
theorem Inp.good (x : Inp) (ht : x.typed) (hs : ScrOK x.s) (him : 0 ≤ x.v 29 ∧ x.v 29 ≤ 2) (hay : 1 ≤ x.ay ∧ x.ay ≤ 65536) {f : Sig} (hf : fdcV.fit f) (hf3 : f.v 3 = 0) : (⟨x.cpuSig, ulaSig x.s x.t (bankF x.ps), aySig x.ay, f⟩ : MS).Good := by
 have hc := x.cpu_good ht hs him
 refine ⟨hc, x.ula_good ht hs, aySig_fit hay.1 hay.2, hf, rfl, hf3, ?_, ?_⟩
 ·show (0 : Int) ≤ 0 + 4; omega
 ·exact (cpuNx_good hc (by show (0 : Int) + 32 ≤ 16777216; omega)).2.2.1
end Go.Sim
end
