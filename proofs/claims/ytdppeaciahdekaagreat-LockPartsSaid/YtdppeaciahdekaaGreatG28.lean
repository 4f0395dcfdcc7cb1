/- A part of the proof that LockParts returns true for every input. No condition. -/
import Derived.Test.YtdppeaciahdekaaGreatG25
import Derived.Test.YtdppeaciahdekaaGreatG23
import Derived.Test.YtdppeaciahdekaaGreatG27
import Derived.Test.YtdppeaciahdekaaGreatG26
import Derived.Test.YtdppeaciahdekaaGreatG21
set_option linter.all false
namespace Go.Sim
attribute [local instance] noRO
open Go.Proofs Go.RowKit Go.Proofs.YtdppeaciahdekaaGreatW.PrintWords Go.Proofs.YtdppeaciahdekaaGreatW.PrintLast Go.Proofs.YtdppeaciahdekaaGreatW.PrintMore
open Go.Proofs.YtdppeaciahdekaaGreat.PLockParts
def Inp.rest (x : Inp) : Inp := { x with b27 := false, b30 := true }
theorem rest_cells (x : Inp) : (x.cells.setIfInBounds 30 (.bool true)).setIfInBounds 27 (.bool false) = x.rest.cells := rfl
structure Inp.lies0 (x : Inp) (w : World) : Prop where
 r : Kd.C k127 w x.A x.ps.length x.ps
 c : x.ps.length ≤ x.c
 tr : Kd.C k184 w x.t.A x.t.ts.length x.t.ts
 tn : x.t.A = none → x.t.ts = [] ∧ x.t.c = 0
 tc : x.t.ts.length ≤ x.t.c
 kr : Kd.C (Go.Proofs.YtdppeaciahdekaaGreatW.PrintWords.Kd.slice 218 k218) w x.k.A x.k.ds.length x.k.ds
 kc : x.k.ds.length ≤ x.k.c
 ok : dkOK x.k.ds
theorem Inp.lies0.rest {x : Inp} {w : World} (h : x.lies0 w) (hl : x.Light) : x.rest.lies w :=
 ⟨h.r, h.c, by have := hl.p; show x.ps.length ≤ _; omega, ⟨h.tr, h.tn, h.tc, by have := hl.t; show x.t.ts.length ≤ _; omega⟩, ⟨h.kr, h.kc, by have := hl.k.1; show x.k.ds.length ≤ _; omega, fun d hd => by
  have h2 := hl.k.2 d hd
  exact ⟨by omega, fun s hs => by have := h2.2 s hs; omega⟩, h.ok⟩⟩
theorem R_over {w w1 : World} {base : Nat} {v : Value} {xs : List S160} {S : Nat → Prop} (h : Kd.R k160 160 w base (fun _ => True) v xs) (ho : Only S w w1) (hS : ∀ k, S k → k < base) : Kd.R k160 160 w1 base (fun _ => True) v xs :=
 Kd.R_mono (R_only (Kd.R_bound h) ho fun k hk hs => by have := hS k hs; have := hk.2.1; omega) fun _ _ => trivial
theorem R_C {w : World} {base : Nat} {ok : Nat → Prop} {A : Option Addr} {n c : Nat} {xs : List S160} (h : Kd.R k160 160 w base ok (.slice A n c) xs) : n = xs.length ∧ Kd.C k160 w A xs.length xs := by
 obtain ⟨A', c', e, _, h2⟩ := Kd.R_reads h
 cases e
 exact ⟨rfl, h2⟩
structure Hi (B : Nat) (w w' : World) : Prop where
 size : w.heap.size ≤ w'.heap.size
 keep : ∀ b, B ≤ b → b < w.heap.size → w'.heap[b]? = w.heap[b]?
theorem Hi.trans {B : Nat} {w w1 w2 : World} (h : Hi B w w1) (h' : Hi B w1 w2) : Hi B w w2 := ⟨Nat.le_trans h.size h'.size, fun b hb hw => (h'.keep b hb (Nat.lt_of_lt_of_le hw h.size)).trans (h.keep b hb hw)⟩
theorem Hi.mono {B B' : Nat} {w w' : World} (h : Hi B w w') (hB : B ≤ B') : Hi B' w w' := ⟨h.size, fun b hb hw => h.keep b (Nat.le_trans hB hb) hw⟩
theorem Hi.below {B : Nat} {w w' : World} (h : Below w.heap.size w w') : Hi B w w' := ⟨h.size, fun b _ hw => h.block b hw⟩
theorem Hi.only {B : Nat} {S : Nat → Prop} {w w' : World} (h : Only S w w') (hS : ∀ b, S b → b < B) : Hi B w w' := ⟨h.grew.size, fun b hb hw => h.keep b hw fun hs => by have := hS b hs; omega⟩
theorem Hi.rep {B : Nat} {ρ : Ren} {H : AHeap} {w w' : World} (h : Hi B w w') (hr : Rep ρ H w) (hf : ∀ b, foot ρ H b → B ≤ b) : Rep ρ H w' := hr.other fun b hb => h.keep b (hf b hb) (hr.lt hb)
theorem drawn_below {w w' : World} (h : Drawn0 w w') : Below w.heap.size w w' := by
 obtain ⟨m, rfl⟩ := h
 exact below_drewN' (Below.refl _ _) m
structure Parts (tt : Int) (xs : List S160) (c u : Sig) : Prop where
 p1 : partS 1 xs = (cpuH0 tt c).map EvN.s
 p2 : partS 2 xs = (ulaHist tt.toNat u).map EvN.s
 p3 : partS 3 xs = []
 p4 : partS 4 xs = []
 len : xs.length ≤ 100000
theorem parts_of {s : MS} (hG : s.Good) (h0 : s.u.v 7 = 0) {tt : Int} (ht : 0 ≤ tt) (h3 : tt ≤ 3000) : Parts tt ((lockHist tt.toNat s).map EvN.s) s.c s.u := by
 refine ⟨?_, ?_, ?_, ?_, ?_⟩
 ·rw [partS_map, part_cpu h3 _ s hG (by rw [h0]; omega)]
 ·rw [partS_map, part_ula]
 ·rw [partS_map, part_none (by decide) (by decide)]; rfl
 ·rw [partS_map, part_none (by decide) (by decide)]; rfl
 ·rw [List.length_map]
  have := lockHist_len tt.toNat s
  omega
section
attribute [-go_sem] Go.loadVar
attribute [local go_sem] ld43_eq ld33_eq ld27_eq ld36_eq ld41_eq lv5 lv31 lv34 lv2
set_option maxHeartbeats 32000000 in
set_option maxRecDepth 100000 in
theorem law_calls (x : Inp) (ht : x.typed) (w : World) (hx : x.lies0 w) : Calls Tryz.prog 7 #[x.all] w fun e w' => e = .returned (.bool true) ∧ Below w.heap.size w w' := by
 obtain ⟨n, hn0, hs⟩ := scr_run ht.s
 obtain ⟨K, kk, hk⟩ := keys_some x.t.ts
 have HN0 := Aside0.mk hn0
 have HTY : Aside0 x.rest.typed := ⟨⟨ht.s, ht.b, ht.w, ht.bk⟩⟩
 have HX := Aside0.mk hx
 have hk1 := heap_alloc_new w (Obj.cells x.cells 43)
 have HB1 := Aside0.mk (below_alloc (Below.refl w.heap.size w) (Obj.cells x.cells 43))
 have HK1 := Aside0.mk hk1
 clear hx ht hn0 hk1
 unfold Inp.all
 go_enter Tryz.func7, Tryz.ntmps7
 go_wp2_with (first
  | (go_at_call 35; refine (lives_calls _).mono ?_; rintro e w2 ⟨rfl, hb2⟩; have HK2 := Aside0.mk ((hb2.block w.heap.size (blk_lt HK1.out)).trans HK1.out); have HB2 := Aside0.mk (below_then HB1.out HB1.out.size hb2); have l43 := x.rd43 HK2.out; unfold Inp.all at l43; clear hb2)
  | (go_at_call 17; refine (light_calls x _ (Kd.C_below HX.out.r HB2.out) (Kd.C_below HX.out.kr HB2.out)).mono ?_; rintro e w3 ⟨⟨r, rfl, hr⟩, hb3⟩; have HK3 := Aside0.mk ((hb3.block w.heap.size (blk_lt HK2.out)).trans HK2.out); have HB3 := Aside0.mk (below_then HB2.out HB2.out.size hb3); have HLT := Aside0.mk hr; clear hb3 hr l43; have b30 := blk_frozen HK3.out 30; have b27 := blk_frozen HK3.out 27; have c30 : w3.cell? ⟨w.heap.size, 30, none⟩ = some (.bool x.b30) := (blk_cell HK3.out 30).trans rfl; have c27 : w3.cell? ⟨w.heap.size, 27, none⟩ = some (.bool x.b27) := (blk_cell HK3.out 27).trans rfl))
 ·go_ret
  exact ⟨rfl, HB3.out⟩
 have hr1 : r = true := by
  cases r
  ·first | exact absurd rfl ‹¬ (!false) = true› | exact absurd ‹(!false) = false› (by decide) | exact absurd ‹¬ false = false› (by decide) | assumption
  ·rfl
 have HL := Aside0.mk (HLT.out hr1)
 subst hr1
 have hset := blk_set (blk_set HK3.out 30 (.bool true)) 27 (.bool false)
 rw [rest_cells] at hset
 have HB4 := Aside0.mk (below_set (below_set HB3.out (Nat.le_refl w.heap.size) (v := .bool true) (j := 30)) (Nat.le_refl w.heap.size) (v := .bool false) (j := 27))
 have l43 := x.rest.rd43 hset
 have HK4 := Aside0.mk hset
 unfold Inp.all at l43
 clear hset b30 b27 c30 c27
 generalize (w3.setCell { block := w.heap.size, off := 30 } (Value.bool true)).setCell { block := w.heap.size, off := 27 } (Value.bool false) = w4 at HB4 HK4 l43 ⊢
 have HXL := Aside0.mk (HX.out.rest HL.out)
 by_cases hc : x.rest.code n kk = 0
 ·have HC := Aside0.mk hc
  have hF := code_zero hc
  have hsc : ScrOK x.rest.s := HN0.out hF.n
  have HSC := Aside0.mk hsc
  obtain rfl := hF.n
  obtain rfl := hF.kk
  have HF := Aside0.mk hF
  have HV := Aside0.mk (x.rest.cpu_fit HTY.out hsc hF.im)
  clear hc hF hsc
  go_wp2_with (first
   | (go_at_call 36; refine (history_calls x.rest hs hk HC.out HL.out.tt HTY.out HSC.out rfl rfl _ (HXL.out.below HB4.out)).mono ?_; rintro e w5 ⟨f, v, rfl, hg, hv, hb5⟩; have HPS := Aside0.mk (parts_of hg rfl HF.out.tt HL.out.tt); generalize (lockHist x.rest.tt.toNat _).map EvN.s = xs at hv HPS; obtain ⟨vA, vc, rfl, _, hvr⟩ := Kd.R_reads hv; have HVR := Aside0.mk hvr; have HK5 := Aside0.mk ((hb5.block w.heap.size (blk_lt HK4.out)).trans HK4.out); have HB5 := Aside0.mk (below_then HB4.out HB4.out.size hb5); have l33 := x.rest.rd33 HK5.out; clear hg hv hvr hb5)
   | (go_at_call 50; refine (cpu_new_calls x.rest hs HF.out.setup HTY.out.bk rfl rfl HV.out _ (HXL.out.below HB5.out)).mono ?_; rintro e w6 ⟨ρc, lc, rfl, hc0, hrc, hb6, hfc⟩; have HK6 := Aside0.mk ((hb6.block w.heap.size (blk_lt HK5.out)).trans HK5.out); have HB6 := Aside0.mk (below_then HB5.out HB5.out.size hb6); have HC0 := Aside0.mk hc0; have HRC := Aside0.mk hrc; have HFC := Aside0.mk hfc; have HZ6 := Aside0.mk hb6; have l27 := x.rest.rd27 HK6.out; have c33 : w6.cell? ⟨w.heap.size, 33, none⟩ = some (.slice x.rest.t.A x.rest.t.ts.length x.rest.t.c) := (blk_cell HK6.out 33).trans rfl; have c32 : w6.cell? ⟨w.heap.size, 32, none⟩ = some (.slice x.rest.A x.rest.ps.length x.rest.c) := (blk_cell HK6.out 32).trans rfl; clear hc0 hrc hb6 hfc)
   | (go_at_call 51; refine (ula_new_calls HTY.out.s hs x.rest.t hk x.rest.A x.rest.c x.rest.ps _ (HXL.out.below HB6.out).t (HXL.out.below HB6.out).r (HXL.out.below HB6.out).c (HXL.out.below HB6.out).l HF.out.pat HTY.out.bk).mono ?_; rintro e w7 ⟨ρu, lu, rfl, hu0, hbu, hru, hb7⟩; have HK7 := Aside0.mk ((hb7.block w.heap.size (blk_lt HK6.out)).trans HK6.out); have HB7 := Aside0.mk (below_then HB6.out HB6.out.size hb7); have HZ7 := Aside0.mk hb7; have HU0 := Aside0.mk hu0; have HBU := Aside0.mk hbu; have HRU := Aside0.mk hru; have l36 := x.rest.rd36 HK7.out; clear hu0 hbu hru hb7)
   | (go_at_call 52; refine (ay_new_calls HF.out.ay.1 HF.out.ay.2 _).mono ?_; rintro e w8 ⟨ρa, la, rfl, ha0, hba, hra, hb8⟩; have HK8 := Aside0.mk ((hb8.block w.heap.size (blk_lt HK7.out)).trans HK7.out); have HB8 := Aside0.mk (below_then HB7.out HB7.out.size hb8); have HZ8 := Aside0.mk hb8; have HA0 := Aside0.mk ha0; have HBA := Aside0.mk hba; have HRA := Aside0.mk hra; have l41 := x.rest.rd41 HK8.out; clear ha0 hba hra hb8)
   | (go_at_call 53; refine (fdc_new_calls x.rest.f0 x.rest.f1 x.rest.fb x.rest.k HF.out.dsk _ (HXL.out.below HB8.out).k).mono ?_; rintro e w9 ⟨fs, ρf, gf, rfl, hf0, hbf, hfv, hf3, hrf, hb9⟩; have HK9 := Aside0.mk ((hb9.block w.heap.size (blk_lt HK8.out)).trans HK8.out); have HB9 := Aside0.mk (below_then HB8.out HB8.out.size hb9); have HZ9 := Aside0.mk hb9; have HF0 := Aside0.mk hf0; have HBF := Aside0.mk hbf; have HFV := Aside0.mk hfv; have HF3 := Aside0.mk hf3; have HRF := Aside0.mk hrf; clear hf0 hbf hfv hf3 hrf hb9))
  have q1 : ∀ k, foot ρc (instH x.rest.cpuSig cpuH) k → w5.heap.size ≤ k ∧ k < w6.heap.size := fun k hk => ⟨HFC.out k hk, HRC.out.lt hk⟩
  have q2 : w6.heap.size ≤ lu.blk ∧ lu.blk < w7.heap.size := ⟨HBU.out, HRU.out.lt ⟨0, _, lu, one0 _ 2 _, HU0.out, rfl⟩⟩
  have q3 : w7.heap.size ≤ la.blk ∧ la.blk < w8.heap.size := ⟨HBA.out, HRA.out.lt ⟨0, _, la, one0 _ 1 _, HA0.out, rfl⟩⟩
  have q4 : w8.heap.size ≤ gf ∧ gf < w9.heap.size := ⟨HBF.out, HRF.out.lt ⟨0, _, ⟨gf, 0, 0⟩, one0 _ 2 _, HF0.out, rfl⟩⟩
  have z6 := HZ6.out.size
  have z7 := HZ7.out.size
  have z8 := HZ8.out.size
  have z9 := HZ9.out.size
  have Q1 : Aside0 (∀ k, foot ρc (instH x.rest.cpuSig cpuH) k → w5.heap.size ≤ k ∧ k < w6.heap.size ∧ k < w9.drew.heap.size) := ⟨fun k hk => ⟨(q1 k hk).1, (q1 k hk).2, by have := (q1 k hk).2; show k < w9.heap.size; omega⟩⟩
  have Q2 : Aside0 (∀ k, foot ρu (instH (ulaSig x.rest.s x.rest.t (bankF x.rest.ps)) ulaH) k → w6.heap.size ≤ k ∧ k < w7.heap.size ∧ w5.heap.size ≤ k ∧ k < w9.drew.heap.size) := ⟨fun k hk => by
   have := (foot_one (n := 2) HU0.out k).1 hk
   subst this; exact ⟨q2.1, q2.2, by omega, by show _ < w9.heap.size; omega⟩⟩
  have Q3 : Aside0 (∀ k, foot ρa (instH (aySig x.rest.ay) ayH) k → w7.heap.size ≤ k ∧ k < w8.heap.size ∧ w5.heap.size ≤ k ∧ k < w9.drew.heap.size) := ⟨fun k hk => by
   have := (foot_one (n := 1) HA0.out k).1 hk
   subst this; exact ⟨q3.1, q3.2, by omega, by show _ < w9.heap.size; omega⟩⟩
  have Q4 : Aside0 (∀ k, foot ρf (instH fs fdcH) k → w8.heap.size ≤ k ∧ w5.heap.size ≤ k ∧ k < w9.drew.heap.size) := ⟨fun k hk => by
   have := (foot_one (n := 2) HF0.out k).1 hk
   subst this; exact ⟨q4.1, by have := q4.1; omega, q4.2⟩⟩
  have ZZ := Aside0.mk (And.intro z7 (And.intro z8 z9))
  have HL9 : Aside0 (Below w5.heap.size w5 w9.drew) := ⟨below_drew (below_then (below_then (below_then HZ6.out HZ6.out.size HZ7.out) (by omega) HZ8.out) (by omega) HZ9.out)⟩
  have HRC9 : Aside0 (Rep ρc (instH x.rest.cpuSig cpuH) w9.drew) := ⟨(rep_below (rep_below (rep_below HRC.out HZ7.out) HZ8.out) HZ9.out).other fun _ _ => rfl⟩
  have HRU9 : Aside0 (Rep ρu (instH (ulaSig x.rest.s x.rest.t (bankF x.rest.ps)) ulaH) w9.drew) := ⟨(rep_below (rep_below HRU.out HZ8.out) HZ9.out).other fun _ _ => rfl⟩
  have HRA9 : Aside0 (Rep ρa (instH (aySig x.rest.ay) ayH) w9.drew) := ⟨(rep_below HRA.out HZ9.out).other fun _ _ => rfl⟩
  have HRF9 : Aside0 (Rep ρf (instH fs fdcH) w9.drew) := ⟨HRF.out.other fun _ _ => rfl⟩
  have C39 : Aside0 (∀ W, Below w5.heap.size w5 W → W.cell? ⟨w.heap.size, 39, none⟩ = some (.int .i64 x.rest.tt)) := ⟨fun W h => (h.cell (blk_lt HK5.out)).trans ((blk_cell HK5.out 39).trans rfl)⟩
  have hS := C39.out _ HL9.out
  have LEN1 : Aside0 (((cpuH0 x.rest.tt x.rest.cpuSig).map EvN.s).length ≤ 1000000) := ⟨by
   have h1 := HPS.out.len
   have h2 : (partS 1 xs).length ≤ xs.length := List.length_filter_le _ _
   rw [HPS.out.p1] at h2
   exact Nat.le_trans h2 (by omega)⟩
  have LEN2 : Aside0 (((ulaHist x.rest.tt.toNat (ulaSig x.rest.s x.rest.t (bankF x.rest.ps))).map EvN.s).length ≤ 1000000) := ⟨by
   have h1 := HPS.out.len
   have h2 : (partS 2 xs).length ≤ xs.length := List.length_filter_le _ _
   rw [HPS.out.p2] at h2
   exact Nat.le_trans h2 (by omega)⟩
  have LENX : Aside0 (xs.length ≤ 1000000) := ⟨by have h1 := HPS.out.len; omega⟩
  have HGC := Aside0.mk (x.rest.cpu_good HTY.out HSC.out HF.out.im)
  have HGU := Aside0.mk (x.rest.ula_good HTY.out HSC.out)
  have HGA := Aside0.mk (aySig_fit HF.out.ay.1 HF.out.ay.2)
  have HT0 := Aside0.mk HF.out.tt
  obtain ⟨ys1, HY1⟩ : ∃ ys1, Aside0 ((cpuH0 x.rest.tt x.rest.cpuSig).map EvN.s = ys1) := ⟨_, ⟨rfl⟩⟩
  obtain ⟨ys2, HY2⟩ : ∃ ys2, Aside0 ((ulaHist x.rest.tt.toNat (ulaSig x.rest.s x.rest.t (bankF x.rest.ps))).map EvN.s = ys2) := ⟨_, ⟨rfl⟩⟩
  rw [HY1.out] at LEN1
  rw [HY2.out] at LEN2
  clear q1 q2 q3 q4 z6 z7 z8 z9
  go_region_held3 (fun w' => w'.cell? ⟨w.heap.size, 39, none⟩ = some (.int .i64 x.rest.tt)) (first | assumption)
   (first
   | (go_at_call 33; refine (events_calls A10 c10 none 0 [] _ (R_C HV10b.out).2 (Kd.C_nil _ _) (Nat.zero_le _)).mono ?_; rintro e p12 ⟨rfl, hd12⟩; have HL12 := Aside0.mk (below_then HL11.out HL11.out.size (drawn_below hd12)); have hS12 := C39.out _ HL12.out; clear hd12)
   | (go_at_call 57; refine (fdc_run_calls x.rest.tt.toNat HFV.out x.rest.tt (by have := HT0.out; rw [HF3.out]; omega) HL.out.tt ρf _ ⟨gf, 0, 0⟩ HF0.out (HH10.out.rep HRF9.out fun k hk => (Q4.out k hk).1)).mono ?_; rintro e p11 ⟨rfl, ho11⟩; have HV10b := Aside0.mk (R_over HV10.out ho11 fun k hk => Nat.lt_of_lt_of_le (Q4.out k hk).2.2 HZ10.out); have HL11 := Aside0.mk (HL10.out.trans (ho11.below HL10.out.size fun k hk => (Q4.out k hk).2.1)); have hS11 := C39.out _ HL11.out; clear ho11)
   | (go_at_call 39; refine (part_calls vA vc xs 4 _ (Kd.C_below HVR.out HL9b.out) LENX.out).mono ?_; rintro e p10 ⟨v10, rfl, hv10, hb10⟩; rw [HPS.out.p4] at hv10; obtain ⟨A10, c10, rfl, _, _⟩ := Kd.R_reads hv10; have HV10 := Aside0.mk hv10; have HL10 := Aside0.mk (below_then HL9b.out HL9b.out.size hb10); have HH10 : Aside0 (Hi w8.heap.size w9.drew p10) := ⟨HH9.out.trans (Hi.below hb10)⟩; have hS10 := C39.out _ HL10.out; have HZ10 := Aside0.mk HH9.out.size; clear hv10 hb10)
   | (go_at_call 33; refine (events_calls A7 c7 none 0 [] _ (R_C HV7b.out).2 (Kd.C_nil _ _) (Nat.zero_le _)).mono ?_; rintro e p9 ⟨rfl, hd9⟩; have hb9 := drawn_below hd9; have HL9b := Aside0.mk (below_then HL8.out HL8.out.size hb9); have HH9 : Aside0 (Hi w8.heap.size w9.drew p9) := ⟨HH8.out.trans (Hi.below hb9)⟩; have hS9 := C39.out _ HL9b.out; clear hd9 hb9)
   | (go_at_call 56; refine (ay_run_calls x.rest.tt.toNat HGA.out x.rest.tt (by have := HT0.out; show x.rest.tt - 0 ≤ _; omega) HL.out.tt ρa _ la HA0.out (HH7.out.rep HRA9.out fun k hk => (Q3.out k hk).1)).mono ?_; rintro e p8 ⟨rfl, ho8⟩; have HV7b := Aside0.mk (R_over HV7.out ho8 fun k hk => Nat.lt_of_lt_of_le (Q3.out k hk).2.2.2 HZ7b.out); have HL8 := Aside0.mk (HL7.out.trans (ho8.below HL7.out.size fun k hk => (Q3.out k hk).2.2.1)); have HH8 : Aside0 (Hi w8.heap.size w9.drew p8) := ⟨(HH7.out.mono ZZ.out.2.1).trans (Hi.only ho8 fun k hk => (Q3.out k hk).2.1)⟩; have hS8 := C39.out _ HL8.out; clear ho8)
   | (go_at_call 39; refine (part_calls vA vc xs 3 _ (Kd.C_below HVR.out HL6.out) LENX.out).mono ?_; rintro e p7 ⟨v7, rfl, hv7, hb7⟩; rw [HPS.out.p3] at hv7; obtain ⟨A7, c7, rfl, _, _⟩ := Kd.R_reads hv7; have HV7 := Aside0.mk hv7; have HL7 := Aside0.mk (below_then HL6.out HL6.out.size hb7); have HH7 : Aside0 (Hi w7.heap.size w9.drew p7) := ⟨HH6.out.trans (Hi.below hb7)⟩; have hS7 := C39.out _ HL7.out; have HZ7b := Aside0.mk HH6.out.size; clear hv7 hb7)
   | (go_at_call 33; refine (events_calls A4 c4 A5 c5 ys2 _ (R_C HV4b.out).2 (R_C HV5.out).2 LEN2.out).mono ?_; rintro e p6 ⟨rfl, hd6⟩; have hb6 := drawn_below hd6; have HL6 := Aside0.mk (below_then HL5.out HL5.out.size hb6); have HH6 : Aside0 (Hi w7.heap.size w9.drew p6) := ⟨HH5.out.trans (Hi.below hb6)⟩; have hS6 := C39.out _ HL6.out; clear hd6 hb6)
   | (go_at_call 55; refine (ula_run_calls x.rest.tt.toNat HGU.out x.rest.tt (by have := HT0.out; show x.rest.tt - 0 ≤ _; omega) HL.out.tt ρu _ lu HU0.out (HH4.out.rep HRU9.out fun k hk => (Q2.out k hk).1)).mono ?_; rintro e p5 ⟨v5, rfl, hv5, ho5⟩; rw [show x.rest.tt - (ulaSig x.rest.s x.rest.t (bankF x.rest.ps)).v 7 = x.rest.tt from Int.sub_zero _, HY2.out] at hv5; have HV4b := Aside0.mk (R_over HV4.out ho5 fun k hk => Nat.lt_of_lt_of_le (Q2.out k hk).2.2.2 HZ4.out); obtain ⟨A5, c5, rfl, _, _⟩ := Kd.R_reads hv5; have HV5 := Aside0.mk hv5; have HL5 := Aside0.mk (HL4.out.trans (ho5.below HL4.out.size fun k hk => (Q2.out k hk).2.2.1)); have HH5 : Aside0 (Hi w7.heap.size w9.drew p5) := ⟨(HH4.out.mono ZZ.out.1).trans (Hi.only ho5 fun k hk => (Q2.out k hk).2.1)⟩; have hS5 := C39.out _ HL5.out; clear hv5 ho5)
   | (go_at_call 39; refine (part_calls vA vc xs 2 _ (Kd.C_below HVR.out HL3.out) LENX.out).mono ?_; rintro e p4 ⟨v4, rfl, hv4, hb4⟩; rw [HPS.out.p2, HY2.out] at hv4; obtain ⟨A4, c4, rfl, _, _⟩ := Kd.R_reads hv4; have HV4 := Aside0.mk hv4; have HL4 := Aside0.mk (below_then HL3.out HL3.out.size hb4); have HH4 : Aside0 (Hi w6.heap.size w9.drew p4) := ⟨HH3.out.trans (Hi.below hb4)⟩; have hS4 := C39.out _ HL4.out; have HZ4 := Aside0.mk HH3.out.size; clear hv4 hb4)
   | (go_at_call 33; refine (events_calls A1 c1 A2 c2 ys1 _ (R_C HV1b.out).2 (R_C HV2.out).2 LEN1.out).mono ?_; rintro e p3 ⟨rfl, hd3⟩; have hb3 := drawn_below hd3; have HL3 := Aside0.mk (below_then HL2.out HL2.out.size hb3); have HH3 : Aside0 (Hi w6.heap.size w9.drew p3) := ⟨HH2.out.trans (Hi.below hb3)⟩; have hS3 := C39.out _ HL3.out; clear hd3 hb3)
   | (go_at_call 54; refine (cpu_run_calls x.rest.tt.toNat HGC.out (by show (0 : Int) ≤ 4000; decide) x.rest.tt (by have := HT0.out; show x.rest.tt - 0 ≤ _; omega) HL.out.tt ρc _ lc HC0.out (HH1.out.rep HRC9.out fun _ _ => Nat.zero_le _)).mono ?_; rintro e p2 ⟨v2, rfl, hv2, ho2⟩; rw [HY1.out] at hv2; have HV1b := Aside0.mk (R_over HV1.out ho2 fun k hk => (Q1.out k hk).2.2); obtain ⟨A2, c2, rfl, _, _⟩ := Kd.R_reads hv2; have HV2 := Aside0.mk hv2; have HL2 := Aside0.mk (HL1.out.trans (ho2.below HL1.out.size fun k hk => (Q1.out k hk).1)); have HH2 : Aside0 (Hi w6.heap.size w9.drew p2) := ⟨(HH1.out.mono (Nat.zero_le _)).trans (Hi.only ho2 fun k hk => (Q1.out k hk).2.1)⟩; have hS2 := C39.out _ HL2.out; clear hv2 ho2)
   | (go_at_call 39; refine (part_calls vA vc xs 1 _ (Kd.C_below HVR.out HL9.out) LENX.out).mono ?_; rintro e p1 ⟨v1, rfl, hv1, hb1⟩; rw [HPS.out.p1, HY1.out] at hv1; obtain ⟨A1, c1, rfl, _, _⟩ := Kd.R_reads hv1; have HV1 := Aside0.mk hv1; have HL1 := Aside0.mk (below_then HL9.out HL9.out.size hb1); have HH1 : Aside0 (Hi 0 w9.drew p1) := ⟨Hi.below hb1⟩; have hS1 := C39.out _ HL1.out; clear hv1 hb1))
  go_wp2
  go_ret
  exact ⟨rfl, below_then HB5.out HB5.out.size HL12.out⟩
 ·have HC := Aside0.mk hc
  have hne : (x.rest.code n kk != 0) = true := bne_iff_ne.mpr hc
  clear hc
  go_wp2_with (first | (go_at_call 36; refine (history_bad x.rest hs hk HC.out _ (HXL.out.below HB4.out)).mono ?_; rintro e w5 ⟨rfl, hb5⟩; have HB5 := Aside0.mk (below_then HB4.out HB4.out.size hb5); clear hb5))
  go_ret
  exact ⟨rfl, HB5.out⟩
end
end Go.Sim
