/- A part of the proof that LockParts returns true for every input. No condition. -/
import Derived.Test.YtdppeaciahdekaaGreatG20
import Derived.Test.YtdppeaciahdekaaGreatG24
import Derived.Test.YtdppeaciahdekaaGreatG26
import Derived.Test.YtdppeaciahdekaaGreatG21
import Derived.Test.YtdppeaciahdekaaGreatG22
set_option linter.all false
section
namespace Go.Sim
attribute [local instance] noRO
open Go.Proofs Go.RowKit Go.Proofs.YtdppeaciahdekaaGreatW.PrintWords Go.Proofs.YtdppeaciahdekaaGreatW.PrintLast Go.Proofs.YtdppeaciahdekaaGreatW.PrintMore
open Go.Proofs.YtdppeaciahdekaaGreat.PLockParts
def partS (q : Int) (xs : List S160) : List S160 := xs.filter fun s => decide (s.f1 = q)
theorem rd160 {xs : List S160} {i : Nat} (h : i < xs.length) : rd_T160 xs i = xs[i] := by simp [rd_T160, List.getD_eq_getElem?_getD, h]
theorem part_snoc (q : Int) (xs : List S160) {i : Nat} (h : i < xs.length) : partS q (xs.take (i + 1)) = partS q (xs.take i) ++ (if (rd_T160 xs i).f1 = q then [rd_T160 xs i] else []) := by
 rw [rd160 h, List.take_succ_eq_append_getElem h, partS, List.filter_append]
 congr 1
 by_cases hq : xs[i].f1 = q
 ·rw [if_pos hq]; simp [hq]
 ·rw [if_neg hq]; simp [hq]
set_option maxHeartbeats 8000000 in
set_option maxRecDepth 100000 in
theorem part_calls (A : Option Addr) (c : Nat) (xs : List S160) (q : Int) (w : World) (hr : Kd.C k160 w A xs.length xs) (hl : xs.length ≤ 1000000) :
  Calls Tryz.prog 39 #[.slice A xs.length c, .int .i64 q] w fun e w' => ∃ v, e = .returned v ∧ Kd.R k160 160 w' w.heap.size (fun _ => True) v (partS q xs) ∧ Below w.heap.size w w' := by
 have hu160 := Tryz.underlying160
 have HR := Aside0.mk hr
 have HL := Aside0.mk hl
 clear hr hl
 go_enter Tryz.func39, Tryz.ntmps39
 go_wp2
 go_loopg [5, 6] xs.length (fun kq v5 v6 w' => ∃ (i : Nat) (acc : List S160), v6 = .int .i64 i ∧ i ≤ xs.length ∧ Aside0 (xs.length - i ≤ kq) ∧ Aside0 (Kd.R k160 160 w' w.heap.size (fun _ => True) v5 acc) ∧ Aside0 (acc = partS q (xs.take i)) ∧ Aside0 (Below w.heap.size w w'))
 case atStart => exact ⟨0, [], rfl, Nat.zero_le _, ⟨Nat.le_refl _⟩, ⟨Kd.R_nil _ _ _ _ _⟩, ⟨rfl⟩, ⟨Below.refl _ _⟩⟩
 case round =>
  obtain ⟨i, acc, rfl, hi, HK, HO, HE, HB⟩ := hrel
  by_cases hc : i < xs.length
  ·have hc0 : decide ((i : Int) < (xs.length : Int)) = true := decide_eq_true (by omega)
   have hc1 : decide (i < xs.length) = true := decide_eq_true hc
   have p1 : (0 : Int) ≤ (i : Int) := by omega
   have q1 : (i : Int) < (xs.length : Int) := by omega
   obtain ⟨ad, e1, h0, h1, h2, h3, h4, h5⟩ := at_T160 HR.out i p1 q1
   cases e1
   replace h0 := (HB.out.cell (World.block_lt_of_cell? w _ h0)).trans h0
   replace h1 := (HB.out.cell (World.block_lt_of_cell? w _ h1)).trans h1
   replace h2 := (HB.out.cell (World.block_lt_of_cell? w _ h2)).trans h2
   replace h3 := (HB.out.cell (World.block_lt_of_cell? w _ h3)).trans h3
   replace h4 := (HB.out.cell (World.block_lt_of_cell? w _ h4)).trans h4
   replace h5 := (HB.out.cell (World.block_lt_of_cell? w _ h5)).trans h5
   have hin : ((i : Int)).toNat = i := rfl
   rw [hin] at h0 h1 h2 h3 h4 h5
   have HS := Aside0.mk (part_snoc q xs hc)
   have HA := Aside0.mk (show acc.length ≤ 1000000 by
    have h1 := congrArg List.length HE.out
    have h2 : (partS q (xs.take i)).length ≤ (xs.take i).length := List.length_filter_le _ _
    have h3 := HL.out
    rw [List.length_take] at h2
    omega)
   replace p1 := eq_true p1
   replace q1 := eq_true q1
   generalize rd_T160 xs ↑i = s at h0 h1 h2 h3 h4 h5 HS
   cases gk with
   | zero => exact absurd HK.out (by omega)
   | succ k1 =>
    by_cases hq : s.f1 = q
    ·have hq0 : (s.f1 == q) = true := beq_iff_eq.mpr hq
     have HQ := Aside0.mk hq
     clear hq
     go_wp2_with (first | ((with_reducible refine gate_builtin (b := .append) (xs := #[.tmp 20, .tmp 25]) rfl ?_); at_builtin; refine Kd.R_append k160 (w0 := w) w.heap.size rfl (.tmp 20) (.tmp 25) 72 160 (.agg #[(.int .i64 0), (.int .i64 0), (.int .i64 0), (.int .i64 0), (.int .i64 0), (.int .i64 0)]) 48 rfl Tryz.underlying72 info160 rfl (by decide) (by omega) u5 acc s [.int .i64 s.f0, .int .i64 s.f1, .int .i64 s.f2, .int .i64 s.f3, .int .i64 s.f4, .int .i64 s.f5] (fun _ => True) (fun _ => False) rfl rfl ?aP (fun _ hk => hk.elim) ?aF ?aO ?aB ?aS ?aL ?_; (case aP => exact k160_mkM _ _ _ s); (case aF => exact fun _ _ => trivial); (case aO => exact HO.out); (case aB => exact HB.out); (case aS => exact HB.out.size); (case aL => have := HA.out; omega); intro v1 w3 ho3 hb3 hg3 hat3; have HO3 := Aside0.mk ho3; have HB3 := Aside0.mk hb3; clear ho3 hb3 hat3 hg3))
     go_roundg k1
     case measure => have := HK.out; omega
     case rel =>
      refine ⟨i + 1, acc ++ [s], by have := HL.out; rw [wrap64_add1 (by omega) (by omega)]; rfl, by omega, ⟨by have := HK.out; omega⟩, HO3, ⟨?_⟩, HB3⟩
      rw [HS.out, if_pos HQ.out, HE.out]
    ·have hq0 : (s.f1 == q) = false := beq_eq_false_iff_ne.mpr hq
     have HQ := Aside0.mk hq
     clear hq
     go_wp2
     go_roundg k1
     case measure => have := HK.out; omega
     case rel =>
      refine ⟨i + 1, acc, by have := HL.out; rw [wrap64_add1 (by omega) (by omega)]; rfl, by omega, ⟨by have := HK.out; omega⟩, HO, ⟨?_⟩, HB⟩
      rw [HS.out, if_neg HQ.out, HE.out, List.append_nil]
  ·have hc0 : decide ((i : Int) < (xs.length : Int)) = false := decide_eq_false (by omega)
   have hc1 : decide (i < xs.length) = false := decide_eq_false hc
   go_wp2
   go_ret
   have he := HE.out
   rw [List.take_of_length_le (by omega)] at he
   exact ⟨_, rfl, by rw [← he]; exact HO.out, HB.out⟩
theorem eqA160 (d : Nat) (w : World) (x0 y0 : Int) (x1 y1 : Int) (x2 y2 : Int) (x3 y3 : Int) (x4 y4 : Int) (x5 y5 : Int) :
  (Op.equalIn (d + 2) 160 (.agg #[.int .i64 x0, .int .i64 x1, .int .i64 x2, .int .i64 x3, .int .i64 x4, .int .i64 x5]) (.agg #[.int .i64 y0, .int .i64 y1, .int .i64 y2, .int .i64 y3, .int .i64 y4, .int .i64 y5])).run Tryz.prog w = .ok (x0 == y0 && (x1 == y1 && (x2 == y2 && (x3 == y3 && (x4 == y4 && (x5 == y5)))))) w := by
 refine eqA_of Tryz.underlying160 (by kernel_rfl) ?_
 refine eqf_cons (by rfl) (by go_simp; rfl) (by go_simp; rfl) (by go_simp) ?_
 refine eqf_cons (by rfl) (by go_simp; rfl) (by go_simp; rfl) (by go_simp) ?_
 refine eqf_cons (by rfl) (by go_simp; rfl) (by go_simp; rfl) (by go_simp) ?_
 refine eqf_cons (by rfl) (by go_simp; rfl) (by go_simp; rfl) (by go_simp) ?_
 refine eqf_cons (by rfl) (by go_simp; rfl) (by go_simp; rfl) (by go_simp) ?_
 exact eqf_last (by rfl) (by go_simp; rfl) (by go_simp; rfl) (by go_simp)
section
attribute [local go_sem high] eqA160
set_option maxHeartbeats 8000000 in
set_option maxRecDepth 100000 in
theorem events_calls (A : Option Addr) (c : Nat) (B : Option Addr) (d : Nat) (xs : List S160) (w : World) (hr : Kd.C k160 w A xs.length xs) (hr2 : Kd.C k160 w B xs.length xs) (hl : xs.length ≤ 1000000) :
  Calls Tryz.prog 33 #[.slice A xs.length c, .slice B xs.length d] w fun e w' => e = .returned (.bool true) ∧ Drawn0 w w' := by
 have hu160 := Tryz.underlying160
 have HR := Aside0.mk hr
 have HR2 := Aside0.mk hr2
 have HL := Aside0.mk hl
 clear hr hr2 hl
 go_enter Tryz.func33, Tryz.ntmps33
 go_wp2
 go_loopg [5] xs.length (fun kq v5 w' => ∃ (i : Nat), v5 = .int .i64 i ∧ i ≤ xs.length ∧ Aside0 (xs.length - i ≤ kq) ∧ Drawn0 w w')
 case atStart => exact ⟨0, rfl, Nat.zero_le _, ⟨Nat.le_refl _⟩, Drawn0.refl _⟩
 case round =>
  obtain ⟨i, rfl, hi, HK, ⟨m1, rfl⟩⟩ := hrel
  by_cases hc : i < xs.length
  ·have hc0 : decide ((i : Int) < (xs.length : Int)) = true := decide_eq_true (by omega)
   have hc1 : decide (i < xs.length) = true := decide_eq_true hc
   have p1 : (0 : Int) ≤ (i : Int) := by omega
   have q1 : (i : Int) < (xs.length : Int) := by omega
   obtain ⟨ad, e1, h0, h1, h2, h3, h4, h5⟩ := at_T160 HR.out i p1 q1
   obtain ⟨ad2, e2, g0, g1, g2, g3, g4, g5⟩ := at_T160 HR2.out i p1 q1
   cases e1
   cases e2
   have hin : ((i : Int)).toNat = i := rfl
   rw [hin] at h0 h1 h2 h3 h4 h5 g0 g1 g2 g3 g4 g5
   replace p1 := eq_true p1
   replace q1 := eq_true q1
   generalize rd_T160 xs ↑i = s at h0 h1 h2 h3 h4 h5 g0 g1 g2 g3 g4 g5
   cases gk with
   | zero => exact absurd HK.out (by omega)
   | succ k1 =>
    go_wp2
    repeat (go_quiet (fail); try go_wp2)
    go_roundg k1
    case measure => have := HK.out; omega
    case rel => exact ⟨i + 1, by have := HL.out; rw [wrap64_add1 (by omega) (by omega)]; rfl, by omega, ⟨by have := HK.out; omega⟩, by repeat (first | exact Drawn0.refl _ | apply Drawn0.step)⟩
  ·have hc0 : decide ((i : Int) < (xs.length : Int)) = false := decide_eq_false (by omega)
   have hc1 : decide (i < xs.length) = false := decide_eq_false hc
   go_wp2
   go_ret
   exact ⟨rfl, by repeat (first | exact Drawn0.refl _ | apply Drawn0.step)⟩
end
end Go.Sim
end
section
set_option maxRecDepth 1000000
namespace Go.Sim
attribute [local instance] noRO
open Go.Proofs.YtdppeaciahdekaaGreat.PLockParts
def partN (q : Int) (l : List EvN) : List EvN := l.filter fun x => decide (x.2.1 = q)
theorem partS_map (q : Int) (l : List EvN) : partS q (l.map EvN.s) = (partN q l).map EvN.s := by
 unfold partS partN
 rw [List.filter_map]; rfl
theorem partN_app (q : Int) (a b : List EvN) : partN q (a ++ b) = partN q a ++ partN q b := List.filter_append ..
theorem evU_eq (s : MS) : s.mach.evU = ulaEv s.u := by
 have h : s.mach.e = (ulaStep s.u).2 := rfl
 unfold Mach.evU ulaEv tellN
 rw [h]
 cases (ulaStep s.u).2 <;> rfl
theorem evC_eq (s : MS) : s.mach.evC = if cpuTm s.c = s.u.v 7 then [cpuEv s.c] else [] := rfl
theorem partU (q : Int) (σ : Sig) : partN q (ulaEv σ) = if q = 2 then ulaEv σ else [] := by
 unfold ulaEv tellN
 split
 ·split <;> rfl
 ·by_cases h : q = 2
  ·subst h; rfl
  ·rw [if_neg h]; exact List.filter_cons_of_neg (by show ¬ decide ((2 : Int) = q) = true; rw [decide_eq_true_eq]; exact fun e => h e.symm)
theorem partC (q : Int) (σ : Sig) : partN q [cpuEv σ] = if q = 1 then [cpuEv σ] else [] := by
 by_cases h : q = 1
 ·subst h; rfl
 ·rw [if_neg h]; exact List.filter_cons_of_neg (by show ¬ decide ((1 : Int) = q) = true; rw [decide_eq_true_eq]; exact fun e => h e.symm)
theorem part_evs (q : Int) (s : MS) : partN q s.mach.evs = (if cpuTm s.c = s.u.v 7 ∧ q = 1 then [cpuEv s.c] else []) ++ if q = 2 then ulaEv s.u else [] := by
 unfold Mach.evs
 rw [partN_app, evU_eq, evC_eq, partU]
 congr 1
 by_cases h : cpuTm s.c = s.u.v 7
 ·rw [if_pos h, partC]
  by_cases hq : q = 1
  ·rw [if_pos hq, if_pos ⟨h, hq⟩]
  ·rw [if_neg hq, if_neg fun h => hq h.2]
 ·rw [if_neg h, if_neg fun h2 => h h2.1]; rfl
theorem part_ula : ∀ (n : Nat) (s : MS), partN 2 (lockHist n s) = ulaHist n s.u
 | 0, _ => rfl
 | n + 1, s => by
  simp only [lockHist, ulaHist]
  rw [partN_app, part_evs, part_ula n s.nx, s.nx_u, if_neg (fun h => by cases h.2), if_pos rfl]; rfl
theorem part_none {q : Int} (h1 : q ≠ 1) (h2 : q ≠ 2) : ∀ (n : Nat) (s : MS), partN q (lockHist n s) = []
 | 0, _ => rfl
 | n + 1, s => by
  simp only [lockHist]
  rw [partN_app, part_evs, part_none h1 h2 n s.nx, if_neg (fun h => h1 h.2), if_neg h2]; rfl
theorem part_cpu {tt : Int} (hto : tt ≤ 3000) : ∀ (n : Nat) (s : MS), s.Good → s.u.v 7 + n = tt → partN 1 (lockHist n s) = cpuH0 tt s.c
 | 0, s, hG, h => by
  have := hG.next
  rw [cpuH0_none (by omega)]; rfl
 | n + 1, s, hG, h => by
  have hb : s.u.v 7 ≤ 3000 := by omega
  have hn := hG.nx hb
  have hr := hG.near
  simp only [lockHist]
  rw [partN_app, part_evs, if_neg (show ¬ (1 : Int) = 2 by decide), List.append_nil, part_cpu hto n s.nx hn.1 (by rw [hn.2]; omega), s.nx_c]
  by_cases hc : cpuTm s.c = s.u.v 7
  ·rw [if_pos ⟨hc, rfl⟩, if_pos hc, cpuH0_some hto hG.c (by omega) (by omega)]; rfl
  ·rw [if_neg (fun h => hc h.1), if_neg hc]; rfl
end Go.Sim
end
section
namespace Go.Sim
open Go.Proofs.YtdppeaciahdekaaGreat.PLockParts
theorem keys_some (ts : List S184) : ∃ K kk, keysIs K ts kk := ⟨0, _, rfl⟩
end Go.Sim
end
