/- A part of the proof that LockParts returns true for every input. No condition. -/
import Derived.Test.YtdppeaciahdekaaGreatG20
import Derived.Deep.RegionHeld3
set_option linter.all false
namespace Go.Sim
attribute [local instance] noRO
open Go.Proofs Go.RowKit Go.Proofs.YtdppeaciahdekaaGreatW.PrintWords Go.Proofs.YtdppeaciahdekaaGreatW.PrintLast Go.Proofs.YtdppeaciahdekaaGreatW.PrintMore
open Go.Proofs.YtdppeaciahdekaaGreat.PLockParts
def oneB (a b c : Int) : Bool := if a < 0 then false else if 1099511627776 < a then false else if b = 1 then (if 0 ≤ c then decide (c < 40) else false) else if b = 2 then decide (c = 0) else false
set_option maxHeartbeats 8000000 in
set_option maxRecDepth 100000 in
theorem one_calls (a b c : Int) (d : Bool) (w : World) : Calls Tryz.prog 179 #[.agg #[.int .i64 a, .int .i64 b, .int .i64 c, .bool d]] w fun e w' => e = .returned (.bool (oneB a b c)) ∧ Below w.heap.size w w' := by
 have HB1 := Aside0.mk (below_alloc (Below.refl w.heap.size w) (Obj.cells #[.int .i64 a, .int .i64 b, .int .i64 c, .bool d] 184))
 have HE : Aside0 (∀ x, x = oneB a b c → Ending.returned (Value.bool x) = Ending.returned (.bool (oneB a b c))) := ⟨fun x h => by rw [h]⟩
 by_cases c1 : a < 0
 ·have d1 : decide (a < 0) = true := decide_eq_true c1
  go_enter Tryz.func179, Tryz.ntmps179
  go_wp2
  go_ret
  exact ⟨HE.out _ (by unfold oneB; rw [if_pos (by omega)]), HB1.out⟩
 have d1 : decide (a < 0) = false := decide_eq_false c1
 by_cases c2 : 1099511627776 < a
 ·have d2 : decide (1099511627776 < a) = true := decide_eq_true c2
  go_enter Tryz.func179, Tryz.ntmps179
  go_wp2
  go_ret
  exact ⟨HE.out _ (by unfold oneB; rw [if_neg (by omega), if_pos (by omega)]), HB1.out⟩
 have d2 : decide (1099511627776 < a) = false := decide_eq_false c2
 have hb1 : oneB a b c = if b = 1 then (if 0 ≤ c then decide (c < 40) else false) else if b = 2 then decide (c = 0) else false := by unfold oneB; rw [if_neg c1, if_neg c2]
 have HO := Aside0.mk hb1
 clear hb1
 by_cases c3 : b = 1
 ·have d3 : (b == 1) = true := beq_iff_eq.mpr c3
  have C3 := Aside0.mk c3
  clear c3
  by_cases c4 : 0 ≤ c
  ·have d4 : decide (c ≥ 0) = true := decide_eq_true c4
   have d5 : decide (0 ≤ c) = true := decide_eq_true c4
   go_enter Tryz.func179, Tryz.ntmps179
   go_wp2
   go_ret
   exact ⟨HE.out _ (by rw [HO.out, if_pos C3.out, if_pos (by omega)]), HB1.out⟩
  ·have d4 : decide (c ≥ 0) = false := decide_eq_false c4
   have d5 : decide (0 ≤ c) = false := decide_eq_false c4
   go_enter Tryz.func179, Tryz.ntmps179
   go_wp2
   go_ret
   exact ⟨HE.out _ (by rw [HO.out, if_pos C3.out, if_neg (by omega)]), HB1.out⟩
 ·have d3 : (b == 1) = false := beq_eq_false_iff_ne.mpr c3
  by_cases c4 : b = 2
  ·have d4 : (b == 2) = true := beq_iff_eq.mpr c4
   have C4 := Aside0.mk c4
   have C3 := Aside0.mk c3
   clear c4 c3
   go_enter Tryz.func179, Tryz.ntmps179
   go_wp2
   go_ret
   exact ⟨HE.out _ (by rw [HO.out, if_neg C3.out, if_pos C4.out]; rfl), HB1.out⟩
  ·have d4 : (b == 2) = false := beq_eq_false_iff_ne.mpr c4
   have C4 := Aside0.mk c4
   have C3 := Aside0.mk c3
   clear c4 c3
   go_enter Tryz.func179, Tryz.ntmps179
   go_wp2
   go_ret
   exact ⟨HE.out _ (by rw [HO.out, if_neg C3.out, if_neg C4.out]), HB1.out⟩
def kbad (ts : List S184) (i : Nat) : Bool := !oneB (rd_T184 ts i).f0 (rd_T184 ts i).f1 (rd_T184 ts i).f2 || (decide (0 < i) && decide ((rd_T184 ts i).f0 < (rd_T184 ts ((i : Int) - 1)).f0))
def kchk (ts : List S184) : Int := if 65536 < ts.length then 3 else if (List.range ts.length).any (kbad ts) = true then 2 else 0
theorem kany_snoc (ts : List S184) (i : Nat) : (List.range (i + 1)).any (kbad ts) = ((List.range i).any (kbad ts) || kbad ts i) := by
 rw [List.range_succ, List.any_append]; simp
theorem kany_of (ts : List S184) {i n : Nat} (h : i < n) (hb : kbad ts i = true) : (List.range n).any (kbad ts) = true := List.any_eq_true.2 ⟨i, List.mem_range.2 h, hb⟩
theorem kS {w w1 w2 : World} {g : Nat} {t : S184} {a : Addr} {u : Int} (h : Below w.heap.size w w1 ∧ w1.cell? ⟨g, 0, none⟩ = some (.int .i64 t.f0) ∧ w1.cell? ⟨g, 1, none⟩ = some (.int .i64 t.f1) ∧ w1.cell? ⟨g, 2, none⟩ = some (.int .i64 t.f2) ∧ w1.cell? ⟨g, 3, none⟩ = some (.bool t.f3) ∧ w1.cell? a = some (.int .i64 u)) (hb : Below w1.heap.size w1 w2) : Below w.heap.size w w2 ∧ w2.cell? ⟨g, 0, none⟩ = some (.int .i64 t.f0) ∧ w2.cell? ⟨g, 1, none⟩ = some (.int .i64 t.f1) ∧ w2.cell? ⟨g, 2, none⟩ = some (.int .i64 t.f2) ∧ w2.cell? ⟨g, 3, none⟩ = some (.bool t.f3) ∧ w2.cell? a = some (.int .i64 u) :=
 ⟨below_then h.1 h.1.size hb, (hb.cell (World.block_lt_of_cell? _ _ h.2.1)).trans h.2.1, (hb.cell (World.block_lt_of_cell? _ _ h.2.2.1)).trans h.2.2.1, (hb.cell (World.block_lt_of_cell? _ _ h.2.2.2.1)).trans h.2.2.2.1, (hb.cell (World.block_lt_of_cell? _ _ h.2.2.2.2.1)).trans h.2.2.2.2.1, (hb.cell (World.block_lt_of_cell? _ _ h.2.2.2.2.2)).trans h.2.2.2.2.2⟩
theorem kpre (ts : List S184) (i : Nat) (t q : S184) (h : rd_T184 ts i = t) (hq : rd_T184 ts ((i : Int) - 1) = q) : kbad ts i = (!oneB t.f0 t.f1 t.f2 || (decide (0 < i) && decide (t.f0 < q.f0))) := by
 unfold kbad; rw [h, hq]
set_option maxHeartbeats 16000000 in
set_option maxRecDepth 100000 in
theorem keys_calls (A : Option Addr) (c : Nat) (ts : List S184) (w : World) (hr : Kd.C k184 w A ts.length ts) : Calls Tryz.prog 119 #[.slice A ts.length c] w fun e w' => e = .returned (.int .i64 (kchk ts)) ∧ Below w.heap.size w w' := by
 have hu184 := Tryz.underlying184
 have HR := Aside0.mk hr
 clear hr
 have HE : Aside0 (∀ x, x = kchk ts → Ending.returned (Value.int .i64 x) = Ending.returned (.int .i64 (kchk ts))) := ⟨fun x h => by rw [h]⟩
 by_cases hl : 65536 < ts.length
 ·have hl0 : decide ((65536 : Int) < (ts.length : Int)) = true := decide_eq_true (by omega)
  have hl1 : decide (65536 < ts.length) = true := decide_eq_true hl
  have HX := Aside0.mk (show kchk ts = 3 by unfold kchk; rw [if_pos hl])
  go_enter Tryz.func119, Tryz.ntmps119
  go_wp2
  go_ret
  exact ⟨HE.out _ HX.out.symm, Below.refl _ _⟩
 have hl0 : decide ((65536 : Int) < (ts.length : Int)) = false := decide_eq_false (by omega)
 have hl1 : decide (65536 < ts.length) = false := decide_eq_false hl
 have HX := Aside0.mk (show kchk ts = if (List.range ts.length).any (kbad ts) = true then 2 else 0 by unfold kchk; rw [if_neg hl])
 have HL := Aside0.mk hl
 clear hl
 go_enter Tryz.func119, Tryz.ntmps119
 go_wp2
 go_loopg [10] ts.length (fun kq v10 w' => ∃ i : Nat, v10 = .int .i64 i ∧ i ≤ ts.length ∧ Aside0 (ts.length - i ≤ kq) ∧ Aside0 ((List.range i).any (kbad ts) = false) ∧ Aside0 (Below w.heap.size w w'))
 case atStart => exact ⟨0, rfl, Nat.zero_le _, ⟨Nat.le_refl _⟩, ⟨rfl⟩, ⟨Below.refl _ _⟩⟩
 case round =>
  obtain ⟨i, rfl, hi, HK, HN, HB⟩ := hrel
  rename World => wo
  by_cases hc : i < ts.length
  ·have hc0 : decide ((i : Int) < (ts.length : Int)) = true := decide_eq_true (by omega)
   have hc1 : decide (i < ts.length) = true := decide_eq_true hc
   have p1 : (0 : Int) ≤ (i : Int) := by omega
   have q1 : (i : Int) < (ts.length : Int) := by omega
   obtain ⟨ad, e1, h0, h1, h2, h3⟩ := at_T184 HR.out i p1 q1
   cases e1
   replace h0 := (HB.out.cell (World.block_lt_of_cell? w _ h0)).trans h0
   replace h1 := (HB.out.cell (World.block_lt_of_cell? w _ h1)).trans h1
   replace h2 := (HB.out.cell (World.block_lt_of_cell? w _ h2)).trans h2
   replace h3 := (HB.out.cell (World.block_lt_of_cell? w _ h3)).trans h3
   have hin : ((i : Int)).toNat = i := rfl
   rw [hin] at h0 h1 h2 h3
   obtain ⟨t, ht⟩ : ∃ t, rd_T184 ts ↑i = t := ⟨_, rfl⟩
   obtain ⟨q, hq⟩ : ∃ q, rd_T184 ts ((i : Int) - 1) = q := ⟨_, rfl⟩
   have HKB := Aside0.mk (kpre ts i t q ht hq)
   have HPQ := Aside0.mk (fun (hi0 : 0 < i) => (at_T184 HR.out ((i : Int) - 1) (by omega) (by omega)))
   rw [ht] at h0 h1 h2 h3
   rw [hq] at HPQ
   clear ht hq
   replace p1 := eq_true p1
   replace q1 := eq_true q1
   have hfail : kbad ts i = true → Ending.returned (Value.int .i64 2) = Ending.returned (.int .i64 (kchk ts)) := fun h => HE.out 2 (by rw [HX.out, if_pos (kany_of ts hc h)])
   have hnext : kbad ts i = false → (List.range (i + 1)).any (kbad ts) = false := fun h => by rw [kany_snoc, HN.out, h]; rfl
   have HFAIL := Aside0.mk hfail
   have HNEXT := Aside0.mk hnext
   clear hfail hnext
   go_wp2_with fail
   have hg := heap_alloc_new wo (Obj.cells #[Value.int .i64 t.f0, Value.int .i64 t.f1, Value.int .i64 t.f2, Value.bool t.f3] 184)
   have HB2 := Aside0.mk (below_alloc HB.out (Obj.cells #[Value.int .i64 t.f0, Value.int .i64 t.f1, Value.int .i64 t.f2, Value.bool t.f3] 184))
   have HB3 := Aside0.mk (below_alloc (Below.refl wo.heap.size wo) (Obj.cells #[Value.int .i64 t.f0, Value.int .i64 t.f1, Value.int .i64 t.f2, Value.bool t.f3] 184))
   generalize wo.alloc (Obj.cells #[Value.int .i64 t.f0, Value.int .i64 t.f1, Value.int .i64 t.f2, Value.bool t.f3] 184) = wa at hg HB2 HB3 ⊢
   have k0 : wa.cell? ⟨wo.heap.size, 0, none⟩ = some (.int .i64 t.f0) := (blk_cell hg 0).trans rfl
   have k1 : wa.cell? ⟨wo.heap.size, 1, none⟩ = some (.int .i64 t.f1) := (blk_cell hg 1).trans rfl
   have k2 : wa.cell? ⟨wo.heap.size, 2, none⟩ = some (.int .i64 t.f2) := (blk_cell hg 2).trans rfl
   have k3 : wa.cell? ⟨wo.heap.size, 3, none⟩ = some (.bool t.f3) := (blk_cell hg 3).trans rfl
   clear hg h0 h1 h2 h3
   generalize wo.heap.size = g at k0 k1 k2 k3 HB3 ⊢
   have hS0 := fun (a : Addr) (u : Int) (h : wa.cell? a = some (.int .i64 u)) => kS (g := g) (t := t) ⟨HB2.out, k0, k1, k2, k3, h⟩ (below_drew (Below.refl wa.heap.size wa))
   have hi2 : i ≤ 65536 := by have := HL.out; omega
   have hkb := HKB.out
   obtain ⟨a, u, hau, hq⟩ : ∃ (a : Addr) (u : Int), wa.cell? a = some (.int .i64 u) ∧ (0 < i → a = ad.add (((i : Int) - 1).toNat * 4) ∧ u = q.f0) := by
    by_cases h0 : 0 < i
    ·obtain ⟨ad2, e2, k, _⟩ := HPQ.out h0
     cases e2
     exact ⟨_, _, (HB2.out.cell (World.block_lt_of_cell? w _ k)).trans k, fun _ => ⟨rfl, rfl⟩⟩
    ·exact ⟨_, _, k0, fun h => absurd h h0⟩
   have hSd := hS0 a u hau
   clear hS0 hau k0 k1 k2 k3
   have hcs : ∃ o r : Bool, oneB t.f0 t.f1 t.f2 = o ∧ kbad ts i = r ∧ ((o = false ∧ r = true) ∨ (o = true ∧ decide (0 < i) = false ∧ r = false) ∨ (o = true ∧ decide (0 < i) = true ∧ (1 ≤ (i : Int)) ∧ ((i : Int) - 1 < ts.length) ∧ IntKind.i64.wrap ((i : Int) - 1) = (i : Int) - 1 ∧ ad.add ((i - 1) * 4) = a ∧ decide (t.f0 < u) = r)) := by
    refine ⟨_, _, rfl, rfl, ?_⟩
    rw [hkb]
    cases ho : oneB t.f0 t.f1 t.f2 with
    | false => exact .inl ⟨rfl, rfl⟩
    | true =>
     by_cases h0 : 0 < i
     ·obtain ⟨rfl, rfl⟩ := hq h0
      exact .inr (.inr ⟨rfl, decide_eq_true h0, by omega, by omega, by rw [i64_w]; unfold wrap64; omega, by rw [show ((i : Int) - 1).toNat = i - 1 by omega], by simp [h0]⟩)
     ·exact .inr (.inl ⟨rfl, decide_eq_false h0, by simp [h0]⟩)
   clear hkb hq
   obtain ⟨o, r, ho, hr, hcs⟩ := hcs
   have HR2 := Aside0.mk hr
   clear hr
   rcases hcs with ⟨rfl, rfl⟩ | ⟨rfl, d0, rfl⟩ | ⟨rfl, d0, p2, q2, hw, ha, d1⟩
   rotate_left 2
   replace p2 := eq_true p2
   replace q2 := eq_true q2
   rotate_left
   all_goals (refine wp_region_held_drew (S := fun w' => Below w.heap.size w w' ∧ w'.cell? ⟨g, 0, none⟩ = some (.int .i64 t.f0) ∧ w'.cell? ⟨g, 1, none⟩ = some (.int .i64 t.f1) ∧ w'.cell? ⟨g, 2, none⟩ = some (.int .i64 t.f2) ∧ w'.cell? ⟨g, 3, none⟩ = some (.bool t.f3) ∧ w'.cell? a = some (.int .i64 u)) (by kernel_rfl) hSd (fun hHeld => ?_))
   all_goals (refine' wpAnyH_take (i := 0) ?_ ?_ ?_ ?_ ?_ ?_ ?_ ?_; rotate_left 2; (simp only [List.getElem?_toArray, List.getElem?_cons_succ, List.getElem?_cons_zero]; rfl); kernel_rfl; kernel_rfl; kernel_rfl; rotate_left; (first | exact Or.inr ⟨by rfl, rfl⟩ | (refine Or.inl ⟨by rfl, ?_⟩; rintro w' ⟨s0, s1, s2, s3, s4, s5⟩; go_simp; try with_reducible rfl)); rotate_right; exact fun _ _ _ h => h; assumption; try simp only [Act.put, List.setIfInBounds_toArray, List.set_cons_zero, List.set_cons_succ])
   all_goals (refine wpAnyH_ready (rs := [1]) (by kernel_rfl) (by simp) ?_; refine' AllReadyH.cons ?_ (fun K hK => ?_) AllReadyH.nil; rotate_left; (simp only [List.getElem?_toArray, List.getElem?_cons_succ, List.getElem?_cons_zero]; rfl); rw [if_pos (by rfl)]; go_simp; go_at_call 179; refine (one_calls t.f0 t.f1 t.f2 t.f3 _).mono ?_; rintro e w7 ⟨rfl, hb7⟩; rw [ho]; refine hK.out _ _ (kS hHeld hb7) (fun hHeld2 => ?_); clear hHeld; try simp only [Act.put, List.setIfInBounds_toArray, List.set_cons_zero, List.set_cons_succ])
   all_goals (refine' wpAnyH_take (i := 2) ?_ ?_ ?_ ?_ ?_ ?_ ?_ ?_; rotate_left 2; (simp only [List.getElem?_toArray, List.getElem?_cons_succ, List.getElem?_cons_zero]; rfl); kernel_rfl; kernel_rfl; kernel_rfl; rotate_left; (first | exact Or.inr ⟨by rfl, rfl⟩ | (refine Or.inl ⟨by rfl, ?_⟩; rintro w' ⟨s0, s1, s2, s3, s4, s5⟩; go_simp; try with_reducible rfl)); rotate_right; exact fun _ _ _ h => h; assumption; try simp only [Act.put, List.setIfInBounds_toArray, List.set_cons_zero, List.set_cons_succ])
   all_goals (refine' wpAnyH_take (i := 3) ?_ ?_ ?_ ?_ ?_ ?_ ?_ ?_; rotate_left 2; (simp only [List.getElem?_toArray, List.getElem?_cons_succ, List.getElem?_cons_zero]; rfl); kernel_rfl; kernel_rfl; kernel_rfl; rotate_left; (first | exact Or.inr ⟨by rfl, rfl⟩ | (refine Or.inl ⟨by rfl, ?_⟩; rintro w' ⟨s0, s1, s2, s3, s4, s5⟩; go_simp; try with_reducible rfl)); rotate_right; exact fun _ _ _ h => h; assumption; try simp only [Act.put, List.setIfInBounds_toArray, List.set_cons_zero, List.set_cons_succ])
   all_goals (refine' wpAnyH_take (i := 4) ?_ ?_ ?_ ?_ ?_ ?_ ?_ ?_; rotate_left 2; (simp only [List.getElem?_toArray, List.getElem?_cons_succ, List.getElem?_cons_zero]; rfl); kernel_rfl; kernel_rfl; kernel_rfl; rotate_left; (first | exact Or.inr ⟨by rfl, rfl⟩ | (refine Or.inl ⟨by rfl, ?_⟩; rintro w' ⟨s0, s1, s2, s3, s4, s5⟩; go_simp; try with_reducible rfl)); rotate_right; exact fun _ _ _ h => h; assumption; try simp only [Act.put, List.setIfInBounds_toArray, List.set_cons_zero, List.set_cons_succ])
   all_goals (refine' wpAnyH_take (i := 5) ?_ ?_ ?_ ?_ ?_ ?_ ?_ ?_; rotate_left 2; (simp only [List.getElem?_toArray, List.getElem?_cons_succ, List.getElem?_cons_zero]; rfl); kernel_rfl; kernel_rfl; kernel_rfl; rotate_left; (first | exact Or.inr ⟨by rfl, rfl⟩ | (refine Or.inl ⟨by rfl, ?_⟩; rintro w' ⟨s0, s1, s2, s3, s4, s5⟩; go_simp; try with_reducible rfl)); rotate_right; exact fun _ _ _ h => h; assumption; try simp only [Act.put, List.setIfInBounds_toArray, List.set_cons_zero, List.set_cons_succ])
   all_goals (refine' wpAnyH_take (i := 6) ?_ ?_ ?_ ?_ ?_ ?_ ?_ ?_; rotate_left 2; (simp only [List.getElem?_toArray, List.getElem?_cons_succ, List.getElem?_cons_zero]; rfl); kernel_rfl; kernel_rfl; kernel_rfl; rotate_left; (first | exact Or.inr ⟨by rfl, rfl⟩ | (refine Or.inl ⟨by rfl, ?_⟩; rintro w' ⟨s0, s1, s2, s3, s4, s5⟩; go_simp; try with_reducible rfl)); rotate_right; exact fun _ _ _ h => h; assumption; try simp only [Act.put, List.setIfInBounds_toArray, List.set_cons_zero, List.set_cons_succ])
   all_goals (refine' wpAnyH_take (i := 7) ?_ ?_ ?_ ?_ ?_ ?_ ?_ ?_; rotate_left 2; (simp only [List.getElem?_toArray, List.getElem?_cons_succ, List.getElem?_cons_zero]; rfl); kernel_rfl; kernel_rfl; kernel_rfl; rotate_left; (first | exact Or.inr ⟨by rfl, rfl⟩ | (refine Or.inl ⟨by rfl, ?_⟩; rintro w' ⟨s0, s1, s2, s3, s4, s5⟩; go_simp; try with_reducible rfl)); rotate_right; exact fun _ _ _ h => h; assumption; try simp only [Act.put, List.setIfInBounds_toArray, List.set_cons_zero, List.set_cons_succ])
   all_goals (refine' wpAnyH_take (i := 8) ?_ ?_ ?_ ?_ ?_ ?_ ?_ ?_; rotate_left 2; (simp only [List.getElem?_toArray, List.getElem?_cons_succ, List.getElem?_cons_zero]; rfl); kernel_rfl; kernel_rfl; kernel_rfl; rotate_left; (first | exact Or.inr ⟨by rfl, rfl⟩ | (refine Or.inl ⟨by rfl, ?_⟩; rintro w' ⟨s0, s1, s2, s3, s4, s5⟩; go_simp; try with_reducible rfl)); rotate_right; exact fun _ _ _ h => h; assumption; try simp only [Act.put, List.setIfInBounds_toArray, List.set_cons_zero, List.set_cons_succ])
   all_goals (refine' wpAnyH_take (i := 9) ?_ ?_ ?_ ?_ ?_ ?_ ?_ ?_; rotate_left 2; (simp only [List.getElem?_toArray, List.getElem?_cons_succ, List.getElem?_cons_zero]; rfl); kernel_rfl; kernel_rfl; kernel_rfl; rotate_left; (first | exact Or.inr ⟨by rfl, rfl⟩ | (refine Or.inl ⟨by rfl, ?_⟩; rintro w' ⟨s0, s1, s2, s3, s4, s5⟩; go_simp; try with_reducible rfl)); rotate_right; exact fun _ _ _ h => h; assumption; try simp only [Act.put, List.setIfInBounds_toArray, List.set_cons_zero, List.set_cons_succ])
   all_goals (refine' wpAnyH_take (i := 10) ?_ ?_ ?_ ?_ ?_ ?_ ?_ ?_; rotate_left 2; (simp only [List.getElem?_toArray, List.getElem?_cons_succ, List.getElem?_cons_zero]; rfl); kernel_rfl; kernel_rfl; kernel_rfl; rotate_left; (first | exact Or.inr ⟨by rfl, rfl⟩ | (refine Or.inl ⟨by rfl, ?_⟩; rintro w' ⟨s0, s1, s2, s3, s4, s5⟩; go_simp; try with_reducible rfl)); rotate_right; exact fun _ _ _ h => h; assumption; try simp only [Act.put, List.setIfInBounds_toArray, List.set_cons_zero, List.set_cons_succ])
   all_goals (refine' wpAnyH_take (i := 11) ?_ ?_ ?_ ?_ ?_ ?_ ?_ ?_; rotate_left 2; (simp only [List.getElem?_toArray, List.getElem?_cons_succ, List.getElem?_cons_zero]; rfl); kernel_rfl; kernel_rfl; kernel_rfl; rotate_left; (first | exact Or.inr ⟨by rfl, rfl⟩ | (refine Or.inl ⟨by rfl, ?_⟩; rintro w' ⟨s0, s1, s2, s3, s4, s5⟩; go_simp; try with_reducible rfl)); rotate_right; exact fun _ _ _ h => h; assumption; try simp only [Act.put, List.setIfInBounds_toArray, List.set_cons_zero, List.set_cons_succ])
   all_goals (refine' wpAnyH_take (i := 12) ?_ ?_ ?_ ?_ ?_ ?_ ?_ ?_; rotate_left 2; (simp only [List.getElem?_toArray, List.getElem?_cons_succ, List.getElem?_cons_zero]; rfl); kernel_rfl; kernel_rfl; kernel_rfl; rotate_left; (first | exact Or.inr ⟨by rfl, rfl⟩ | (refine Or.inl ⟨by rfl, ?_⟩; rintro w' ⟨s0, s1, s2, s3, s4, s5⟩; go_simp; try with_reducible rfl)); rotate_right; exact fun _ _ _ h => h; assumption; try simp only [Act.put, List.setIfInBounds_toArray, List.set_cons_zero, List.set_cons_succ])
   all_goals (refine' wpAnyH_take (i := 13) ?_ ?_ ?_ ?_ ?_ ?_ ?_ ?_; rotate_left 2; (simp only [List.getElem?_toArray, List.getElem?_cons_succ, List.getElem?_cons_zero]; rfl); kernel_rfl; kernel_rfl; kernel_rfl; rotate_left; (first | exact Or.inr ⟨by rfl, rfl⟩ | (refine Or.inl ⟨by rfl, ?_⟩; rintro w' ⟨s0, s1, s2, s3, s4, s5⟩; go_simp; try with_reducible rfl)); rotate_right; exact fun _ _ _ h => h; assumption; try simp only [Act.put, List.setIfInBounds_toArray, List.set_cons_zero, List.set_cons_succ])
   all_goals (refine' wpAnyH_take (i := 14) ?_ ?_ ?_ ?_ ?_ ?_ ?_ ?_; rotate_left 2; (simp only [List.getElem?_toArray, List.getElem?_cons_succ, List.getElem?_cons_zero]; rfl); kernel_rfl; kernel_rfl; kernel_rfl; rotate_left; (first | exact Or.inr ⟨by rfl, rfl⟩ | (refine Or.inl ⟨by rfl, ?_⟩; rintro w' ⟨s0, s1, s2, s3, s4, s5⟩; go_simp; try with_reducible rfl)); rotate_right; exact fun _ _ _ h => h; assumption; try simp only [Act.put, List.setIfInBounds_toArray, List.set_cons_zero, List.set_cons_succ])
   all_goals (refine' wpAnyH_take (i := 15) ?_ ?_ ?_ ?_ ?_ ?_ ?_ ?_; rotate_left 2; (simp only [List.getElem?_toArray, List.getElem?_cons_succ, List.getElem?_cons_zero]; rfl); kernel_rfl; kernel_rfl; kernel_rfl; rotate_left; (first | exact Or.inr ⟨by rfl, rfl⟩ | (refine Or.inl ⟨by rfl, ?_⟩; rintro w' ⟨s0, s1, s2, s3, s4, s5⟩; go_simp; try with_reducible rfl)); rotate_right; exact fun _ _ _ h => h; assumption; try simp only [Act.put, List.setIfInBounds_toArray, List.set_cons_zero, List.set_cons_succ])
   all_goals (refine' wpAnyH_take (i := 16) ?_ ?_ ?_ ?_ ?_ ?_ ?_ ?_; rotate_left 2; (simp only [List.getElem?_toArray, List.getElem?_cons_succ, List.getElem?_cons_zero]; rfl); kernel_rfl; kernel_rfl; kernel_rfl; rotate_left; (first | exact Or.inr ⟨by rfl, rfl⟩ | (refine Or.inl ⟨by rfl, ?_⟩; rintro w' ⟨s0, s1, s2, s3, s4, s5⟩; go_simp; try with_reducible rfl)); rotate_right; exact fun _ _ _ h => h; assumption; try simp only [Act.put, List.setIfInBounds_toArray, List.set_cons_zero, List.set_cons_succ])
   all_goals (refine' wpAnyH_take (i := 17) ?_ ?_ ?_ ?_ ?_ ?_ ?_ ?_; rotate_left 2; (simp only [List.getElem?_toArray, List.getElem?_cons_succ, List.getElem?_cons_zero]; rfl); kernel_rfl; kernel_rfl; kernel_rfl; rotate_left; (first | exact Or.inr ⟨by rfl, rfl⟩ | (refine Or.inl ⟨by rfl, ?_⟩; rintro w' ⟨s0, s1, s2, s3, s4, s5⟩; go_simp; try with_reducible rfl)); rotate_right; exact fun _ _ _ h => h; assumption; try simp only [Act.put, List.setIfInBounds_toArray, List.set_cons_zero, List.set_cons_succ])
   all_goals refine wpAnyH_done (by kernel_rfl) ?_ _
   ·go_wp2
    go_ret
    exact ⟨HFAIL.out HR2.out, hHeld2.1⟩
   ·cases gk with
    | zero => exact absurd HK.out (by omega)
    | succ k1 =>
     have HBX := Aside0.mk hHeld2.1
     clear hHeld2
     go_wp2
     go_roundg k1
     case measure => have := HK.out; omega
     case rel => exact ⟨i + 1, by first | rfl | (rw [wrap64_add1 (by omega) (by omega)]; rfl), by omega, ⟨by have := HK.out; omega⟩, ⟨HNEXT.out HR2.out⟩, HBX⟩
   ·cases r with
    | true =>
     go_wp2
     go_ret
     exact ⟨HFAIL.out HR2.out, hHeld2.1⟩
    | false =>
     cases gk with
     | zero => exact absurd HK.out (by omega)
     | succ k1 =>
      have HBX := Aside0.mk hHeld2.1
      clear hHeld2
      go_wp2
      go_roundg k1
      case measure => have := HK.out; omega
      case rel => exact ⟨i + 1, by first | rfl | (rw [wrap64_add1 (by omega) (by omega)]; rfl), by omega, ⟨by have := HK.out; omega⟩, ⟨HNEXT.out HR2.out⟩, HBX⟩
  ·have hc0 : decide ((i : Int) < (ts.length : Int)) = false := decide_eq_false (by omega)
   have hc1 : decide (i < ts.length) = false := decide_eq_false hc
   have HN2 := Aside0.mk (show kchk ts = 0 by
    have h := HN.out
    rw [show i = ts.length by omega] at h
    rw [HX.out, h]; rfl)
   go_wp2
   go_ret
   exact ⟨HE.out _ HN2.out.symm, HB.out⟩
def keysIs (_ : Nat) (ts : List S184) (kk : Int) : Prop := kchk ts = kk
theorem keys_C (K : Nat) (A : Option Addr) (c : Nat) (ts : List S184) (kk : Int) (w : World) (hr : Kd.C k184 w A ts.length ts) (hc : ts.length ≤ c) (hk : keysIs K ts kk) : Calls Tryz.prog 119 #[.slice A ts.length c] w fun e w' => e = .returned (.int .i64 kk) ∧ Below w.heap.size w w' := by
 have h : kchk ts = kk := hk
 subst h
 exact keys_calls A c ts w hr
end Go.Sim
