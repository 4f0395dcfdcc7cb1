/- A part of the proof that LockParts returns true for every input. No condition. -/
import Derived.Test.YtdppeaciahdekaaGreatG25
import Derived.Test.YtdppeaciahdekaaGreatG20
import Derived.Test.YtdppeaciahdekaaGreatG24
import Derived.StillTailTactics
import Derived.Test.YtdppeaciahdekaaGreatG21
set_option linter.all false
section
set_option maxRecDepth 1000000
namespace Go.Sim
attribute [local instance] noRO
open Go.Proofs.Tryz
def joinR (b : Nat) (ρc ρu ρa ρf : Ren) : Ren := fun i => if i = 0 then some ⟨b, 0, 0⟩ else if i < 15 then ρc (i - 1) else if i < 17 then ρu (i - 15) else if i = 17 then ρa 0 else if i < 20 then ρf (i - 18) else none
theorem joinR_c {b : Nat} {ρc ρu ρa ρf : Ren} {i : Nat} (h : i < 14) : joinR b ρc ρu ρa ρf (i + 1) = ρc i := by
 unfold joinR
 rw [if_neg (by omega), if_pos (by omega)]; rfl
theorem joinR_u {b : Nat} {ρc ρu ρa ρf : Ren} {i : Nat} (h : i < 2) : joinR b ρc ρu ρa ρf (i + 15) = ρu i := by
 unfold joinR
 rw [if_neg (by omega), if_neg (by omega), if_pos (by omega)]; simp
theorem joinR_f {b : Nat} {ρc ρu ρa ρf : Ren} {i : Nat} (h : i < 2) : joinR b ρc ρu ρa ρf (i + 18) = ρf i := by
 unfold joinR
 rw [if_neg (by omega), if_neg (by omega), if_neg (by omega), if_neg (by omega), if_pos (by omega)]; simp
theorem cpu_get_lt {σ : Sig} {j : Nat} (h : j < 14) : (instH σ cpuH).get j = some (blkAt (instH σ cpuH) j) := by
 have : ∃ b, (instH σ cpuH).get j = some b := by
  rw [cpuH_get]
  have hl : j < (cpuP (u8v 17) (.sb (.v 29)) (i64v 30) (i64v 31) :: cpuR).length := h
  exact ⟨_, by rw [List.getElem?_eq_getElem hl]; rfl⟩
 obtain ⟨b, hb⟩ := this
 rw [blkAt_of hb, hb]
theorem mach_rep {c u a f : Sig} {ρc ρu ρa ρf : Ren} {w : World} {B1 B2 B3 b : Nat} {lc lu la lf : Loc} {t : TypeId}
  (hc : Rep ρc (instH c cpuH) w) (hu : Rep ρu (instH u ulaH) w) (ha : Rep ρa (instH a ayH) w) (hf : Rep ρf (instH f fdcH) w)
  (h0c : ρc 0 = some lc) (h0u : ρu 0 = some lu) (h0a : ρa 0 = some la) (h0f : ρf 0 = some lf)
  (kc : ∀ k, foot ρc (instH c cpuH) k → k < B1) (ku : B1 ≤ lu.blk) (ku' : lu.blk < B2) (ka : B2 ≤ la.blk) (ka' : la.blk < B3) (kf : B3 ≤ lf.blk) (kf' : lf.blk < b) (h12 : B1 ≤ B2) (h23 : B2 ≤ B3) (h3 : B3 ≤ b)
  (hb : w.heap[b]? = some (.cells #[.pointer (some ⟨lc.blk, lc.off, none⟩), .pointer (some ⟨lu.blk, lu.off, none⟩), .pointer (some ⟨la.blk, la.off, none⟩), .pointer (some ⟨lf.blk, lf.off, none⟩), .int .i64 0] t (0, 0))) :
  Rep (joinR b ρc ρu ρa ρf) (machine c u a f 0) w := by
 have mono : ∀ (ρ : Ren) (k n : Nat), (∀ i l, ρ i = some l → i < n) → (∀ i, i < n → joinR b ρc ρu ρa ρf (i + k) = ρ i) → ∀ i l, ρ i = some l → joinR b ρc ρu ρa ρf (i + k) = some l := fun ρ k n hd hj i l h => by rw [hj i (hd i l h), h]
 have mc := mono ρc 1 14 hc.dom (fun i h => joinR_c h)
 have mu := mono ρu 15 2 hu.dom (fun i h => joinR_u h)
 have mf := mono ρf 18 2 hf.dom (fun i h => joinR_f h)
 have ma := mono ρa 17 1 ha.dom (fun i h => by have : i = 0 := by omega
                                               subst this; rfl)
 have g1 : ∀ j, j < 14 → ∃ l o, ρc j = some l ∧ w.heap[l.blk]? = some o ∧ BR ρc l (blkAt (instH c cpuH) j) o ∧ l.blk < B1 := fun j hj => by
  obtain ⟨l, o, e1, e2, e3, _⟩ := hc.live j _ (cpu_get_lt hj)
  exact ⟨l, o, e1, e2, e3, kc _ ⟨j, _, l, cpu_get_lt hj, e1, rfl⟩⟩
 have wr1 : ∀ j, j < 14 → (blkAt (instH c cpuH) j).wr = true := fun j hj => by
  have h := cpu_get_lt (σ := c) hj
  rw [cpuH_get] at h
  obtain ⟨x, _, hx⟩ := Option.map_eq_some_iff.1 h
  rw [← hx]; rfl
 -- which block, and where
 have cls : ∀ i bi l, (machine c u a f 0).get i = some bi → joinR b ρc ρu ρa ρf i = some l → (i = 0 ∧ l.blk = b) ∨ (∃ j, j < 14 ∧ i = j + 1 ∧ ρc j = some l ∧ l.blk < B1) ∨ (i = 15 ∧ l = lu) ∨ (i = 17 ∧ l = la) ∨ (i = 18 ∧ l = lf) := by
  intro i bi l hi hl
  rcases mach_cases hi with ⟨rfl, _⟩ | ⟨j, hj, rfl, _⟩ | ⟨rfl, _⟩ | ⟨rfl, _⟩ | ⟨rfl, _⟩
  ·cases hl; exact .inl ⟨rfl, rfl⟩
  ·rw [joinR_c hj] at hl
   obtain ⟨l', o, e1, _, _, e4⟩ := g1 j hj
   rw [hl] at e1; cases e1
   exact .inr (.inl ⟨j, hj, rfl, hl, e4⟩)
  ·have : ρu 0 = some l := hl
   rw [h0u] at this; cases this
   exact .inr (.inr (.inl ⟨rfl, rfl⟩))
  ·have : ρa 0 = some l := hl
   rw [h0a] at this; cases this
   exact .inr (.inr (.inr (.inl ⟨rfl, rfl⟩)))
  ·have : ρf 0 = some l := hl
   rw [h0f] at this; cases this
   exact .inr (.inr (.inr (.inr ⟨rfl, rfl⟩)))
 refine ⟨fun i bi hi => ?_, fun i j bi bj li lj hi hj _ _ hli hlj e => ?_, fun b hb => hb.elim, fun i l hl => ?_, fun b hb => hb.elim, fun b hb => (hb : False).elim⟩
 ·rcases mach_cases hi with ⟨rfl, rfl⟩ | ⟨j, hj, rfl, rfl⟩ | ⟨rfl, rfl⟩ | ⟨rfl, rfl⟩ | ⟨rfl, rfl⟩
  ·refine ⟨⟨b, 0, 0⟩, _, rfl, hb, .cells (fun _ => rfl) (by show 0 + 5 + 0 ≤ 5; omega) (fun _ => rfl) ?_, fun _ h => h, fun h => by cases h⟩
   intro i hi
   have hi : i < 5 := hi
   match i, hi with
   | 0, _ => exact ⟨_, _, rfl, rfl, rfl, .ptr (i := 1) (o := 0) (mc 0 lc h0c)⟩
   | 1, _ => exact ⟨_, _, rfl, rfl, rfl, .ptr (i := 15) (o := 0) (mu 0 lu h0u)⟩
   | 2, _ => exact ⟨_, _, rfl, rfl, rfl, .ptr (i := 17) (o := 0) (ma 0 la h0a)⟩
   | 3, _ => exact ⟨_, _, rfl, rfl, rfl, .ptr (i := 18) (o := 0) (mf 0 lf h0f)⟩
   | 4, _ => exact ⟨_, _, rfl, rfl, rfl, .int _ _⟩
   | n + 5, h => exact absurd h (by omega)
  ·obtain ⟨l, o, e1, e2, e3, _⟩ := g1 j hj
   exact ⟨l, o, mc j l e1, e2, BR.ren mc e3, fun _ h => h, fun h => by rw [ABlk.ren_wr, wr1 j hj] at h; cases h⟩
  ·obtain ⟨l, o, e1, e2, e3, _⟩ := hu.live 0 _ (one0 u 2 _)
   exact ⟨l, o, mu 0 l e1, e2, BR.ren mu e3, fun _ h => h, fun h => by rw [ABlk.ren_wr] at h; cases h⟩
  ·obtain ⟨l, o, e1, e2, e3, _⟩ := ha.live 0 _ (one0 a 1 _)
   exact ⟨l, o, ma 0 l e1, e2, BR.ren ma e3, fun _ h => h, fun h => by rw [ABlk.ren_wr] at h; cases h⟩
  ·obtain ⟨l, o, e1, e2, e3, _⟩ := hf.live 0 _ (one0 f 2 _)
   exact ⟨l, o, mf 0 l e1, e2, BR.ren mf e3, fun _ h => h, fun h => by rw [ABlk.ren_wr] at h; cases h⟩
 ·have ci := cls i bi li hi hli
  have cj := cls j bj lj hj hlj
  rcases ci with ⟨rfl, q1⟩ | ⟨i, p1, rfl, q1, r1⟩ | ⟨rfl, rfl⟩ | ⟨rfl, rfl⟩ | ⟨rfl, rfl⟩ <;> rcases cj with ⟨rfl, q2⟩ | ⟨j, p2, rfl, q2, r2⟩ | ⟨rfl, rfl⟩ | ⟨rfl, rfl⟩ | ⟨rfl, rfl⟩ <;> first
   | rfl
   | (exfalso; omega)
   | (rw [hc.inj i j _ _ li lj (cpu_get_lt p1) (cpu_get_lt p2) (wr1 i p1) (wr1 j p2) q1 q2 e])
 ·show i < 20
  unfold joinR at hl
  by_cases h : i < 20
  ·exact h
  ·rw [if_neg (by omega), if_neg (by omega), if_neg (by omega), if_neg (by omega), if_neg h] at hl
   cases hl
theorem mach_foot {c u a f : Sig} {ρc ρu ρa ρf : Ren} {b B : Nat} {lu la lf : Loc} (h0u : ρu 0 = some lu) (h0a : ρa 0 = some la) (h0f : ρf 0 = some lf) (kc : ∀ k, foot ρc (instH c cpuH) k → B ≤ k) (ku : B ≤ lu.blk) (ka : B ≤ la.blk) (kf : B ≤ lf.blk) (kb : B ≤ b) (k : Nat)
  (h : foot (joinR b ρc ρu ρa ρf) (machine c u a f 0) k) : B ≤ k := by
 obtain ⟨i, bi, l, hi, hl, rfl⟩ := h
 rcases mach_cases hi with ⟨rfl, _⟩ | ⟨j, hj, rfl, _⟩ | ⟨rfl, _⟩ | ⟨rfl, _⟩ | ⟨rfl, _⟩
 ·cases hl; exact kb
 ·rw [joinR_c hj] at hl
  exact kc _ ⟨j, _, l, cpu_get_lt hj, hl, rfl⟩
 ·have : ρu 0 = some l := hl
  rw [h0u] at this; cases this; exact ku
 ·have : ρa 0 = some l := hl
  rw [h0a] at this; cases this; exact ka
 ·have : ρf 0 = some l := hl
  rw [h0f] at this; cases this; exact kf
end Go.Sim
end
section
namespace Go.Sim
attribute [local instance] noRO
open Go.Proofs Go.RowKit Go.Proofs.YtdppeaciahdekaaGreatW.PrintWords Go.Proofs.YtdppeaciahdekaaGreatW.PrintLast Go.Proofs.YtdppeaciahdekaaGreatW.PrintMore
open Go.Proofs.YtdppeaciahdekaaGreat.PLockParts
theorem raw_form {n e B : Nat} {w : World} {v : Value} {xs : List (List Value)} {ok : Nat → Prop} (h : Kd.R (kraw n) e w B ok v xs) : v = .slice none 0 0 ∨ ∃ g n c, v = .slice (some ⟨g, 0, none⟩) n c := by
 obtain ⟨h1, inner, ho, hr⟩ := h
 rcases ho.2 with ⟨rfl, _⟩ | ⟨g, cap, cur, rfl, _⟩
 ·exact .inl rfl
 ·exact .inr ⟨_, _, _, rfl⟩
def fdcC (f0 f1 : Int) (fb : Bool) (v : Value) : Array Value := #[.int .i64 f0, .int .i64 f1, .bool fb, v, .int .i64 0, .int .i64 0, .bool false, .int .i64 0, .bool false, .int .i64 1, .int .u8 0, .slice none 0 0, .int .i64 0, .int .i64 0, .int .i64 0, .int .i64 0, .slice none 0 0, .slice none 0 0, .int .u8 128, .int .i64 0, .int .i64 0]
def fdcSig (f0 f1 : Int) (fb : Bool) (n c : Nat) (o : Option (Nat × Nat)) : Sig := ⟨fun j => if j = 0 then f0 else if j = 1 then f1 else if j = 2 then (if fb = true then 1 else 0) else 0, fun _ _ => 0, fun j => if j = 0 then (o, n, c) else (none, 0, 0), fun _ => default, fun _ => (none, 0, 0)⟩
theorem fdc_rep {f0 f1 : Int} {fb : Bool} {v : Value} {w : World} {g : Nat} {t : TypeId} (h0 : 1 ≤ f0 ∧ f0 ≤ 1048576) (h1 : 1 ≤ f1 ∧ f1 ≤ 1048576) (hg : w.heap[g]? = some (.cells (fdcC f0 f1 fb v) t (0, 0))) (hv : v = .slice none 0 0 ∨ ∃ g n c, v = .slice (some ⟨g, 0, none⟩) n c) :
  ∃ (σ : Sig) (ρ : Ren), ρ 0 = some ⟨g, 0, 0⟩ ∧ fdcV.fit σ ∧ σ.v 3 = 0 ∧ Rep ρ (instH σ fdcH) w := by
 have key : ∀ (n c : Nat) (o : Option (Nat × Nat)) (ρ : Ren), ρ 0 = some ⟨g, 0, 0⟩ → (∀ i l, ρ i = some l → i < 2) → VR ρ (.slice o n c) v → (∀ i p, o = some (i, p) → i < 2) → ∃ (σ : Sig) (ρ : Ren), ρ 0 = some ⟨g, 0, 0⟩ ∧ fdcV.fit σ ∧ σ.v 3 = 0 ∧ Rep ρ (instH σ fdcH) w := by
  intro n c o ρ hρ hd hvr ho
  refine ⟨fdcSig f0 f1 fb n c o, ρ, hρ, ⟨fun j => ?_, fun j i => ⟨Int.le_refl _, Int.le_refl _⟩, fun j i p e => ?_⟩, rfl, ?_⟩
  ·match j with
   | 0 => exact h0
   | 1 => exact h1
   | 2 => show Rg.has ⟨0, 1⟩ (if fb = true then (1 : Int) else 0); cases fb <;> exact ⟨by decide, by decide⟩
   | 3 => exact ⟨Int.le_refl _, by show (0 : Int) ≤ 16777216; decide⟩
   | _ + 4 => exact ⟨Int.le_refl _, Int.le_refl _⟩
  ·by_cases hj : j = 0
   ·subst hj; exact ho i p e
   ·have e : (if j = 0 then (o, n, c) else (none, 0, 0)).1 = some (i, p) := e
    rw [if_neg hj] at e; cases e
  ·refine ⟨fun i b hb => ?_, fun i j bi bj li lj hi hj _ _ _ _ _ => ?_, fun b hb => hb.elim, hd, fun b hb => hb.elim, fun b hb => (hb : False).elim⟩
   ·have hb : (instH (fdcSig f0 f1 fb n c o) (oneS 2 (fdcP (i64v 3)))).get i = some b := hb
    rw [oneS_get] at hb
    split at hb
    ·rename_i h
     subst h
     obtain rfl := Option.some.inj hb
     refine ⟨⟨g, 0, 0⟩, _, hρ, hg, .cells (fun _ => rfl) (by show 0 + 21 + 0 ≤ 21; omega) (fun _ => rfl) ?_, fun _ h => h, fun h => by cases h⟩
     intro i hi
     have hi : i < 21 := hi
     match i, hi with
     | 0, _ | 1, _ | 4, _ | 5, _ | 7, _ | 9, _ | 10, _ | 12, _ | 13, _ | 14, _ | 15, _ | 18, _ | 19, _ | 20, _ => exact ⟨_, _, rfl, rfl, rfl, .int _ _⟩
     | 6, _ | 8, _ => exact ⟨_, _, rfl, rfl, rfl, .bool _⟩
     | 2, _ => exact ⟨_, _, rfl, rfl, rfl, by show VR _ (AVal.bool (decide ((if fb = true then (1 : Int) else 0) ≠ 0))) (Value.bool fb); cases fb <;> exact .bool _⟩
     | 3, _ => exact ⟨_, _, rfl, rfl, rfl, hvr⟩
     | 11, _ | 16, _ | 17, _ => exact ⟨_, _, rfl, rfl, rfl, .sliceNil⟩
     | n + 21, h => exact absurd h (by omega)
    ·cases hb
   ·have hi : (instH (fdcSig f0 f1 fb n c o) (oneS 2 (fdcP (i64v 3)))).get i = some bi := hi
    have hj : (instH (fdcSig f0 f1 fb n c o) (oneS 2 (fdcP (i64v 3)))).get j = some bj := hj
    rw [oneS_get] at hi hj
    split at hi
    ·rename_i e
     split at hj
     ·rename_i e'; rw [e, e']
     ·cases hj
    ·cases hi
 rcases hv with rfl | ⟨b, n, c, rfl⟩
 ·exact key 0 0 none (fun i => if i = 0 then some ⟨g, 0, 0⟩ else none) rfl (fun i l h => by
   by_cases hi : i = 0
   ·omega
   ·simp only [if_neg hi] at h; cases h) .sliceNil (fun i p h => by cases h)
 ·exact key n c (some (1, 0)) (fun i => if i = 0 then some ⟨g, 0, 0⟩ else if i = 1 then some ⟨b, 0, 0⟩ else none) rfl (fun i l h => by
   by_cases hi : i = 0
   ·omega
   ·by_cases hi1 : i = 1
    ·omega
    ·simp only [if_neg hi, if_neg hi1] at h; cases h) (.slice (i := 1) (o := 0) (l := ⟨b, 0, 0⟩) rfl) (fun i p h => by cases h; omega)
theorem dsk_bounds {a0 a1 : Int} {b : Bool} {ds : List (List S218)} (h : dskChk a0 a1 b ds = 0) : (1 ≤ a0 ∧ a0 ≤ 1048576) ∧ 1 ≤ a1 ∧ a1 ≤ 1048576 := by
 unfold dskChk at h
 by_cases c1 : a0 < 1
 ·rw [if_pos c1] at h; omega
 by_cases c2 : a0 > 1048576
 ·rw [if_neg c1, if_pos c2] at h; omega
 by_cases c3 : a1 < 1
 ·rw [if_neg c1, if_neg c2, if_pos c3] at h; omega
 by_cases c4 : a1 > 1048576
 ·rw [if_neg c1, if_neg c2, if_neg c3, if_pos c4] at h; omega
 omega
set_option maxHeartbeats 8000000 in
set_option maxRecDepth 100000 in
theorem fdc_new_calls (f0 f1 : Int) (fb : Bool) (t : Dsk) (hok : dskChk f0 f1 fb t.ds = 0) (w : World) (ht : t.lies w) :
  Calls Tryz.prog 53 #[.agg #[.int .i64 f0, .int .i64 f1, .bool fb, .slice t.A t.ds.length t.c]] w fun e w' => ∃ (σ : Sig) (ρ : Ren) (g : Nat), e = .returned (.tuple #[.pointer (some ⟨g, 0, none⟩), .int .i64 0]) ∧ ρ 0 = some ⟨g, 0, 0⟩ ∧ w.heap.size ≤ g ∧ fdcV.fit σ ∧ σ.v 3 = 0 ∧ Rep ρ (instH σ fdcH) w' ∧ Below w.heap.size w w' := by
 have hu41 := Tryz.underlying41
 have hu39 := Tryz.underlying39
 have HT := Aside0.mk ht
 have HD := Aside0.mk (dsk_bounds hok)
 have HOK := Aside0.mk hok
 clear ht hok
 have HB1 := Aside0.mk (below_alloc (Below.refl w.heap.size w) (Obj.cells #[.int .i64 f0, .int .i64 f1, .bool fb, .slice t.A t.ds.length t.c] 41))
 have HK1 := Aside0.mk (heap_alloc_new w (Obj.cells #[.int .i64 f0, .int .i64 f1, .bool fb, .slice t.A t.ds.length t.c] 41))
 go_enter Tryz.func53, Tryz.ntmps53
 cases fb with
 | false =>
  go_wp2_with (first | (go_at_call 109; refine (fdc_check f0 f1 _ t _ (HT.out.below HB1.out)).mono ?_; rintro e w5 ⟨rfl, hb5⟩; rw [HOK.out]; have HK5 := Aside0.mk ((hb5.block w.heap.size (by simp)).trans HK1.out); have HB5 := Aside0.mk (below_then HB1.out HB1.out.size hb5); have c0 : w5.cell? ⟨w.heap.size, 0, none⟩ = some (.int .i64 f0) := (blk_cell HK5.out 0).trans rfl; have c1 : w5.cell? ⟨w.heap.size, 1, none⟩ = some (.int .i64 f1) := (blk_cell HK5.out 1).trans rfl; have c2 : w5.cell? ⟨w.heap.size, 2, none⟩ = some (.bool false) := (blk_cell HK5.out 2).trans rfl; have hk6 := ((below_alloc (Below.refl w5.heap.size w5) (Obj.cells #[.int .i64 f0, .int .i64 f1, .bool false, .slice none 0 0, .int .i64 0, .int .i64 0, .bool false, .int .i64 0, .bool false, .int .i64 1, .int .u8 0, .slice none 0 0, .int .i64 0, .int .i64 0, .int .i64 0, .int .i64 0, .slice none 0 0, .slice none 0 0, .int .u8 128, .int .i64 0, .int .i64 0] 201)).block w.heap.size (blk_lt HK5.out)).trans HK5.out; have c62 : (w5.alloc (Obj.cells #[.int .i64 f0, .int .i64 f1, .bool false, .slice none 0 0, .int .i64 0, .int .i64 0, .bool false, .int .i64 0, .bool false, .int .i64 1, .int .u8 0, .slice none 0 0, .int .i64 0, .int .i64 0, .int .i64 0, .int .i64 0, .slice none 0 0, .slice none 0 0, .int .u8 128, .int .i64 0, .int .i64 0] 201)).cell? ⟨w.heap.size, 2, none⟩ = some (.bool false) := (blk_cell hk6 2).trans rfl; have c63 : (w5.alloc (Obj.cells #[.int .i64 f0, .int .i64 f1, .bool false, .slice none 0 0, .int .i64 0, .int .i64 0, .bool false, .int .i64 0, .bool false, .int .i64 1, .int .u8 0, .slice none 0 0, .int .i64 0, .int .i64 0, .int .i64 0, .int .i64 0, .slice none 0 0, .slice none 0 0, .int .u8 128, .int .i64 0, .int .i64 0] 201)).cell? ⟨w.heap.size, 3, none⟩ = some (.slice t.A t.ds.length t.c) := (blk_cell hk6 3).trans rfl; have HK6 := Aside0.mk hk6; clear hk6; clear hb5))
  go_ret2
  have hq := heap_alloc_new w5 (Obj.cells (fdcC f0 f1 false (.slice none 0 0)) 201)
  obtain ⟨σ, ρ, r1, r2, r3, r4⟩ := fdc_rep HD.out.1 HD.out.2 hq (.inl rfl)
  exact ⟨σ, ρ, _, rfl, r1, HB5.out.size, r2, r3, r4, below_then HB5.out HB5.out.size (below_alloc (Below.refl _ _) _)⟩
 | true =>
  go_wp2_with (first | (go_at_call 109; refine (fdc_check f0 f1 _ t _ (HT.out.below HB1.out)).mono ?_; rintro e w5 ⟨rfl, hb5⟩; rw [HOK.out]; have HK5 := Aside0.mk ((hb5.block w.heap.size (by simp)).trans HK1.out); have HB5 := Aside0.mk (below_then HB1.out HB1.out.size hb5); have c0 : w5.cell? ⟨w.heap.size, 0, none⟩ = some (.int .i64 f0) := (blk_cell HK5.out 0).trans rfl; have c1 : w5.cell? ⟨w.heap.size, 1, none⟩ = some (.int .i64 f1) := (blk_cell HK5.out 1).trans rfl; have c2 : w5.cell? ⟨w.heap.size, 2, none⟩ = some (.bool true) := (blk_cell HK5.out 2).trans rfl; have hk6 := ((below_alloc (Below.refl w5.heap.size w5) (Obj.cells #[.int .i64 f0, .int .i64 f1, .bool true, .slice none 0 0, .int .i64 0, .int .i64 0, .bool false, .int .i64 0, .bool false, .int .i64 1, .int .u8 0, .slice none 0 0, .int .i64 0, .int .i64 0, .int .i64 0, .int .i64 0, .slice none 0 0, .slice none 0 0, .int .u8 128, .int .i64 0, .int .i64 0] 201)).block w.heap.size (blk_lt HK5.out)).trans HK5.out; have c62 : (w5.alloc (Obj.cells #[.int .i64 f0, .int .i64 f1, .bool true, .slice none 0 0, .int .i64 0, .int .i64 0, .bool false, .int .i64 0, .bool false, .int .i64 1, .int .u8 0, .slice none 0 0, .int .i64 0, .int .i64 0, .int .i64 0, .int .i64 0, .slice none 0 0, .slice none 0 0, .int .u8 128, .int .i64 0, .int .i64 0] 201)).cell? ⟨w.heap.size, 2, none⟩ = some (.bool true) := (blk_cell hk6 2).trans rfl; have c63 : (w5.alloc (Obj.cells #[.int .i64 f0, .int .i64 f1, .bool true, .slice none 0 0, .int .i64 0, .int .i64 0, .bool false, .int .i64 0, .bool false, .int .i64 1, .int .u8 0, .slice none 0 0, .int .i64 0, .int .i64 0, .int .i64 0, .int .i64 0, .slice none 0 0, .slice none 0 0, .int .u8 128, .int .i64 0, .int .i64 0] 201)).cell? ⟨w.heap.size, 3, none⟩ = some (.slice t.A t.ds.length t.c) := (blk_cell hk6 3).trans rfl; have HK6 := Aside0.mk hk6; clear hk6; clear hb5) | (go_at_call 110; have hb6 := below_then HB5.out HB5.out.size (below_alloc (Below.refl w5.heap.size w5) (Obj.cells #[.int .i64 f0, .int .i64 f1, .bool true, .slice none 0 0, .int .i64 0, .int .i64 0, .bool false, .int .i64 0, .bool false, .int .i64 1, .int .u8 0, .slice none 0 0, .int .i64 0, .int .i64 0, .int .i64 0, .int .i64 0, .slice none 0 0, .slice none 0 0, .int .u8 128, .int .i64 0, .int .i64 0] 201)); refine (image_copy_calls t.A t.c t.ds _ (HT.out.below hb6).r (HT.out.below hb6).c (HT.out.below hb6).l (HT.out.below hb6).l2).mono ?_; rintro e w7 ⟨v, xs, rfl, hxl, hxr, hb7⟩; obtain ⟨vA, vn, vc, rfl⟩ := raw_slice hxr; have HB7 := Aside0.mk (below_then hb6 hb6.size hb7); have HV := Aside0.mk (raw_form hxr); have HK7 := Aside0.mk ((hb7.block w5.heap.size (by simp)).trans (heap_alloc_new w5 (Obj.cells #[.int .i64 f0, .int .i64 f1, .bool true, .slice none 0 0, .int .i64 0, .int .i64 0, .bool false, .int .i64 0, .bool false, .int .i64 1, .int .u8 0, .slice none 0 0, .int .i64 0, .int .i64 0, .int .i64 0, .int .i64 0, .slice none 0 0, .slice none 0 0, .int .u8 128, .int .i64 0, .int .i64 0] 201))); have c73 : w7.cell? ⟨w5.heap.size, 3, none⟩ = some (.slice none 0 0) := (blk_cell HK7.out 3).trans rfl; have f73 := blk_frozen HK7.out 3; clear hxr hb7 hb6 hxl))
  go_ret2
  have hq := blk_set HK7.out 3 (.slice vA vn vc)
  obtain ⟨σ, ρ, r1, r2, r3, r4⟩ := fdc_rep (fb := true) HD.out.1 HD.out.2 hq HV.out
  exact ⟨σ, ρ, _, rfl, r1, HB5.out.size, r2, r3, r4, below_set HB7.out HB5.out.size⟩
end Go.Sim
end
section
namespace Go.Sim
attribute [local instance] noRO
open Go.Proofs Go.RowKit Go.Proofs.YtdppeaciahdekaaGreatW.PrintWords Go.Proofs.YtdppeaciahdekaaGreatW.PrintLast Go.Proofs.YtdppeaciahdekaaGreatW.PrintMore
open Go.Proofs.YtdppeaciahdekaaGreat.PLockParts
@[irreducible] def ld27 (a : Addr) : Sem Value := loadVar 27 a
theorem ld27_eq (a : Addr) : loadVar 27 a = ld27 a := by unfold ld27; rfl
@[irreducible] def ld30 (a : Addr) : Sem Value := loadVar 30 a
theorem ld30_eq (a : Addr) : loadVar 30 a = ld30 a := by unfold ld30; rfl
def Inp.scrL (x : Inp) : List Value := [Value.int .i64 (x.s.v 0), Value.int .i64 (x.s.v 1), Value.int .i64 (x.s.v 2), Value.int .i64 (x.s.v 3), Value.int .i64 (x.s.v 4), Value.int .i64 (x.s.v 5), Value.int .i64 (x.s.v 6)]
def Inp.regL (x : Inp) : List Value := [Value.int .u8 (x.v 8), Value.int .u8 (x.v 9), Value.int .u8 (x.v 10), Value.int .u8 (x.v 11), Value.int .u8 (x.v 12), Value.int .u8 (x.v 13), Value.int .u8 (x.v 14), Value.int .u8 (x.v 15), Value.int .u8 (x.v 16), Value.int .u8 (x.v 17), Value.int .u16 (x.v 18), Value.int .u16 (x.v 19), Value.int .u16 (x.v 20), Value.int .u16 (x.v 21), Value.int .u16 (x.v 22), Value.int .u16 (x.v 23), Value.int .u16 (x.v 24), Value.int .u16 (x.v 25), Value.int .u16 (x.v 26), Value.bool x.b27, Value.bool x.b28, Value.int .i64 (x.v 29), Value.bool x.b30, Value.bool x.b31]
def Inp.scr (x : Inp) : Value := .agg #[Value.int .i64 (x.s.v 0), Value.int .i64 (x.s.v 1), Value.int .i64 (x.s.v 2), Value.int .i64 (x.s.v 3), Value.int .i64 (x.s.v 4), Value.int .i64 (x.s.v 5), Value.int .i64 (x.s.v 6)]
def Inp.reg (x : Inp) : Value := .agg #[Value.int .u8 (x.v 8), Value.int .u8 (x.v 9), Value.int .u8 (x.v 10), Value.int .u8 (x.v 11), Value.int .u8 (x.v 12), Value.int .u8 (x.v 13), Value.int .u8 (x.v 14), Value.int .u8 (x.v 15), Value.int .u8 (x.v 16), Value.int .u8 (x.v 17), Value.int .u16 (x.v 18), Value.int .u16 (x.v 19), Value.int .u16 (x.v 20), Value.int .u16 (x.v 21), Value.int .u16 (x.v 22), Value.int .u16 (x.v 23), Value.int .u16 (x.v 24), Value.int .u16 (x.v 25), Value.int .u16 (x.v 26), Value.bool x.b27, Value.bool x.b28, Value.int .i64 (x.v 29), Value.bool x.b30, Value.bool x.b31]
set_option maxRecDepth 100000 in
theorem Inp.c33 (x : Inp) {w : World} {g : Nat} (hg : w.heap[g]? = some (.cells #[Value.int .i64 (x.s.v 0), Value.int .i64 (x.s.v 1), Value.int .i64 (x.s.v 2), Value.int .i64 (x.s.v 3), Value.int .i64 (x.s.v 4), Value.int .i64 (x.s.v 5), Value.int .i64 (x.s.v 6), Value.int .u8 (x.v 7), Value.int .u8 (x.v 8), Value.int .u8 (x.v 9), Value.int .u8 (x.v 10), Value.int .u8 (x.v 11), Value.int .u8 (x.v 12), Value.int .u8 (x.v 13), Value.int .u8 (x.v 14), Value.int .u8 (x.v 15), Value.int .u8 (x.v 16), Value.int .u8 (x.v 17), Value.int .u16 (x.v 18), Value.int .u16 (x.v 19), Value.int .u16 (x.v 20), Value.int .u16 (x.v 21), Value.int .u16 (x.v 22), Value.int .u16 (x.v 23), Value.int .u16 (x.v 24), Value.int .u16 (x.v 25), Value.int .u16 (x.v 26), Value.bool x.b27, Value.bool x.b28, Value.int .i64 (x.v 29), Value.bool x.b30, Value.bool x.b31, Value.slice x.A x.ps.length x.c] 33 (0, 0))) : (Go.Sim.ld33 ⟨g, 0, none⟩).run Tryz.prog w = .ok x.cpu w := by
 rw [← ld33_eq]; exact run_loadVar_sub 33 [] x.cpuL [] hg rfl Tryz.underlying33 rfl (by kernel_rfl)
set_option maxRecDepth 100000 in
theorem Inp.c27 (x : Inp) {w : World} {g : Nat} (hg : w.heap[g]? = some (.cells #[Value.int .i64 (x.s.v 0), Value.int .i64 (x.s.v 1), Value.int .i64 (x.s.v 2), Value.int .i64 (x.s.v 3), Value.int .i64 (x.s.v 4), Value.int .i64 (x.s.v 5), Value.int .i64 (x.s.v 6), Value.int .u8 (x.v 7), Value.int .u8 (x.v 8), Value.int .u8 (x.v 9), Value.int .u8 (x.v 10), Value.int .u8 (x.v 11), Value.int .u8 (x.v 12), Value.int .u8 (x.v 13), Value.int .u8 (x.v 14), Value.int .u8 (x.v 15), Value.int .u8 (x.v 16), Value.int .u8 (x.v 17), Value.int .u16 (x.v 18), Value.int .u16 (x.v 19), Value.int .u16 (x.v 20), Value.int .u16 (x.v 21), Value.int .u16 (x.v 22), Value.int .u16 (x.v 23), Value.int .u16 (x.v 24), Value.int .u16 (x.v 25), Value.int .u16 (x.v 26), Value.bool x.b27, Value.bool x.b28, Value.int .i64 (x.v 29), Value.bool x.b30, Value.bool x.b31, Value.slice x.A x.ps.length x.c] 33 (0, 0))) : (ld27 ⟨g, 0, none⟩).run Tryz.prog w = .ok x.scr w := by
 rw [← ld27_eq]; exact run_loadVar_sub 27 [] x.scrL [Value.int .u8 (x.v 7), Value.int .u8 (x.v 8), Value.int .u8 (x.v 9), Value.int .u8 (x.v 10), Value.int .u8 (x.v 11), Value.int .u8 (x.v 12), Value.int .u8 (x.v 13), Value.int .u8 (x.v 14), Value.int .u8 (x.v 15), Value.int .u8 (x.v 16), Value.int .u8 (x.v 17), Value.int .u16 (x.v 18), Value.int .u16 (x.v 19), Value.int .u16 (x.v 20), Value.int .u16 (x.v 21), Value.int .u16 (x.v 22), Value.int .u16 (x.v 23), Value.int .u16 (x.v 24), Value.int .u16 (x.v 25), Value.int .u16 (x.v 26), Value.bool x.b27, Value.bool x.b28, Value.int .i64 (x.v 29), Value.bool x.b30, Value.bool x.b31, Value.slice x.A x.ps.length x.c] hg rfl Tryz.underlying27 rfl (by kernel_rfl)
set_option maxRecDepth 100000 in
theorem Inp.c30 (x : Inp) {w : World} {g : Nat} (hg : w.heap[g]? = some (.cells #[Value.int .i64 (x.s.v 0), Value.int .i64 (x.s.v 1), Value.int .i64 (x.s.v 2), Value.int .i64 (x.s.v 3), Value.int .i64 (x.s.v 4), Value.int .i64 (x.s.v 5), Value.int .i64 (x.s.v 6), Value.int .u8 (x.v 7), Value.int .u8 (x.v 8), Value.int .u8 (x.v 9), Value.int .u8 (x.v 10), Value.int .u8 (x.v 11), Value.int .u8 (x.v 12), Value.int .u8 (x.v 13), Value.int .u8 (x.v 14), Value.int .u8 (x.v 15), Value.int .u8 (x.v 16), Value.int .u8 (x.v 17), Value.int .u16 (x.v 18), Value.int .u16 (x.v 19), Value.int .u16 (x.v 20), Value.int .u16 (x.v 21), Value.int .u16 (x.v 22), Value.int .u16 (x.v 23), Value.int .u16 (x.v 24), Value.int .u16 (x.v 25), Value.int .u16 (x.v 26), Value.bool x.b27, Value.bool x.b28, Value.int .i64 (x.v 29), Value.bool x.b30, Value.bool x.b31, Value.slice x.A x.ps.length x.c] 33 (0, 0))) : (ld30 ⟨g, 8, none⟩).run Tryz.prog w = .ok x.reg w := by
 rw [← ld30_eq]; exact run_loadVar_sub 30 [Value.int .i64 (x.s.v 0), Value.int .i64 (x.s.v 1), Value.int .i64 (x.s.v 2), Value.int .i64 (x.s.v 3), Value.int .i64 (x.s.v 4), Value.int .i64 (x.s.v 5), Value.int .i64 (x.s.v 6), Value.int .u8 (x.v 7)] x.regL [Value.slice x.A x.ps.length x.c] hg rfl Tryz.underlying30 rfl (by kernel_rfl)
theorem lv5 (a : Addr) : loadVar 5 a = (do if ← isAgg 5 then pure (.agg (← loadCells a (← sizeOf 5))) else load a) := rfl
theorem lv31 (a : Addr) : loadVar 31 a = (do if ← isAgg 31 then pure (.agg (← loadCells a (← sizeOf 31))) else load a) := rfl
theorem foot_pre {σ : Sig} {f : Nat → Int → Int} {ρm : Ren} {b k : Nat} (h : foot (preR b ρm) (instH σ cpuB0) k) : k = b ∨ foot ρm (instH (bankSig f) (mbH seen1)) k := by
 obtain ⟨i, bi, l, h1, h2, h3⟩ := h
 cases i with
 | zero => cases h2; exact .inl h3.symm
 | succ i =>
  have h1' : (instH σ (cpuB (u8v 17) (.sb (.v 29)) (.int .i64 0) (.int .i64 0))).get (i + 1) = some bi := h1
  rw [cpuB_get, List.getElem?_cons_succ] at h1'
  obtain ⟨r, hr, _⟩ := Option.map_eq_some_iff.1 h1'
  have hil : i < 13 := (List.getElem?_eq_some_iff.1 hr).1
  obtain ⟨s, hs⟩ : ∃ s, (memS seen1 :: banksS)[i]? = some s := ⟨_, List.getElem?_eq_getElem (by exact hil)⟩
  exact .inr ⟨i, _, l, by rw [mbH_get, hs]; rfl, h2, h3⟩
theorem beg_at (x : Inp) (h27 : x.b27 = false) (h30 : x.b30 = true) (hV : cpuV.fit x.cpuSig) {w w3 : World} {ρm : Ren} {g B1 : Nat} (hrep : Rep ρm (instH (bankSig (bankF x.ps)) (mbH seen1)) w3) (hρ : ρm 0 = some ⟨g, 0, 0⟩) (hft : ∀ b, foot ρm (instH (bankSig (bankF x.ps)) (mbH seen1)) b → B1 ≤ b) (hg : B1 ≤ g) (hB : Below w.heap.size w w3) (hB1 : w.heap.size ≤ B1) :
  Calls Tryz.prog 103 #[.pointer (some ⟨w3.heap.size, 0, none⟩)] (w3.alloc (.cells (x.made g) 180)) fun e w' => ∃ u, e = .returned u ∧ ∃ (ρ : Ren), ρ 0 = some ⟨w3.heap.size, 0, 0⟩ ∧ Rep ρ (instH x.cpuSig cpuH) w' ∧ Below w.heap.size w w' ∧ ∀ b, foot ρ (instH x.cpuSig cpuH) b → w.heap.size ≤ b := by
 have hlt : ∀ b, foot ρm (instH (bankSig (bankF x.ps)) (mbH seen1)) b → b < w3.heap.size := fun b hb => hrep.lt hb
 have hrep' := hrep.other (w' := w3.alloc (.cells (x.made g) 180)) fun b hb => (below_alloc (Below.refl w3.heap.size w3) (.cells (x.made g) 180)).block b (hlt b hb)
 have h0 := rep_cpu0 (σ := x.cpuSig) (f := bankF x.ps) rfl hρ hrep' (heap_alloc_new w3 (.cells (x.made g) 180)) (x.cpu_rr h27 h30 hρ) (by exact Nat.le_refl 37) fun hb => absurd (hlt _ hb) (Nat.lt_irrefl _)
 have hf0 : ∀ b, foot (preR w3.heap.size ρm) (instH x.cpuSig cpuB0) b → w.heap.size ≤ b := by
  intro b hb
  rcases foot_pre (f := bankF x.ps) hb with rfl | hb
  ·exact hB.size
  ·exact Nat.le_trans hB1 (hft b hb)
 refine (begin_calls hV rfl rfl (preR w3.heap.size ρm) _ ⟨w3.heap.size, 0, 0⟩ rfl h0).mono ?_
 rintro e w' ⟨u, he, hon, ρ', hle, hr'⟩
 refine ⟨u, he, ρ', hle 0 _ rfl, hr', (below_then hB hB.size (below_alloc (Below.refl _ _) _)).trans (hon.below (by have := hB.size; simp; omega) hf0), fun b hb => hf0 b ?_⟩
 obtain ⟨i, bi, l, h1, h2, h3⟩ := hb
 rw [← cpuB0_get rfl rfl] at h1
 obtain ⟨l', o, g1, _⟩ := h0.live i bi h1
 have g2 := hle i l' g1
 rw [h2] at g2
 cases g2
 exact ⟨i, bi, l, h1, g1, h3⟩
theorem Inp.cpuC0 (x : Inp) {n : Int} {w : World} (hs : ∀ w, Calls Tryz.prog 158 #[scrVals x.s] w fun e w' => e = .returned (.int .i64 n) ∧ Only (fun _ => False) w w') (hx : x.lies w) :
  Calls Tryz.prog 101 #[x.cpu] w fun e w2 => e = .returned (.int .i64 (setupF n (x.v 29) x.ps)) ∧ Below w.heap.size w w2 :=
 cpu_check hs (x.v 7) (x.v 8) (x.v 9) (x.v 10) (x.v 11) (x.v 12) (x.v 13) (x.v 14) (x.v 15) (x.v 16) (x.v 17) (x.v 18) (x.v 19) (x.v 20) (x.v 21) (x.v 22) (x.v 23) (x.v 24) (x.v 25) (x.v 26) x.b27 x.b28 (x.v 29) x.b30 x.b31 x.A x.c x.ps w hx.r hx.c hx.l
section
attribute [-go_sem] Go.loadVar
attribute [local go_sem] ld33_eq ld27_eq ld30_eq lv5 lv31
set_option maxHeartbeats 8000000 in
set_option maxRecDepth 100000 in
theorem cpu_new_calls (x : Inp) (hs : ∀ w, Calls Tryz.prog 158 #[scrVals x.s] w fun e w' => e = .returned (.int .i64 0) ∧ Only (fun _ => False) w w') (hok : setupF 0 (x.v 29) x.ps = 0) (hby : byOK x.ps) (h27 : x.b27 = false) (h30 : x.b30 = true) (hV : cpuV.fit x.cpuSig) (w : World) (hx : x.lies w) :
  Calls Tryz.prog 50 #[x.cpu] w fun e w' => ∃ (ρ : Ren) (l : Loc), e = .returned (.tuple #[.pointer (some ⟨l.blk, l.off, none⟩), .int .i64 0]) ∧ ρ 0 = some l ∧ Rep ρ (instH x.cpuSig cpuH) w' ∧ Below w.heap.size w w' ∧ ∀ b, foot ρ (instH x.cpuSig cpuH) b → w.heap.size ≤ b := by
 have H27 := Aside0.mk h27
 have H30 := Aside0.mk h30
 clear h27 h30
 have HX := Aside0.mk hx
 have HOK := Aside0.mk hok
 have HBY := Aside0.mk hby
 clear hx hok hby
 have hk := heap_alloc_new w (Obj.cells #[Value.int .i64 (x.s.v 0), Value.int .i64 (x.s.v 1), Value.int .i64 (x.s.v 2), Value.int .i64 (x.s.v 3), Value.int .i64 (x.s.v 4), Value.int .i64 (x.s.v 5), Value.int .i64 (x.s.v 6), Value.int .u8 (x.v 7), Value.int .u8 (x.v 8), Value.int .u8 (x.v 9), Value.int .u8 (x.v 10), Value.int .u8 (x.v 11), Value.int .u8 (x.v 12), Value.int .u8 (x.v 13), Value.int .u8 (x.v 14), Value.int .u8 (x.v 15), Value.int .u8 (x.v 16), Value.int .u8 (x.v 17), Value.int .u16 (x.v 18), Value.int .u16 (x.v 19), Value.int .u16 (x.v 20), Value.int .u16 (x.v 21), Value.int .u16 (x.v 22), Value.int .u16 (x.v 23), Value.int .u16 (x.v 24), Value.int .u16 (x.v 25), Value.int .u16 (x.v 26), Value.bool x.b27, Value.bool x.b28, Value.int .i64 (x.v 29), Value.bool x.b30, Value.bool x.b31, Value.slice x.A x.ps.length x.c] 33)
 have hl := x.c33 hk
 have HK := Aside0.mk hk
 have HB1 := Aside0.mk (below_alloc (Below.refl w.heap.size w) (Obj.cells #[Value.int .i64 (x.s.v 0), Value.int .i64 (x.s.v 1), Value.int .i64 (x.s.v 2), Value.int .i64 (x.s.v 3), Value.int .i64 (x.s.v 4), Value.int .i64 (x.s.v 5), Value.int .i64 (x.s.v 6), Value.int .u8 (x.v 7), Value.int .u8 (x.v 8), Value.int .u8 (x.v 9), Value.int .u8 (x.v 10), Value.int .u8 (x.v 11), Value.int .u8 (x.v 12), Value.int .u8 (x.v 13), Value.int .u8 (x.v 14), Value.int .u8 (x.v 15), Value.int .u8 (x.v 16), Value.int .u8 (x.v 17), Value.int .u16 (x.v 18), Value.int .u16 (x.v 19), Value.int .u16 (x.v 20), Value.int .u16 (x.v 21), Value.int .u16 (x.v 22), Value.int .u16 (x.v 23), Value.int .u16 (x.v 24), Value.int .u16 (x.v 25), Value.int .u16 (x.v 26), Value.bool x.b27, Value.bool x.b28, Value.int .i64 (x.v 29), Value.bool x.b30, Value.bool x.b31, Value.slice x.A x.ps.length x.c] 33))
 clear hk
 unfold Inp.cpu
 go_enter Tryz.func50, Tryz.ntmps50
 unfold Inp.cpu at hl
 have HX1 := Aside0.mk (HX.out.below HB1.out)
 have HPZ : Aside0 (pchk x.ps = 0) := ⟨by have h := HOK.out; unfold setupF at h; rw [if_pos rfl] at h; split at h <;> first | exact h | exact absurd h ‹_›⟩
 go_wp2_with (first | (go_at_call 101; refine (x.cpuC0 hs HX1.out).mono ?_; rintro e w1 ⟨rfl, hb1⟩; rw [HOK.out]; have HK1 := Aside0.mk ((hb1.block w.heap.size (by simp)).trans HK.out); have HB2 := Aside0.mk (below_then HB1.out HB1.out.size hb1); have hc32 : w1.cell? ⟨w.heap.size, 32, none⟩ = some (.slice x.A x.ps.length x.c) := (blk_cell HK1.out 32).trans rfl; have HX2 := Aside0.mk (HX1.out.below hb1); clear hb1 hl) | (go_at_call 102; refine (bank_new_calls x.A x.c x.ps _ HX2.out.r HX2.out.c HX2.out.l HPZ.out HBY.out).mono ?_; rintro e w3 ⟨g, ρm, rfl, hg, hb3, hρ, hrep, hft⟩; have HK3 := Aside0.mk ((hb3.block w.heap.size (blk_lt HK1.out)).trans HK1.out); have HB3 := Aside0.mk (below_then HB2.out HB2.out.size hb3); have HG := Aside0.mk hg; have HRHO := Aside0.mk hρ; have HREP := Aside0.mk hrep; have HFT := Aside0.mk hft; have l27 := x.c27 HK3.out; have l30 := x.c30 HK3.out; have c7 : w3.cell? ⟨w.heap.size, 7, none⟩ = some (.int .u8 (x.v 7)) := (blk_cell HK3.out 7).trans rfl; unfold Inp.scr at l27; unfold Inp.reg at l30; clear hg hb3 hρ hrep hft) | (go_at_call 103; refine (beg_at x H27.out H30.out hV HREP.out HRHO.out HFT.out HG.out HB3.out HB2.out.size).mono ?_; rintro e w5 ⟨u, rfl, hpost⟩; have HPOST := Aside0.mk hpost; clear hpost))
 go_ret2
 obtain ⟨ρ, h0, hr, hb, hf⟩ := HPOST.out
 exact ⟨ρ, _, rfl, h0, hr, hb, hf⟩
end
end Go.Sim
end
section
set_option maxRecDepth 1000000
namespace Go.Sim
attribute [local instance] noRO
open Go.Proofs Go.RowKit Go.Proofs.Tryz Go.Proofs.YtdppeaciahdekaaGreatW.PrintWords Go.Proofs.YtdppeaciahdekaaGreat.PLockParts
def ulaHead (σ : Sig) (t : Tch) : List AVal := [.int .i64 (σ.v 0), .int .i64 (σ.v 1), .int .i64 (σ.v 2), .int .i64 (σ.v 3), .int .i64 (σ.v 4), .int .i64 (σ.v 5), .int .i64 (σ.v 6), .slice t.o.1 t.o.2.1 t.o.2.2]
def ulaTail : List AVal := [.bool false, .int .u8 7, .int .u8 0, .int .u8 0, .int .u8 255, .int .i64 0, .int .i64 0]
theorem ula_get (σ : Sig) (t : Tch) (f : Nat → Int → Int) (j : Nat) : (instR (ulaSig σ t f) (ulaP (u8v 9) (i64v 7) (i64v 8))).get j = if j < 8 then (ulaHead σ t)[j]? else if j - 8 < 16384 then some (.int .u8 (f 5 ((j - 8 : Nat) : Int))) else if j - 8 - 16384 < 16384 then some (.int .u8 (f 7 ((j - 8 - 16384 : Nat) : Int))) else ulaTail[j - 8 - 16384 - 16384]? := by
 have mid : ∀ (g : Nat → Int) (N k : Nat), k < N → ((List.range N).map fun (i : Nat) => AVal.int .u8 (g i))[k]? = some (.int .u8 (g k)) := by
  intro g N k h; simp [h]
 unfold ulaP
 simp only [instR, Rope.get]
 by_cases h1 : j < 8
 ·rw [if_pos h1, if_pos h1]; rfl
 ·rw [if_neg h1, if_neg h1]
  by_cases h2 : j - 8 < 16384
  ·rw [if_pos h2, if_pos h2]; exact mid _ _ _ h2
  ·rw [if_neg h2, if_neg h2]
   by_cases h3 : j - 8 - 16384 < 16384
   ·rw [if_pos h3, if_pos h3]; exact mid _ _ _ h3
   ·rw [if_neg h3, if_neg h3]; rfl
theorem splice_in {L cs : List Value} {off j : Nat} (h : off + cs.length ≤ L.length) (hj : off ≤ j) (hj2 : j < off + cs.length) : (splice L off cs)[j]? = cs[j - off]? := by
 unfold splice
 have e1 : (L.take off).length = off := by simp; omega
 rw [List.getElem?_append_right (by omega), e1, List.getElem?_append_left (by omega)]
theorem splice_out {L cs : List Value} {off j : Nat} (h : off + cs.length ≤ L.length) (hj : j < off ∨ off + cs.length ≤ j) : (splice L off cs)[j]? = L[j]? := by
 unfold splice
 have e1 : (L.take off).length = off := by simp; omega
 rcases hj with hj | hj
 ·rw [List.getElem?_append_left (by omega), List.getElem?_take, if_pos hj]
 ·rw [List.getElem?_append_right (by omega), e1, List.getElem?_append_right (by omega), List.getElem?_drop]
  congr 1; omega
def bankO (n : Int) : Nat := if n = 5 then 8 else 16392
theorem ula_rep_put {σ : Sig} {t : Tch} {f : Nat → Int → Int} {ρ : Ren} {w w' : World} {l : Loc} (hl : ρ 0 = some l) (hw : Rep ρ (instH (ulaSig σ t f) ulaH) w) {p : S127} (hp : p.f0 = 5 ∨ p.f0 = 7) {at0 : Nat} (hat : (at0 : Int) = p.f1) (hfit : at0 + p.f2.length ≤ 16384)
  {cur : List Value} {ty : TypeId} (hc : w.heap[l.blk]? = some (.cells cur.toArray ty (0, 0))) (hc' : w'.heap[l.blk]? = some (.cells (splice cur (l.off + bankO p.f0 + at0) (p.f2.map (Value.int .u8))).toArray ty (0, 0))) (ho : Only (fun b => b = l.blk) w w') :
  Rep ρ (instH (ulaSig σ t (putP p f)) ulaH) w' := by
 have g0 : (instH (ulaSig σ t f) ulaH).get 0 = some (.cells (instR (ulaSig σ t f) (ulaP (u8v 9) (i64v 7) (i64v 8))) 0 true) := by rw [ulaH_get, if_pos rfl]
 obtain ⟨cs, ty', fr, q1, q2, q3, q4, q5, q6⟩ := WR.row hw g0 hl
 rw [hc] at q1
 cases q1
 rw [SRope.size_inst, List.size_toArray] at q2
 have q2 : l.off + 32783 + l.sp * 0 ≤ cur.length := q2
 have hbo : bankO p.f0 + 16384 ≤ 32776 := by unfold bankO; split <;> omega
 have hfl : l.off + bankO p.f0 + at0 + (p.f2.map (Value.int .u8)).length ≤ cur.length := by rw [List.length_map]; omega
 refine ⟨fun i b hi => ?_, fun i j bi bj li lj hi hj hwi hwj hli hlj e => ?_, fun b (h : False) => h.elim, hw.dom, fun b (h : False) => h.elim, fun b (h : False) => h.elim⟩
 ·rw [ulaH_get] at hi
  split at hi
  ·rename_i h0
   subst h0
   simp only [Option.some.injEq] at hi
   subst hi
   refine ⟨l, _, hl, hc', .cells (fun _ => rfl) (by rw [SRope.size_inst]; show l.off + 32783 + l.sp * 0 ≤ _; rw [List.size_toArray, length_splice _ _ _ hfl]; exact q2) (fun h => q3 h) fun j hj => ?_, fun _ h => h, fun h => by cases h⟩
   rw [SRope.size_inst] at hj
   have hj : j < 32783 := hj
   obtain ⟨a, v, y1, y2, y3, y4⟩ := q4 j (by rw [SRope.size_inst]; exact hj)
   rw [List.getElem?_toArray] at y3
   rw [ula_get] at y1
   by_cases hin : bankO p.f0 + at0 ≤ j ∧ j < bankO p.f0 + at0 + p.f2.length
   ·obtain ⟨h1, h2⟩ := hin
    have hx : j - (bankO p.f0 + at0) < p.f2.length := by omega
    refine ⟨.int .u8 (p.f2[j - (bankO p.f0 + at0)]), .int .u8 (p.f2[j - (bankO p.f0 + at0)]), ?_, rfl, ?_, .int _ _⟩
    ·rw [ula_get, if_neg (by unfold bankO at h1; split at h1 <;> omega)]
     rcases hp with hp | hp
     ·have hb : bankO p.f0 = 8 := by unfold bankO; rw [if_pos hp]
      rw [if_pos (by omega)]
      unfold putP
      rw [if_pos (by omega), show (((j - 8 : Nat) : Int) - p.f1).toNat = j - (bankO p.f0 + at0) by omega, List.getD_eq_getElem?_getD, List.getElem?_eq_getElem hx]
      rfl
     ·have hb : bankO p.f0 = 16392 := by unfold bankO; rw [if_neg (by omega)]
      rw [if_neg (by omega), if_pos (by omega)]
      unfold putP
      rw [if_pos (by omega), show (((j - 8 - 16384 : Nat) : Int) - p.f1).toNat = j - (bankO p.f0 + at0) by omega, List.getD_eq_getElem?_getD, List.getElem?_eq_getElem hx]
      rfl
    ·rw [List.getElem?_toArray, splice_in hfl (by omega) (by rw [List.length_map]; omega), List.getElem?_map, show l.off + j - (l.off + bankO p.f0 + at0) = j - (bankO p.f0 + at0) by omega, List.getElem?_eq_getElem hx]
     rfl
   ·refine ⟨a, v, ?_, y2, ?_, y4⟩
    ·rw [ula_get]
     by_cases h1 : j < 8
     ·rw [if_pos h1] at y1 ⊢; exact y1
     ·rw [if_neg h1] at y1 ⊢
      by_cases h2 : j - 8 < 16384
      ·rw [if_pos h2] at y1 ⊢
       rw [← y1]
       unfold putP
       rw [if_neg]
       rintro ⟨e1, e2, e3⟩
       have hb : bankO p.f0 = 8 := by unfold bankO; rw [if_pos (by omega)]
       exact hin ⟨by omega, by omega⟩
      ·rw [if_neg h2] at y1 ⊢
       by_cases h3 : j - 8 - 16384 < 16384
       ·rw [if_pos h3] at y1 ⊢
        rw [← y1]
        unfold putP
        rw [if_neg]
        rintro ⟨e1, e2, e3⟩
        have hb : bankO p.f0 = 16392 := by unfold bankO; rw [if_neg (by omega)]
        exact hin ⟨by omega, by omega⟩
       ·rw [if_neg h3] at y1 ⊢; exact y1
    ·rw [List.getElem?_toArray, splice_out hfl (by rw [List.length_map]; omega)]
     exact y3
  ·cases hi
 ·rw [ulaH_get] at hi hj
  split at hi
  ·split at hj
   ·omega
   ·cases hj
  ·cases hi
theorem ulaSig_skip (σ : Sig) (t : Tch) (f : Nat → Int → Int) {p : S127} (h5 : p.f0 ≠ 5) (h7 : p.f0 ≠ 7) : ulaSig σ t (putP p f) = ulaSig σ t f := by
 have e5 : putP p f 5 = f 5 := by funext x; unfold putP; rw [if_neg (by omega)]
 have e7 : putP p f 7 = f 7 := by funext x; unfold putP; rw [if_neg (by omega)]
 unfold ulaSig
 rw [e5, e7]
end Go.Sim
end
section
set_option maxRecDepth 1000000
namespace Go.Sim
attribute [local instance] noRO
open Go.Proofs Go.RowKit Go.Proofs.Tryz Go.Proofs.YtdppeaciahdekaaGreatW.PrintWords Go.Proofs.YtdppeaciahdekaaGreat.PLockParts
def banksX : SCallF := fun f l H => match l with
 | [.ptr (some (i, o))] => bif Nat.beq f 106 then .ok (.ret (.mapv (some H.next)) ⟨H.next + 1, H.tree.set H.next (some (.pmap [(.int .i64 5, .ptr (some (i, o + 8))), (.int .i64 7, .ptr (some (i, o + 16392)))]))⟩) else .no
 | _ => .no
theorem banks_sub (σ : Sig) : CallSub σ banksX banksExt := by
 intro f l H r h
 unfold banksX at h
 split at h
 ·rename_i i o
  cases hf : Nat.beq f 106 with
  | false => rw [hf] at h; cases h
  | true =>
   rw [hf] at h
   simp only [cond_true, SR.ok.injEq] at h
   subst h
   show banksExt f [.ptr (some (i, o))] (instH σ H) = _
   unfold banksExt
   rw [hf]
   simp only [cond_true]
   have e := hnew_inst σ H (.pmap [(.int .i64 5, .ptr (some (i, o + 8))), (.int .i64 7, .ptr (some (i, o + 16392)))])
   have e2 : instB σ (.pmap [(.int .i64 5, .ptr (some (i, o + 8))), (.int .i64 7, .ptr (some (i, o + 16392)))]) = .pmap [(.int .i64 5, .ptr (some (i, o + 8))), (.int .i64 7, .ptr (some (i, o + 16392)))] := rfl
   rw [e2] at e
   rw [e]
   rfl
 ·cases h
def inBlk : ACode → ACode
 | .blk _ a => a
 | c => c
def unewL : ACode := inBlk ((flatC (bodyOf ((flatC LP.a51.body).getD 6 .bad))).getD 2 .bad)
def bkC : ACode := (flatC unewL).getD 1 .bad
def bkH : SHeap := ⟨2, (Trie.leaf : Trie SBlk).set 1 (some (.cells (.lst [i64v 0, i64v 1, .ovs 0]) 0 true))⟩
def bkV : Vars := ⟨[(0, 11), (0, 16384), (0, 1000000), (0, 1000000)], [], 0⟩
def bkL : List (Nat × SVal) := [(5, .ptr (some (0, 0))), (7, .ptr (some (1, 0))), (25, .ovs 1), (26, i64v 2), (27, i64v 3)]
def bkT : STmps := bkL.foldr (fun p T => T.set p.1 (some p.2)) (junkT 50)
def same0 (V : Vars) (F : Facts) (n : Int) : Option Bool := dec V F ⟨false, .v 0, .lit n⟩
def bkChk (F : Facts) : SX × SSt → Bool
 | (.normal, s) => (match s.D with | [] => true | _ => false) && bkL.all (fun p => sveq (stget s.T p.1) p.2) && (match s.H.get 1 with | some (.cells r 0 true) => sreq r (.lst [i64v 0, i64v 1, .ovs 0]) | _ => false) &&
  (match same0 bkV F 5 with
  | some true => sveq (stget s.T 8) (.ptr (some (0, 8))) && sveq (stget s.T 9) (.bool true)
  | some false => (match same0 bkV F 7 with
   | some true => sveq (stget s.T 8) (.ptr (some (0, 16392))) && sveq (stget s.T 9) (.bool true)
   | some false => sveq (stget s.T 9) (.bool false)
   | none => false)
  | none => false)
 | _ => false
theorem bk_tree : stree (fun F => sexec banksX ⟨bkV, F, LP.E⟩ 50 10 bkC ⟨bkT, bkH, []⟩) bkChk bkV 8 [] = true := by kernel_rfl
def bkSig (p : S127) (A2 : Option Addr) (n2 c2 : Nat) (A : Option Addr) (n c i : Nat) : Sig := ⟨fun j => match j with | 0 => p.f0 | 1 => p.f1 | 2 => n | 3 => i | _ => 0, fun _ _ => 0, fun _ => (none, 0, 0), fun _ => default, fun j => if j = 0 then (A2, n2, c2) else (A, n, c)⟩
theorem dec_same0 {σ : Sig} {F : Facts} (hV : bkV.fit σ) (hF : Facts.hold σ F) {n : Int} {b : Bool} (h : same0 bkV F n = some b) : decide (σ.v 0 = n) = b := by
 have := dec_sound hV hF h
 simp only [Atom.holds, Sx.ev, Bool.false_eq_true, if_false] at this
 rw [← this]
 exact decide_eq_decide.mpr Iff.rfl
theorem bk_region {p : S127} (h00 : 0 ≤ p.f0) (h01 : p.f0 < 12) (h10 : 0 ≤ p.f1) (h11 : p.f1 ≤ 16384) {A2 : Option Addr} {n2 c2 : Nat} {lb : Loc} {pb : Nat} {w : World} (hpb : w.heap[pb]? = some (.cells #[.int .i64 p.f0, .int .i64 p.f1, .slice A2 n2 c2] 127 (0, 0))) (hlb : lb.blk < w.heap.size) (hne : lb.blk ≠ pb)
  {A : Option Addr} {n c i : Nat} (hnn : n ≤ 1000000) (hi : i ≤ n) {a : Act} (hn : a.tmps.size = 50) (h5 : a.tmps.getD 5 Go.undef = .pointer (some ⟨lb.blk, lb.off, none⟩)) (h7 : a.tmps.getD 7 Go.undef = .pointer (some ⟨pb, 0, none⟩)) (h25 : a.tmps.getD 25 Go.undef = .slice A n c)
  (h26 : a.tmps.getD 26 Go.undef = .int .i64 (n : Int)) (h27 : a.tmps.getD 27 Go.undef = .int .i64 (i : Int)) (hd : a.defers = []) {cd : Code} (hc : codeOK prog LP.E cd bkC = true) :
  cd.wp prog (fun e a' w' => e = .normal ∧ a'.defers = [] ∧ a'.tmps.size = 50 ∧ a'.tmps.getD 5 Go.undef = .pointer (some ⟨lb.blk, lb.off, none⟩) ∧ a'.tmps.getD 7 Go.undef = .pointer (some ⟨pb, 0, none⟩) ∧ a'.tmps.getD 25 Go.undef = .slice A n c ∧ a'.tmps.getD 26 Go.undef = .int .i64 (n : Int) ∧ a'.tmps.getD 27 Go.undef = .int .i64 (i : Int) ∧
   w'.cell? ⟨pb, 1, none⟩ = some (.int .i64 p.f1) ∧ w'.cell? ⟨pb, 2, none⟩ = some (.slice A2 n2 c2) ∧ Only (fun b => b = pb) w w' ∧ ((p.f0 = 5 ∨ p.f0 = 7) → a'.tmps.getD 8 Go.undef = .pointer (some ⟨lb.blk, lb.off + bankO p.f0, none⟩) ∧ a'.tmps.getD 9 Go.undef = .bool true) ∧ (p.f0 ≠ 5 → p.f0 ≠ 7 → a'.tmps.getD 9 Go.undef = .bool false)) a w := by
 let K : Nat → Prop := fun b => b < w.heap.size ∧ b ≠ pb
 let ρ : Ren := fun i => if i = 0 then some lb else if i = 1 then some ⟨pb, 0, 0⟩ else none
 let σ := bkSig p A2 n2 c2 A n c i
 have hV : bkV.fit σ := by
  refine ⟨fun j => ?_, fun j i => ⟨Int.le_refl _, Int.le_refl _⟩, fun j i p e => by cases e⟩
  match j with
  | 0 => exact ⟨h00, by show p.f0 ≤ 11; omega⟩
  | 1 => exact ⟨h10, h11⟩
  | 2 => exact ⟨by show (0 : Int) ≤ (n : Int); omega, by show (n : Int) ≤ 1000000; omega⟩
  | 3 => exact ⟨by show (0 : Int) ≤ (i : Int); omega, by show (i : Int) ≤ 1000000; omega⟩
  | k + 4 => exact ⟨Int.le_refl _, Int.le_refl _⟩
 have hget : ∀ i, (instH σ bkH).get i = if i = 1 then some (.cells (instR σ (.lst [i64v 0, i64v 1, .ovs 0])) 0 true) else none := by
  intro i
  show (bkH.tree.mapv (instB σ)).get i = _
  rw [Trie.get_map]
  show (((Trie.leaf : Trie SBlk).set 1 _).get i).map _ = _
  rw [Trie.get_set]
  by_cases h : i = 1
  ·subst h; rfl
  ·rw [if_neg (by omega), if_neg h, Trie.get_leaf]; rfl
 have hw : WR K ρ (instH σ bkH) w := by
  refine ⟨fun i b hi => ?_, fun i j bi bj li lj hi hj hwi hwj hli hlj e => ?_, fun b (h : False) => h.elim, fun i l h => ?_, fun b hb => hb.1, fun b (h : False) => h.elim⟩
  ·rw [hget] at hi
   split at hi
   ·rename_i h0
    subst h0
    simp only [Option.some.injEq] at hi
    subst hi
    refine ⟨⟨pb, 0, 0⟩, _, rfl, hpb, .cells (fun _ => rfl) (by rw [SRope.size_inst]; simp [SRope.size]) (fun _ => rfl) ?_, fun _ h => h.2 rfl, fun h => by cases h⟩
    intro j hj
    rw [SRope.size_inst] at hj
    have hj : j < 3 := hj
    match j with
    | 0 => exact ⟨_, _, rfl, rfl, rfl, .int _ _⟩
    | 1 => exact ⟨_, _, rfl, rfl, rfl, .int _ _⟩
    | 2 => exact ⟨_, _, rfl, rfl, rfl, .vs _ _ _⟩
    | k + 3 => omega
   ·cases hi
  ·rw [hget] at hi hj
   split at hi
   ·split at hj
    ·omega
    ·cases hj
   ·cases hi
  ·show i < 2
   by_cases hi0 : i = 0
   ·omega
   ·by_cases hi1 : i = 1
    ·omega
    ·have : (if i = 0 then some lb else if i = 1 then some (⟨pb, 0, 0⟩ : Loc) else none) = some l := h
     rw [if_neg hi0, if_neg hi1] at this; cases this
 have hT : TR ρ (instT σ bkT) a.tmps := by
  refine tr_of hn bkL fun q hq => ?_
  simp only [bkL, List.mem_cons, List.not_mem_nil, or_false] at hq
  rcases hq with rfl | rfl | rfl | rfl | rfl
  ·refine ⟨by omega, ?_⟩
   show VR ρ (.ptr (some (0, 0))) (a.tmps.getD 5 Go.undef)
   rw [h5]
   have h2 : ρ 0 = some lb := rfl
   exact VR.ptr (o := 0) h2
  ·refine ⟨by omega, ?_⟩
   show VR ρ (.ptr (some (1, 0))) (a.tmps.getD 7 Go.undef)
   rw [h7]
   have h2 : ρ 1 = some ⟨pb, 0, 0⟩ := rfl
   exact VR.ptr (o := 0) h2
  ·refine ⟨by omega, ?_⟩
   show VR ρ (.vs A n c) (a.tmps.getD 25 Go.undef)
   rw [h25]; exact .vs _ _ _
  ·refine ⟨by omega, ?_⟩
   show VR ρ (.int .i64 (n : Int)) (a.tmps.getD 26 Go.undef)
   rw [h26]; exact .int _ _
  ·refine ⟨by omega, ?_⟩
   show VR ρ (.int .i64 (i : Int)) (a.tmps.getD 27 Go.undef)
   rw [h27]; exact .int _ _
 obtain ⟨F, x, s', hF, hck, hwp⟩ := frag hV (banksExt_ok LP.E) (fun F _ => banks_sub σ) bk_tree (fun _ h => by cases h) hc hw hT hn hd
 refine Code.wp_mono ?_ hwp
 rintro e a' w' ⟨ρ', hP, hT', hn', hD', hX⟩
 unfold bkChk at hck
 split at hck
 ·rename_i s heq
  obtain ⟨rfl, rfl⟩ := Prod.mk.inj heq
  simp only [Bool.and_eq_true] at hck
  obtain ⟨⟨⟨cD, cL⟩, cH⟩, cX⟩ := hck
  have slot : ∀ (t : Nat) (v : SVal), sveq (stget s'.T t) v = true → VR ρ' (v.inst σ) (a'.tmps.getD t Go.undef) := by
   intro t v h
   have := hT' t
   rw [show tget (instS σ s').T t = tget (instT σ s'.T) t from rfl, tget_T, sveq_sound h] at this
   exact this
  have kept : ∀ q ∈ bkL, VR ρ' (q.2.inst σ) (a'.tmps.getD q.1 Go.undef) := fun q hq => slot q.1 q.2 (List.all_eq_true.1 cL q hq)
  have hρ0 : ρ' 0 = some lb := hP.le 0 _ rfl
  have hρ1 : ρ' 1 = some ⟨pb, 0, 0⟩ := hP.le 1 _ rfl
  have pt : ∀ {o : Nat} {v : Value}, VR ρ' (.ptr (some (0, o))) v → v = .pointer (some ⟨lb.blk, lb.off + o, none⟩) := by
   intro o v h
   cases h with
   | ptr h => rw [hρ0] at h; cases h; rfl
  have pt1 : ∀ {v : Value}, VR ρ' (.ptr (some (1, 0))) v → v = .pointer (some ⟨pb, 0, none⟩) := by
   intro v h
   cases h with
   | ptr h => rw [hρ1] at h; cases h; rfl
  have g1 : ∃ r, (instH σ s'.H).get 1 = some (.cells (instR σ r) 0 true) ∧ r = .lst [i64v 0, i64v 1, .ovs 0] := by
   split at cH
   ·rename_i r hr
    exact ⟨r, hget_inst hr, sreq_sound cH⟩
   ·cases cH
  obtain ⟨r, g1, rfl⟩ := g1
  obtain ⟨cs, ty, fr, q1, q2, q3, q4, q5, q6⟩ := WR.row hP.wr g1 hρ1
  have q1' : w'.heap[pb]? = some (.cells cs ty fr) := q1
  refine ⟨hX, ?_, hn', pt (o := 0) (kept (5, .ptr (some (0, 0))) (by simp [bkL])), pt1 (kept (7, .ptr (some (1, 0))) (by simp [bkL])), ?_, ?_, ?_, ?_, ?_, ⟨fun b hb hnb => hP.keep b ⟨hb, hnb⟩, hP.size⟩, fun h => ?_, fun n5 n7 => ?_⟩
  ·have hD2 : DR LP.E ρ' (instS σ s').D a'.defers := hD'
   split at cD
   ·rename_i hDD
    have : (instS σ s').D = [] := by show (s'.D.map _) = []; rw [hDD]; rfl
    rw [this] at hD2
    generalize a'.defers = dd at hD2
    cases hD2; rfl
   ·cases cD
  ·have := kept (25, .ovs 1) (by simp [bkL])
   have h' : VR ρ' (.vs A n c) (a'.tmps.getD 25 Go.undef) := this
   generalize a'.tmps.getD 25 Go.undef = v at h'
   cases h'; rfl
  ·have := kept (26, i64v 2) (by simp [bkL])
   have h' : VR ρ' (.int .i64 (n : Int)) (a'.tmps.getD 26 Go.undef) := this
   generalize a'.tmps.getD 26 Go.undef = v at h'
   cases h'; rfl
  ·have := kept (27, i64v 3) (by simp [bkL])
   have h' : VR ρ' (.int .i64 (i : Int)) (a'.tmps.getD 27 Go.undef) := this
   generalize a'.tmps.getD 27 Go.undef = v at h'
   cases h'; rfl
  ·obtain ⟨x1, v1, y1, y2, y3, y4⟩ := q4 1 (by rw [SRope.size_inst]; decide)
   have e1 : x1 = .int .i64 p.f1 := by
    have : (instR σ (.lst [i64v 0, i64v 1, .ovs 0])).get 1 = some (.int .i64 p.f1) := rfl
    rw [this] at y1; exact (Option.some.inj y1).symm
   subst e1
   cases y4
   simpa [World.cell?, q1'] using y3
  ·obtain ⟨x1, v1, y1, y2, y3, y4⟩ := q4 2 (by rw [SRope.size_inst]; decide)
   have e1 : x1 = .vs A2 n2 c2 := by
    have : (instR σ (.lst [i64v 0, i64v 1, .ovs 0])).get 2 = some (.vs A2 n2 c2) := rfl
    rw [this] at y1; exact (Option.some.inj y1).symm
   subst e1
   cases y4
   simpa [World.cell?, q1'] using y3
  ·have hv0 : σ.v 0 = p.f0 := rfl
   split at cX
   ·rename_i h5s
    have h5d := dec_same0 hV hF h5s
    rw [hv0, decide_eq_true_eq] at h5d
    simp only [Bool.and_eq_true] at cX
    refine ⟨?_, ?_⟩
    ·rw [show bankO p.f0 = 8 from by unfold bankO; rw [if_pos h5d]]
     exact pt (slot 8 _ cX.1)
    ·have := slot 9 _ cX.2
     have h' : VR ρ' (.bool true) (a'.tmps.getD 9 Go.undef) := this
     generalize a'.tmps.getD 9 Go.undef = v at h'
     cases h'; rfl
   ·rename_i h5s
    have h5d := dec_same0 hV hF h5s
    rw [hv0, decide_eq_false_iff_not] at h5d
    split at cX
    ·rename_i h7s
     simp only [Bool.and_eq_true] at cX
     refine ⟨?_, ?_⟩
     ·rw [show bankO p.f0 = 16392 from by unfold bankO; rw [if_neg h5d]]
      exact pt (slot 8 _ cX.1)
     ·have := slot 9 _ cX.2
      have h' : VR ρ' (.bool true) (a'.tmps.getD 9 Go.undef) := this
      generalize a'.tmps.getD 9 Go.undef = v at h'
      cases h'; rfl
    ·rename_i h7s
     have h7d := dec_same0 hV hF h7s
     rw [hv0, decide_eq_false_iff_not] at h7d
     rcases h with h | h
     ·exact absurd h h5d
     ·exact absurd h h7d
    ·cases cX
   ·cases cX
  ·have hv0 : σ.v 0 = p.f0 := rfl
   split at cX
   ·rename_i h5s
    have h5d := dec_same0 hV hF h5s
    rw [hv0, decide_eq_true_eq] at h5d
    exact absurd h5d n5
   ·split at cX
    ·rename_i h7s
     have h7d := dec_same0 hV hF h7s
     rw [hv0, decide_eq_true_eq] at h7d
     exact absurd h7d n7
    ·have := slot 9 _ cX
     have h' : VR ρ' (.bool false) (a'.tmps.getD 9 Go.undef) := this
     generalize a'.tmps.getD 9 Go.undef = v at h'
     cases h'; rfl
    ·cases cX
   ·cases cX
 ·cases hck
end Go.Sim
end
section
namespace Go.Sim
attribute [local instance] noRO
open Go.Proofs Go.RowKit Go.Proofs.YtdppeaciahdekaaGreatW.PrintWords Go.Proofs.YtdppeaciahdekaaGreatW.PrintLast Go.Proofs.YtdppeaciahdekaaGreatW.PrintMore
open Go.Proofs.YtdppeaciahdekaaGreat.PLockParts
set_option maxHeartbeats 8000000 in
set_option maxRecDepth 100000 in
theorem ula_new_calls {σ : Sig} (hV : V7.fit σ) (hs : ∀ w, Calls Tryz.prog 158 #[scrVals σ] w fun x w' => x = .returned (.int .i64 0) ∧ Only (fun _ => False) w w') {K : Nat} (t : Tch) (hk : keysIs K t.ts 0) (A : Option Addr) (c : Nat) (ps : List S127) (w : World) (ht : t.lies w)
  (hr : Kd.C k127 w A ps.length ps) (hc : ps.length ≤ c) (hl : ps.length ≤ 1000000) (hok : pchk ps = 0) (hby : byOK ps) :
  Calls Tryz.prog 51 #[.agg #[.int .i64 (σ.v 0), .int .i64 (σ.v 1), .int .i64 (σ.v 2), .int .i64 (σ.v 3), .int .i64 (σ.v 4), .int .i64 (σ.v 5), .int .i64 (σ.v 6), .slice t.A t.ts.length t.c, .slice A ps.length c, .bool false]] w fun e w' =>
   ∃ (ρ : Ren) (l : Loc), e = .returned (.tuple #[.pointer (some ⟨l.blk, l.off, none⟩), .int .i64 0]) ∧ ρ 0 = some l ∧ w.heap.size ≤ l.blk ∧ Rep ρ (instH (ulaSig σ t (bankF ps)) ulaH) w' ∧ Below w.heap.size w w' := by
 have hu105 := Tryz.underlying105
 have HR := Aside0.mk hr
 have HC := Aside0.mk hc
 have HL := Aside0.mk hl
 have HT := Aside0.mk ht
 clear hr hc hl ht
 have HPZ := Aside0.mk (pchk_zero hok)
 have hset : setupU 0 0 ps = 0 := by unfold setupU; rw [if_pos rfl, if_pos rfl]; exact hok
 have HSET := Aside0.mk hset
 clear hok hset
 go_enter Tryz.func51, Tryz.ntmps51
 go_wp2_with (first | (go_at_call 104; refine (ula_check hs t.A t.c t.ts hk A c ps false _ (Kd.C_below HT.out.r (below_alloc (Below.refl _ _) _)) HT.out.c (Kd.C_below HR.out (below_alloc (Below.refl _ _) _)) HC.out HL.out).mono ?_; rintro e w1 ⟨rfl, hb1⟩; rw [HSET.out]; have hk1 := Aside0.mk ((hb1.block w.heap.size (by simp)).trans (heap_alloc_new w _)); have HB1 := Aside0.mk (below_then (below_alloc (Below.refl w.heap.size w) _) (by simp) hb1); have HSZ1 := Aside0.mk (Nat.lt_of_lt_of_le (show w.heap.size < (w.alloc _).heap.size by simp) hb1.size); clear hb1))
 refine Code.wp_mono ?_ (unew_region hV t A ps.length c HT.out HB1.out (Nat.le_refl _) hk1.out (by rfl) (by rfl) rfl (by kernel_rfl))
 rintro e ⟨tm, df⟩ w2 ⟨rfl, hd1, hn1, h1s, hc8, ho2, ρ, l, h5, hρ0, hlb, hrep⟩
 have hd1 : df = [] := hd1
 have hn1 : tm.size = 50 := hn1
 have h1s : tm.getD 1 Go.undef = _ := h1s
 have h5 : tm.getD 5 Go.undef = _ := h5
 subst hd1
 have et : tm = #[tm.getD 0 Go.undef, tm.getD 1 Go.undef, tm.getD 2 Go.undef, tm.getD 3 Go.undef, tm.getD 4 Go.undef, tm.getD 5 Go.undef, tm.getD 6 Go.undef, tm.getD 7 Go.undef, tm.getD 8 Go.undef, tm.getD 9 Go.undef, tm.getD 10 Go.undef, tm.getD 11 Go.undef, tm.getD 12 Go.undef, tm.getD 13 Go.undef, tm.getD 14 Go.undef, tm.getD 15 Go.undef, tm.getD 16 Go.undef, tm.getD 17 Go.undef, tm.getD 18 Go.undef, tm.getD 19 Go.undef, tm.getD 20 Go.undef, tm.getD 21 Go.undef, tm.getD 22 Go.undef, tm.getD 23 Go.undef, tm.getD 24 Go.undef, tm.getD 25 Go.undef, tm.getD 26 Go.undef, tm.getD 27 Go.undef, tm.getD 28 Go.undef, tm.getD 29 Go.undef, tm.getD 30 Go.undef, tm.getD 31 Go.undef, tm.getD 32 Go.undef, tm.getD 33 Go.undef, tm.getD 34 Go.undef, tm.getD 35 Go.undef, tm.getD 36 Go.undef, tm.getD 37 Go.undef, tm.getD 38 Go.undef, tm.getD 39 Go.undef, tm.getD 40 Go.undef, tm.getD 41 Go.undef, tm.getD 42 Go.undef, tm.getD 43 Go.undef, tm.getD 44 Go.undef, tm.getD 45 Go.undef, tm.getD 46 Go.undef, tm.getD 47 Go.undef, tm.getD 48 Go.undef, tm.getD 49 Go.undef] := arr_lit tm hn1
 rw [h1s] at et
 rw [h5] at et
 generalize tm.getD 0 Go.undef = x0 at et
 generalize tm.getD 2 Go.undef = x2 at et
 generalize tm.getD 3 Go.undef = x3 at et
 generalize tm.getD 4 Go.undef = x4 at et
 generalize tm.getD 6 Go.undef = x6 at et
 generalize tm.getD 7 Go.undef = x7 at et
 generalize tm.getD 8 Go.undef = x8 at et
 generalize tm.getD 9 Go.undef = x9 at et
 generalize tm.getD 10 Go.undef = x10 at et
 generalize tm.getD 11 Go.undef = x11 at et
 generalize tm.getD 12 Go.undef = x12 at et
 generalize tm.getD 13 Go.undef = x13 at et
 generalize tm.getD 14 Go.undef = x14 at et
 generalize tm.getD 15 Go.undef = x15 at et
 generalize tm.getD 16 Go.undef = x16 at et
 generalize tm.getD 17 Go.undef = x17 at et
 generalize tm.getD 18 Go.undef = x18 at et
 generalize tm.getD 19 Go.undef = x19 at et
 generalize tm.getD 20 Go.undef = x20 at et
 generalize tm.getD 21 Go.undef = x21 at et
 generalize tm.getD 22 Go.undef = x22 at et
 generalize tm.getD 23 Go.undef = x23 at et
 generalize tm.getD 24 Go.undef = x24 at et
 generalize tm.getD 25 Go.undef = x25 at et
 generalize tm.getD 26 Go.undef = x26 at et
 generalize tm.getD 27 Go.undef = x27 at et
 generalize tm.getD 28 Go.undef = x28 at et
 generalize tm.getD 29 Go.undef = x29 at et
 generalize tm.getD 30 Go.undef = x30 at et
 generalize tm.getD 31 Go.undef = x31 at et
 generalize tm.getD 32 Go.undef = x32 at et
 generalize tm.getD 33 Go.undef = x33 at et
 generalize tm.getD 34 Go.undef = x34 at et
 generalize tm.getD 35 Go.undef = x35 at et
 generalize tm.getD 36 Go.undef = x36 at et
 generalize tm.getD 37 Go.undef = x37 at et
 generalize tm.getD 38 Go.undef = x38 at et
 generalize tm.getD 39 Go.undef = x39 at et
 generalize tm.getD 40 Go.undef = x40 at et
 generalize tm.getD 41 Go.undef = x41 at et
 generalize tm.getD 42 Go.undef = x42 at et
 generalize tm.getD 43 Go.undef = x43 at et
 generalize tm.getD 44 Go.undef = x44 at et
 generalize tm.getD 45 Go.undef = x45 at et
 generalize tm.getD 46 Go.undef = x46 at et
 generalize tm.getD 47 Go.undef = x47 at et
 generalize tm.getD 48 Go.undef = x48 at et
 generalize tm.getD 49 Go.undef = x49 at et
 clear h1s h5 hn1
 subst et
 have hb2 : Below w.heap.size w w2 := HB1.out.trans (ho2.below HB1.out.size fun b hb => by rw [show b = w.heap.size from hb]; exact Nat.le_refl _)
 have HB2 := Aside0.mk hb2
 have HLB := Aside0.mk (Nat.le_trans HB1.out.size hlb)
 have HREP := Aside0.mk hrep
 clear hb2 hlb hrep ho2
 dsimp only [Exit.then]
 go_wp2
 have HREP0 : Aside0 (Rep ρ (instH (ulaSig σ t (bankF (ps.take 0))) ulaH) w2) := HREP
 clear HREP hc8
 refine loop_inv (fun m a' w' => ∃ i : Nat, m + i = ps.length ∧ a'.defers = [] ∧ a'.tmps.size = 50 ∧ a'.tmps.getD 5 Go.undef = .pointer (some ⟨l.blk, l.off, none⟩) ∧ a'.tmps.getD 25 Go.undef = .slice A ps.length c ∧ a'.tmps.getD 26 Go.undef = .int .i64 (ps.length : Int) ∧ a'.tmps.getD 27 Go.undef = .int .i64 (i : Int) ∧ Aside0 (Rep ρ (instH (ulaSig σ t (bankF (ps.take i))) ulaH) w') ∧ Aside0 (Below w.heap.size w w')) ?_ (N := ps.length) ⟨0, by omega, rfl, rfl, rfl, rfl, rfl, rfl, HREP0, HB2⟩
 ·clear HREP0 HB2
  rintro m ⟨tm3, df3⟩ wr ⟨i, hmi, hd3, hn3, s5, s25, s26, s27, HREP, HBL⟩
  have hd3 : df3 = [] := hd3
  have hn3 : tm3.size = 50 := hn3
  have s5 : tm3.getD 5 Go.undef = _ := s5
  have s25 : tm3.getD 25 Go.undef = _ := s25
  have s26 : tm3.getD 26 Go.undef = _ := s26
  have s27 : tm3.getD 27 Go.undef = _ := s27
  subst hd3
  have et : tm3 = #[tm3.getD 0 Go.undef, tm3.getD 1 Go.undef, tm3.getD 2 Go.undef, tm3.getD 3 Go.undef, tm3.getD 4 Go.undef, tm3.getD 5 Go.undef, tm3.getD 6 Go.undef, tm3.getD 7 Go.undef, tm3.getD 8 Go.undef, tm3.getD 9 Go.undef, tm3.getD 10 Go.undef, tm3.getD 11 Go.undef, tm3.getD 12 Go.undef, tm3.getD 13 Go.undef, tm3.getD 14 Go.undef, tm3.getD 15 Go.undef, tm3.getD 16 Go.undef, tm3.getD 17 Go.undef, tm3.getD 18 Go.undef, tm3.getD 19 Go.undef, tm3.getD 20 Go.undef, tm3.getD 21 Go.undef, tm3.getD 22 Go.undef, tm3.getD 23 Go.undef, tm3.getD 24 Go.undef, tm3.getD 25 Go.undef, tm3.getD 26 Go.undef, tm3.getD 27 Go.undef, tm3.getD 28 Go.undef, tm3.getD 29 Go.undef, tm3.getD 30 Go.undef, tm3.getD 31 Go.undef, tm3.getD 32 Go.undef, tm3.getD 33 Go.undef, tm3.getD 34 Go.undef, tm3.getD 35 Go.undef, tm3.getD 36 Go.undef, tm3.getD 37 Go.undef, tm3.getD 38 Go.undef, tm3.getD 39 Go.undef, tm3.getD 40 Go.undef, tm3.getD 41 Go.undef, tm3.getD 42 Go.undef, tm3.getD 43 Go.undef, tm3.getD 44 Go.undef, tm3.getD 45 Go.undef, tm3.getD 46 Go.undef, tm3.getD 47 Go.undef, tm3.getD 48 Go.undef, tm3.getD 49 Go.undef] := arr_lit tm3 hn3
  rw [s5] at et
  rw [s25] at et
  rw [s26] at et
  rw [s27] at et
  generalize tm3.getD 0 Go.undef = x0 at et
  generalize tm3.getD 1 Go.undef = x1 at et
  generalize tm3.getD 2 Go.undef = x2 at et
  generalize tm3.getD 3 Go.undef = x3 at et
  generalize tm3.getD 4 Go.undef = x4 at et
  generalize tm3.getD 6 Go.undef = x6 at et
  generalize tm3.getD 7 Go.undef = x7 at et
  generalize tm3.getD 8 Go.undef = x8 at et
  generalize tm3.getD 9 Go.undef = x9 at et
  generalize tm3.getD 10 Go.undef = x10 at et
  generalize tm3.getD 11 Go.undef = x11 at et
  generalize tm3.getD 12 Go.undef = x12 at et
  generalize tm3.getD 13 Go.undef = x13 at et
  generalize tm3.getD 14 Go.undef = x14 at et
  generalize tm3.getD 15 Go.undef = x15 at et
  generalize tm3.getD 16 Go.undef = x16 at et
  generalize tm3.getD 17 Go.undef = x17 at et
  generalize tm3.getD 18 Go.undef = x18 at et
  generalize tm3.getD 19 Go.undef = x19 at et
  generalize tm3.getD 20 Go.undef = x20 at et
  generalize tm3.getD 21 Go.undef = x21 at et
  generalize tm3.getD 22 Go.undef = x22 at et
  generalize tm3.getD 23 Go.undef = x23 at et
  generalize tm3.getD 24 Go.undef = x24 at et
  generalize tm3.getD 28 Go.undef = x28 at et
  generalize tm3.getD 29 Go.undef = x29 at et
  generalize tm3.getD 30 Go.undef = x30 at et
  generalize tm3.getD 31 Go.undef = x31 at et
  generalize tm3.getD 32 Go.undef = x32 at et
  generalize tm3.getD 33 Go.undef = x33 at et
  generalize tm3.getD 34 Go.undef = x34 at et
  generalize tm3.getD 35 Go.undef = x35 at et
  generalize tm3.getD 36 Go.undef = x36 at et
  generalize tm3.getD 37 Go.undef = x37 at et
  generalize tm3.getD 38 Go.undef = x38 at et
  generalize tm3.getD 39 Go.undef = x39 at et
  generalize tm3.getD 40 Go.undef = x40 at et
  generalize tm3.getD 41 Go.undef = x41 at et
  generalize tm3.getD 42 Go.undef = x42 at et
  generalize tm3.getD 43 Go.undef = x43 at et
  generalize tm3.getD 44 Go.undef = x44 at et
  generalize tm3.getD 45 Go.undef = x45 at et
  generalize tm3.getD 46 Go.undef = x46 at et
  generalize tm3.getD 47 Go.undef = x47 at et
  generalize tm3.getD 48 Go.undef = x48 at et
  generalize tm3.getD 49 Go.undef = x49 at et
  clear s5 s25 s26 s27 hn3
  subst et
  by_cases hc : i < ps.length
  ·have hc0 : decide ((i : Int) < (ps.length : Int)) = true := decide_eq_true (by omega)
   have hc1 : decide (i < ps.length) = true := decide_eq_true hc
   have p1 : (0 : Int) ≤ (i : Int) := by omega
   have q1 : (i : Int) < (ps.length : Int) := by omega
   obtain ⟨ad, A2, c2, e1, h0, h1, h2, l2, g2⟩ := at_T127 HR.out i p1 q1
   cases e1
   have hin : ((i : Int)).toNat = i := rfl
   rw [hin] at h0 h1 h2
   replace h0 := (HBL.out.cell (World.block_lt_of_cell? w _ h0)).trans h0
   replace h1 := (HBL.out.cell (World.block_lt_of_cell? w _ h1)).trans h1
   replace h2 := (HBL.out.cell (World.block_lt_of_cell? w _ h2)).trans h2
   have G2 := Aside0.mk (Kd.C_below g2 HBL.out)
   clear g2
   replace p1 := eq_true p1
   replace q1 := eq_true q1
   obtain ⟨z0, z1, z2, z3⟩ := ckP_zero (HPZ.out _ (rd_mem hc))
   skip
   go_wp2
   generalize hp : rd_T127 ps ↑i = p at G2 l2 z0 z1 z2 z3 ⊢
   have HP := Aside0.mk hp
   clear hp h0 h1 h2
   have hn6 := heap_alloc_new wr (Obj.cells #[.int .i64 p.f0, .int .i64 p.f1, .slice A2 p.f2.length c2] 127)
   have hb6 : Below wr.heap.size wr (wr.alloc (Obj.cells #[.int .i64 p.f0, .int .i64 p.f1, .slice A2 p.f2.length c2] 127)) := below_alloc (Below.refl _ _) _
   have hs6 : (wr.alloc (Obj.cells #[.int .i64 p.f0, .int .i64 p.f1, .slice A2 p.f2.length c2] 127)).heap.size = wr.heap.size + 1 := by simp
   generalize wr.alloc (Obj.cells #[.int .i64 p.f0, .int .i64 p.f1, .slice A2 p.f2.length c2] 127) = w6 at hn6 hb6 hs6 ⊢
   have HB6 := Aside0.mk hb6
   have HS6 := Aside0.mk hs6
   clear hb6 hs6
   have hfl : foot ρ (instH (ulaSig σ t (bankF (ps.take i))) ulaH) l.blk := (foot_one (n := 2) hρ0 _).2 rfl
   have hlt := HREP.out.lt hfl
   have HLT := Aside0.mk hlt
   clear hlt hfl
   have z3' : p.f1 ≤ 16384 := by omega
   have hil : i ≤ ps.length := by omega
   have HLEN := Aside0.mk (show ps.length ≤ 1000000 from HL.out)
   refine Code.wp_mono ?_ (bk_region z0 z1 z2 z3' hn6 (lb := l) (by have := HLT.out; have := HS6.out; omega) (by have := HLT.out; omega) (A := some ad) (n := ps.length) (c := c) (i := i) HLEN.out hil (by rfl) (by rfl) (by rfl) (by rfl) (by rfl) (by rfl) rfl (by kernel_rfl))
   rintro e ⟨tm2, df2⟩ w7 ⟨rfl, hd2, hn2, k5, k7, k25, k26, k27, cb1, cb2, ho7, hyes, hno⟩
   have hd2 : df2 = [] := hd2
   have hn2 : tm2.size = 50 := hn2
   have k5 : tm2.getD 5 Go.undef = _ := k5
   have k7 : tm2.getD 7 Go.undef = _ := k7
   have k25 : tm2.getD 25 Go.undef = _ := k25
   have k26 : tm2.getD 26 Go.undef = _ := k26
   have k27 : tm2.getD 27 Go.undef = _ := k27
   subst hd2
   have HO7 := Aside0.mk ho7
   clear ho7 hn6
   have hz7 : w7.heap[l.blk]? = wr.heap[l.blk]? := (HO7.out.keep l.blk (by have := HLT.out; have := HS6.out; omega) (by show l.blk ≠ wr.heap.size; have := HLT.out; omega)).trans (HB6.out.block l.blk HLT.out)
   have hrep7 : Rep ρ (instH (ulaSig σ t (bankF (ps.take i))) ulaH) w7 := HREP.out.other fun b hb => by rw [(foot_one (n := 2) hρ0 b).1 hb]; exact hz7
   have HREP7 := Aside0.mk hrep7
   have hb7 : Below w.heap.size w w7 := (below_then HBL.out HBL.out.size HB6.out).trans (HO7.out.below (by have := HBL.out.size; have := HS6.out; omega) (fun b hb => by rw [show b = wr.heap.size from hb]; exact HBL.out.size))
   have HB7 := Aside0.mk hb7
   clear hz7 hrep7 hb7
   have HBY := Aside0.mk (show w7.heap.size ≥ wr.heap.size + 1 by have := HO7.out.grew.size; have := HS6.out; omega)
   by_cases hbk : p.f0 = 5 ∨ p.f0 = 7
   ·obtain ⟨k8, k9⟩ := hyes hbk
    have k8 : tm2.getD 8 Go.undef = _ := k8
    have k9 : tm2.getD 9 Go.undef = _ := k9
    clear hyes hno
    have et : tm2 = #[tm2.getD 0 Go.undef, tm2.getD 1 Go.undef, tm2.getD 2 Go.undef, tm2.getD 3 Go.undef, tm2.getD 4 Go.undef, tm2.getD 5 Go.undef, tm2.getD 6 Go.undef, tm2.getD 7 Go.undef, tm2.getD 8 Go.undef, tm2.getD 9 Go.undef, tm2.getD 10 Go.undef, tm2.getD 11 Go.undef, tm2.getD 12 Go.undef, tm2.getD 13 Go.undef, tm2.getD 14 Go.undef, tm2.getD 15 Go.undef, tm2.getD 16 Go.undef, tm2.getD 17 Go.undef, tm2.getD 18 Go.undef, tm2.getD 19 Go.undef, tm2.getD 20 Go.undef, tm2.getD 21 Go.undef, tm2.getD 22 Go.undef, tm2.getD 23 Go.undef, tm2.getD 24 Go.undef, tm2.getD 25 Go.undef, tm2.getD 26 Go.undef, tm2.getD 27 Go.undef, tm2.getD 28 Go.undef, tm2.getD 29 Go.undef, tm2.getD 30 Go.undef, tm2.getD 31 Go.undef, tm2.getD 32 Go.undef, tm2.getD 33 Go.undef, tm2.getD 34 Go.undef, tm2.getD 35 Go.undef, tm2.getD 36 Go.undef, tm2.getD 37 Go.undef, tm2.getD 38 Go.undef, tm2.getD 39 Go.undef, tm2.getD 40 Go.undef, tm2.getD 41 Go.undef, tm2.getD 42 Go.undef, tm2.getD 43 Go.undef, tm2.getD 44 Go.undef, tm2.getD 45 Go.undef, tm2.getD 46 Go.undef, tm2.getD 47 Go.undef, tm2.getD 48 Go.undef, tm2.getD 49 Go.undef] := arr_lit tm2 hn2
    rw [k5] at et
    rw [k7] at et
    rw [k25] at et
    rw [k26] at et
    rw [k27] at et
    rw [k8] at et
    rw [k9] at et
    generalize tm2.getD 0 Go.undef = x0 at et
    generalize tm2.getD 1 Go.undef = x1 at et
    generalize tm2.getD 2 Go.undef = x2 at et
    generalize tm2.getD 3 Go.undef = x3 at et
    generalize tm2.getD 4 Go.undef = x4 at et
    generalize tm2.getD 6 Go.undef = x6 at et
    generalize tm2.getD 10 Go.undef = x10 at et
    generalize tm2.getD 11 Go.undef = x11 at et
    generalize tm2.getD 12 Go.undef = x12 at et
    generalize tm2.getD 13 Go.undef = x13 at et
    generalize tm2.getD 14 Go.undef = x14 at et
    generalize tm2.getD 15 Go.undef = x15 at et
    generalize tm2.getD 16 Go.undef = x16 at et
    generalize tm2.getD 17 Go.undef = x17 at et
    generalize tm2.getD 18 Go.undef = x18 at et
    generalize tm2.getD 19 Go.undef = x19 at et
    generalize tm2.getD 20 Go.undef = x20 at et
    generalize tm2.getD 21 Go.undef = x21 at et
    generalize tm2.getD 22 Go.undef = x22 at et
    generalize tm2.getD 23 Go.undef = x23 at et
    generalize tm2.getD 24 Go.undef = x24 at et
    generalize tm2.getD 28 Go.undef = x28 at et
    generalize tm2.getD 29 Go.undef = x29 at et
    generalize tm2.getD 30 Go.undef = x30 at et
    generalize tm2.getD 31 Go.undef = x31 at et
    generalize tm2.getD 32 Go.undef = x32 at et
    generalize tm2.getD 33 Go.undef = x33 at et
    generalize tm2.getD 34 Go.undef = x34 at et
    generalize tm2.getD 35 Go.undef = x35 at et
    generalize tm2.getD 36 Go.undef = x36 at et
    generalize tm2.getD 37 Go.undef = x37 at et
    generalize tm2.getD 38 Go.undef = x38 at et
    generalize tm2.getD 39 Go.undef = x39 at et
    generalize tm2.getD 40 Go.undef = x40 at et
    generalize tm2.getD 41 Go.undef = x41 at et
    generalize tm2.getD 42 Go.undef = x42 at et
    generalize tm2.getD 43 Go.undef = x43 at et
    generalize tm2.getD 44 Go.undef = x44 at et
    generalize tm2.getD 45 Go.undef = x45 at et
    generalize tm2.getD 46 Go.undef = x46 at et
    generalize tm2.getD 47 Go.undef = x47 at et
    generalize tm2.getD 48 Go.undef = x48 at et
    generalize tm2.getD 49 Go.undef = x49 at et
    clear k5 k7 k25 k26 k27 k8 k9 hn2
    subst et
    dsimp only [Exit.then]
    have p4 := eq_true z2
    have q4 := eq_true z3'
    go_wp2
    go_still_tail 7, (by kernel_rfl)
    change wpList _ _ _ _ _ w7.drew
    obtain ⟨at0, hat⟩ : ∃ m : Nat, (m : Int) = p.f1 := ⟨p.f1.toNat, by omega⟩
    have hat0 : p.f1.toNat = at0 := by omega
    have hrw := WR.row HREP7.out (by rw [ulaH_get, if_pos rfl]) hρ0
    obtain ⟨cs, ty, fr, r1, r2, r3, r4, r5, r6⟩ := hrw
    have r6 := r6 rfl
    subst r6
    rw [SRope.size_inst] at r2
    have r2 : l.off + 32783 + l.sp * 0 ≤ cs.size := r2
    have hbo : bankO p.f0 + 16384 ≤ 32776 := by unfold bankO; split <;> omega
    have hl3 : at0 + p.f2.length ≤ 16384 := by omega
    have HMN := Aside0.mk (show (p.f2.map (Value.int .u8)).length = Nat.min p.f2.length (16384 - p.f1.toNat) by rw [List.length_map]; exact (Nat.min_eq_left (by omega)).symm)
    have HPOS : Aside0 (0 < (p.f2.map (Value.int .u8)).length → some (if 16384 = p.f1.toNat then (⟨l.blk, l.off + bankO p.f0, none⟩ : Addr) else ⟨l.blk, l.off + bankO p.f0 + p.f1.toNat, none⟩) = some ⟨l.blk, l.off + bankO p.f0 + at0, none⟩ ∧ ∃ ad, A2 = some ad ∧ ∀ j v, (p.f2.map (Value.int .u8))[j]? = some v → w7.drew.cell? (ad.add j) = some v) := by
     refine ⟨fun hpos => ?_⟩
     rw [List.length_map] at hpos
     refine ⟨by rw [if_neg (by omega), hat0], ?_⟩
     obtain ⟨_, _, hh⟩ := G2.out
     obtain ⟨ad2, rfl, hcell⟩ := hh hpos
     refine ⟨ad2, rfl, fun j v hv => ?_⟩
     rw [List.getElem?_map] at hv
     obtain ⟨x, hx, rfl⟩ := Option.map_eq_some_iff.1 hv
     obtain ⟨cc, _, hK, hcc⟩ := hcell j x hx
     have hK' : cc = [Value.int .u8 x] := hK
     subst hK'
     have h5 := hcc 0 _ rfl
     have hsz1 : (Kd.int .u8).sz = 1 := rfl
     rw [hsz1, Nat.mul_one, Nat.add_zero] at h5
     have hbA : Below wr.heap.size wr w7 := HB6.out.trans (HO7.out.below (by have := HS6.out; omega) (fun b hb => by rw [show b = wr.heap.size from hb]; exact Nat.le_refl _))
     exact pw_cell_below hbA h5
    have HFIT := Aside0.mk (show l.off + bankO p.f0 + at0 + (p.f2.map (Value.int .u8)).length ≤ cs.toList.length by rw [List.length_map, Array.length_toList]; omega)
    have HCUR : Aside0 (w7.drew.heap[l.blk]? = some (.cells cs.toList.toArray ty (0, 0))) := ⟨by rw [Array.toArray_toList]; exact r1⟩
    have HR1 := Aside0.mk r1
    have HAT := Aside0.mk hat
    have HL3 := Aside0.mk hl3
    clear cb1 cb2 p4 q4 r1 r2 r3 r4 r5 hat hat0 hl3 hbo
    refine wpList_copy_at rfl (.tmp 44) (.tmp 46) 124 124 rfl 5 Go.Proofs.Tryz.underlying124 info5' (some (if 16384 = p.f1.toNat then (⟨l.blk, l.off + bankO p.f0, none⟩ : Addr) else ⟨l.blk, l.off + bankO p.f0 + p.f1.toNat, none⟩)) A2 (16384 - p.f1.toNat) (16384 - p.f1.toNat) p.f2.length c2 rfl rfl l.blk (l.off + bankO p.f0 + at0) cs.toList ty HCUR.out (p.f2.map (Value.int .u8)) HMN.out HPOS.out HFIT.out (by intro v hv; obtain ⟨x, _, rfl⟩ := List.mem_map.1 hv; rfl) ?_
    intro w8 hn8 ho8 hs8
    generalize (if 16384 = p.f1.toNat then (⟨l.blk, l.off + bankO p.f0, none⟩ : Addr) else ⟨l.blk, l.off + bankO p.f0 + p.f1.toNat, none⟩) = dpx
    have hrep8 : Rep ρ (instH (ulaSig σ t (putP p (bankF (ps.take i)))) ulaH) w8 := ula_rep_put (w := w7.drew) hρ0 (rep_below HREP7.out (below_drew (Below.refl _ _))) hbk HAT.out HL3.out HCUR.out hn8.out ho8.out
    have HREP8 := Aside0.mk hrep8
    have hb8 : Below w.heap.size w w8 := (below_drew HB7.out).trans (ho8.out.below (by have := HB7.out.size; exact this) (fun b hb => by rw [show b = l.blk from hb]; exact HLB.out))
    have HB8 := Aside0.mk hb8
    clear hrep8 hb8 hn8
    go_wp2
    refine ⟨m - 1, by omega, i + 1, by omega, (by rw [wrap64_add1 (by omega : (0 : Int) ≤ i) (by have := HL.out; omega)]; rfl), Aside0.mk ?_⟩
    rw [bankF_snoc ps hc, HP.out]
    exact HREP8.out
   ·have k9 := hno (fun h => hbk (.inl h)) (fun h => hbk (.inr h))
    have k9 : tm2.getD 9 Go.undef = _ := k9
    clear hyes hno
    have et : tm2 = #[tm2.getD 0 Go.undef, tm2.getD 1 Go.undef, tm2.getD 2 Go.undef, tm2.getD 3 Go.undef, tm2.getD 4 Go.undef, tm2.getD 5 Go.undef, tm2.getD 6 Go.undef, tm2.getD 7 Go.undef, tm2.getD 8 Go.undef, tm2.getD 9 Go.undef, tm2.getD 10 Go.undef, tm2.getD 11 Go.undef, tm2.getD 12 Go.undef, tm2.getD 13 Go.undef, tm2.getD 14 Go.undef, tm2.getD 15 Go.undef, tm2.getD 16 Go.undef, tm2.getD 17 Go.undef, tm2.getD 18 Go.undef, tm2.getD 19 Go.undef, tm2.getD 20 Go.undef, tm2.getD 21 Go.undef, tm2.getD 22 Go.undef, tm2.getD 23 Go.undef, tm2.getD 24 Go.undef, tm2.getD 25 Go.undef, tm2.getD 26 Go.undef, tm2.getD 27 Go.undef, tm2.getD 28 Go.undef, tm2.getD 29 Go.undef, tm2.getD 30 Go.undef, tm2.getD 31 Go.undef, tm2.getD 32 Go.undef, tm2.getD 33 Go.undef, tm2.getD 34 Go.undef, tm2.getD 35 Go.undef, tm2.getD 36 Go.undef, tm2.getD 37 Go.undef, tm2.getD 38 Go.undef, tm2.getD 39 Go.undef, tm2.getD 40 Go.undef, tm2.getD 41 Go.undef, tm2.getD 42 Go.undef, tm2.getD 43 Go.undef, tm2.getD 44 Go.undef, tm2.getD 45 Go.undef, tm2.getD 46 Go.undef, tm2.getD 47 Go.undef, tm2.getD 48 Go.undef, tm2.getD 49 Go.undef] := arr_lit tm2 hn2
    rw [k5] at et
    rw [k7] at et
    rw [k25] at et
    rw [k26] at et
    rw [k27] at et
    rw [k9] at et
    generalize tm2.getD 0 Go.undef = x0 at et
    generalize tm2.getD 1 Go.undef = x1 at et
    generalize tm2.getD 2 Go.undef = x2 at et
    generalize tm2.getD 3 Go.undef = x3 at et
    generalize tm2.getD 4 Go.undef = x4 at et
    generalize tm2.getD 6 Go.undef = x6 at et
    generalize tm2.getD 8 Go.undef = x8 at et
    generalize tm2.getD 10 Go.undef = x10 at et
    generalize tm2.getD 11 Go.undef = x11 at et
    generalize tm2.getD 12 Go.undef = x12 at et
    generalize tm2.getD 13 Go.undef = x13 at et
    generalize tm2.getD 14 Go.undef = x14 at et
    generalize tm2.getD 15 Go.undef = x15 at et
    generalize tm2.getD 16 Go.undef = x16 at et
    generalize tm2.getD 17 Go.undef = x17 at et
    generalize tm2.getD 18 Go.undef = x18 at et
    generalize tm2.getD 19 Go.undef = x19 at et
    generalize tm2.getD 20 Go.undef = x20 at et
    generalize tm2.getD 21 Go.undef = x21 at et
    generalize tm2.getD 22 Go.undef = x22 at et
    generalize tm2.getD 23 Go.undef = x23 at et
    generalize tm2.getD 24 Go.undef = x24 at et
    generalize tm2.getD 28 Go.undef = x28 at et
    generalize tm2.getD 29 Go.undef = x29 at et
    generalize tm2.getD 30 Go.undef = x30 at et
    generalize tm2.getD 31 Go.undef = x31 at et
    generalize tm2.getD 32 Go.undef = x32 at et
    generalize tm2.getD 33 Go.undef = x33 at et
    generalize tm2.getD 34 Go.undef = x34 at et
    generalize tm2.getD 35 Go.undef = x35 at et
    generalize tm2.getD 36 Go.undef = x36 at et
    generalize tm2.getD 37 Go.undef = x37 at et
    generalize tm2.getD 38 Go.undef = x38 at et
    generalize tm2.getD 39 Go.undef = x39 at et
    generalize tm2.getD 40 Go.undef = x40 at et
    generalize tm2.getD 41 Go.undef = x41 at et
    generalize tm2.getD 42 Go.undef = x42 at et
    generalize tm2.getD 43 Go.undef = x43 at et
    generalize tm2.getD 44 Go.undef = x44 at et
    generalize tm2.getD 45 Go.undef = x45 at et
    generalize tm2.getD 46 Go.undef = x46 at et
    generalize tm2.getD 47 Go.undef = x47 at et
    generalize tm2.getD 48 Go.undef = x48 at et
    generalize tm2.getD 49 Go.undef = x49 at et
    clear k5 k7 k25 k26 k27 k9 hn2
    subst et
    dsimp only [Exit.then]
    go_wp2
    refine ⟨m - 1, by omega, i + 1, by omega, (by rw [wrap64_add1 (by omega : (0 : Int) ≤ i) (by have := HL.out; omega)]; rfl), Aside0.mk ?_⟩
    rw [bankF_snoc ps hc, HP.out, ulaSig_skip σ t _ (fun h => hbk (.inl h)) (fun h => hbk (.inr h))]
    exact HREP7.out
  ·have hc0 : decide ((i : Int) < (ps.length : Int)) = false := decide_eq_false (by omega)
   have hc1 : decide (i < ps.length) = false := decide_eq_false hc
   have ei : i = ps.length := by omega
   subst ei
   go_wp2
   go_ret2
   have hR := HREP.out
   rw [List.take_length] at hR
   exact ⟨ρ, l, rfl, hρ0, HLB.out, hR, HBL.out⟩
end Go.Sim
end
section
namespace Go.Sim
attribute [local instance] noRO
open Go.Proofs Go.RowKit Go.Proofs.YtdppeaciahdekaaGreatW.PrintWords Go.Proofs.YtdppeaciahdekaaGreatW.PrintLast Go.Proofs.YtdppeaciahdekaaGreatW.PrintMore
open Go.Proofs.YtdppeaciahdekaaGreat.PLockParts
@[irreducible] def ld43 (a : Addr) : Sem Value := loadVar 43 a
theorem ld43_eq (a : Addr) : loadVar 43 a = ld43 a := by unfold ld43; rfl
@[irreducible] def ld36 (a : Addr) : Sem Value := loadVar 36 a
theorem ld36_eq (a : Addr) : loadVar 36 a = ld36 a := by unfold ld36; rfl
@[irreducible] def ld41 (a : Addr) : Sem Value := loadVar 41 a
theorem ld41_eq (a : Addr) : loadVar 41 a = ld41 a := by unfold ld41; rfl
set_option maxRecDepth 100000 in
theorem Inp.rd43 (x : Inp) {w : World} {g : Nat} (hg : w.heap[g]? = some (.cells x.cells 43 (0, 0))) : (Go.Sim.ld43 ⟨g, 0, none⟩).run Tryz.prog w = .ok x.all w := by
 rw [← ld43_eq]
 exact run_loadVar_sub 43 [] (x.cpuL ++ x.restL) [] hg rfl Tryz.underlying43 rfl (by kernel_rfl)
set_option maxRecDepth 100000 in
theorem Inp.rd36 (x : Inp) {w : World} {g : Nat} (hg : w.heap[g]? = some (.cells x.cells 43 (0, 0))) : (Go.Sim.ld36 ⟨g, 34, none⟩).run Tryz.prog w = .ok (.agg #[.int .i64 x.ay]) w := by
 rw [← ld36_eq]
 exact run_loadVar_sub 36 (x.cpuL ++ [.slice x.t.A x.t.ts.length x.t.c]) [.int .i64 x.ay] [.int .i64 x.f0, .int .i64 x.f1, .bool x.fb, .slice x.k.A x.k.ds.length x.k.c, .int .i64 x.tt] hg rfl Tryz.underlying36 rfl (by kernel_rfl)
set_option maxRecDepth 100000 in
theorem Inp.rd41 (x : Inp) {w : World} {g : Nat} (hg : w.heap[g]? = some (.cells x.cells 43 (0, 0))) : (Go.Sim.ld41 ⟨g, 35, none⟩).run Tryz.prog w = .ok (.agg #[.int .i64 x.f0, .int .i64 x.f1, .bool x.fb, .slice x.k.A x.k.ds.length x.k.c]) w := by
 rw [← ld41_eq]; exact x.load41 hg
set_option maxRecDepth 100000 in
theorem Inp.rd27 (x : Inp) {w : World} {g : Nat} (hg : w.heap[g]? = some (.cells x.cells 43 (0, 0))) : (ld27 ⟨g, 0, none⟩).run Tryz.prog w = .ok (.agg #[.int .i64 (x.s.v 0), .int .i64 (x.s.v 1), .int .i64 (x.s.v 2), .int .i64 (x.s.v 3), .int .i64 (x.s.v 4), .int .i64 (x.s.v 5), .int .i64 (x.s.v 6)]) w := by
 rw [← ld27_eq]
 exact run_loadVar_sub 27 [] x.scrL ([Value.int .u8 (x.v 7)] ++ (x.regL ++ [Value.slice x.A x.ps.length x.c] ++ x.restL)) hg rfl Tryz.underlying27 rfl (by kernel_rfl)
def Inp.setup (x : Inp) : Value := .agg #[.int .i64 (x.s.v 0), .int .i64 (x.s.v 1), .int .i64 (x.s.v 2), .int .i64 (x.s.v 3), .int .i64 (x.s.v 4), .int .i64 (x.s.v 5), .int .i64 (x.s.v 6), .slice x.t.A x.t.ts.length x.t.c, .slice x.A x.ps.length x.c, .bool false]
section
attribute [-go_sem] Go.loadVar
attribute [local go_sem] ld43_eq ld33_eq ld27_eq ld36_eq ld41_eq lv5 lv31 lv34
set_option maxHeartbeats 8000000 in
set_option maxRecDepth 100000 in
theorem stimula_calls (x : Inp) (w : World) : Calls Tryz.prog 65 #[x.all] w fun e w' => e = .returned x.setup ∧ Below w.heap.size w w' := by
 have hk := heap_alloc_new w (Obj.cells x.cells 43)
 have hb := below_alloc (Below.refl w.heap.size w) (Obj.cells x.cells 43)
 have hk2 : ((w.alloc (Obj.cells x.cells 43)).alloc (Obj.cells #[.int .i64 0, .int .i64 0, .int .i64 0, .int .i64 0, .int .i64 0, .int .i64 0, .int .i64 0, .slice none 0 0, .slice none 0 0, .bool false] 105)).heap[w.heap.size]? = some (.cells x.cells 43 (0, 0)) :=
  ((below_alloc (Below.refl _ _) _).block w.heap.size (by simp)).trans hk
 have l27 := x.rd27 hk2
 have c32 := (blk_cell hk2 32).trans (show x.cells[32]? = some (.slice x.A x.ps.length x.c) from rfl)
 have c33 := (blk_cell hk2 33).trans (show x.cells[33]? = some (.slice x.t.A x.t.ts.length x.t.c) from rfl)
 have HB := Aside0.mk hb
 clear hk hb hk2
 unfold Inp.all
 go_enter Tryz.func65, Tryz.ntmps65
 go_wp2
 have h1 := heap_alloc_new (w.alloc (Obj.cells x.cells 43)) (Obj.cells #[.int .i64 (x.s.v 0), .int .i64 (x.s.v 1), .int .i64 (x.s.v 2), .int .i64 (x.s.v 3), .int .i64 (x.s.v 4), .int .i64 (x.s.v 5), .int .i64 (x.s.v 6), .slice x.t.A x.t.ts.length x.t.c, .slice x.A x.ps.length x.c, .bool false] 105)
 rw [show (w.alloc (Obj.cells x.cells 43)).heap.size = w.heap.size + 1 by simp] at h1
 refine bodyPost_ret (results_cell_row (p := 2) (ty := 105) rfl _ _ (w.heap.size + 1) 105 _ (0, 0) _ rfl h1 Tryz.underlying105 rfl (by kernel_rfl)) rfl ?_
 exact ⟨rfl, below_alloc HB.out _⟩
set_option maxHeartbeats 8000000 in
set_option maxRecDepth 100000 in
theorem lock_new_bad (x : Inp) {n kk : Int} {K : Nat} (hs : ∀ w, Calls Tryz.prog 158 #[scrVals x.s] w fun e w' => e = .returned (.int .i64 n) ∧ Only (fun _ => False) w w') (hk : keysIs K x.t.ts kk) (hc : x.code n kk ≠ 0) (w : World) (hx : x.lies w) :
  Calls Tryz.prog 41 #[x.all] w fun e w' => e = .returned (.tuple #[.pointer none, .int .i64 (x.code n kk)]) ∧ Below w.heap.size w w' := by
 have hk1 := heap_alloc_new w (Obj.cells x.cells 43)
 have l43 := x.rd43 hk1
 have HB1 := Aside0.mk (below_alloc (Below.refl w.heap.size w) (Obj.cells x.cells 43))
 have HX := Aside0.mk (hx.below HB1.out)
 have hc0 : (x.code n kk != 0) = true := bne_iff_ne.mpr hc
 unfold Inp.all at l43
 unfold Inp.all
 clear hk1 hc hx
 go_enter Tryz.func41, Tryz.ntmps41
 go_wp2_with (first | (go_at_call 63; refine (stim_check x hs hk _ HX.out).mono ?_; rintro e w2 ⟨rfl, hb2⟩; have HB2 := Aside0.mk (below_then HB1.out HB1.out.size hb2); clear hb2))
 go_ret2
 exact ⟨rfl, HB2.out⟩
set_option maxHeartbeats 16000000 in
set_option maxRecDepth 100000 in
theorem lock_new_calls (x : Inp) {n kk : Int} {K : Nat} (hs : ∀ w, Calls Tryz.prog 158 #[scrVals x.s] w fun e w' => e = .returned (.int .i64 n) ∧ Only (fun _ => False) w w') (hk : keysIs K x.t.ts kk) (hc : x.code n kk = 0) (ht : x.typed) (hsc : ScrOK x.s) (h27 : x.b27 = false) (h30 : x.b30 = true) (w : World) (hx : x.lies w) :
  Calls Tryz.prog 41 #[x.all] w fun e w' => ∃ (f : Sig) (ρ : Ren) (l : Loc), e = .returned (.tuple #[.pointer (some ⟨l.blk, l.off, none⟩), .int .i64 0]) ∧ ρ 0 = some l ∧ (⟨x.cpuSig, ulaSig x.s x.t (bankF x.ps), aySig x.ay, f⟩ : MS).Good ∧ Rep ρ (machine x.cpuSig (ulaSig x.s x.t (bankF x.ps)) (aySig x.ay) f 0) w' ∧ Below w.heap.size w w' ∧ ∀ b, foot ρ (machine x.cpuSig (ulaSig x.s x.t (bankF x.ps)) (aySig x.ay) f 0) b → w.heap.size ≤ b := by
 have hF := code_zero hc
 obtain rfl := hF.n
 obtain rfl := hF.kk
 have HF := Aside0.mk hF
 have HC := Aside0.mk hc
 have HT := Aside0.mk ht
 have H27 := Aside0.mk h27
 have H30 := Aside0.mk h30
 have HV := Aside0.mk (x.cpu_fit ht hsc hF.im)
 have HS := Aside0.mk hsc
 have hk1 := heap_alloc_new w (Obj.cells x.cells 43)
 have l43 := x.rd43 hk1
 have HK1 := Aside0.mk hk1
 have HB1 := Aside0.mk (below_alloc (Below.refl w.heap.size w) (Obj.cells x.cells 43))
 have HX := Aside0.mk hx
 unfold Inp.all at l43
 unfold Inp.all
 clear hk1 hc hx hF ht h27 h30 hsc
 go_enter Tryz.func41, Tryz.ntmps41
 go_wp2_with (first
  | (go_at_call 63; refine (stim_check x hs hk _ (HX.out.below HB1.out)).mono ?_; rintro e w2 ⟨rfl, hb2⟩; rw [HC.out]; have HK2 := Aside0.mk ((hb2.block w.heap.size (blk_lt HK1.out)).trans HK1.out); have HB2 := Aside0.mk (below_then HB1.out HB1.out.size hb2); have l33 := x.rd33 HK2.out; clear hb2)
  | (go_at_call 50; refine (cpu_new_calls x hs HF.out.setup HT.out.bk H27.out H30.out HV.out _ (HX.out.below HB2.out)).mono ?_; rintro e w3 ⟨ρc, lc, rfl, hc0, hrc, hb3, hfc⟩; have HK3 := Aside0.mk ((hb3.block w.heap.size (blk_lt HK2.out)).trans HK2.out); have HB3 := Aside0.mk (below_then HB2.out HB2.out.size hb3); have HC0 := Aside0.mk hc0; have HRC := Aside0.mk hrc; have HFC := Aside0.mk hfc; have l43' := x.rd43 HK3.out; unfold Inp.all at l43'; clear hc0 hrc hb3 hfc)
  | (go_at_call 65; refine (stimula_calls x _).mono ?_; rintro e w4 ⟨rfl, hb4⟩; have HK4 := Aside0.mk ((hb4.block w.heap.size (blk_lt HK3.out)).trans HK3.out); have HB4 := Aside0.mk (below_then HB3.out HB3.out.size hb4); have HRC4 := Aside0.mk (rep_below HRC.out hb4); have HZ4 := Aside0.mk hb4.size; clear hb4)
  | (go_at_call 51; refine (ula_new_calls HT.out.s hs x.t hk x.A x.c x.ps _ (HX.out.below HB4.out).t (HX.out.below HB4.out).r (HX.out.below HB4.out).c (HX.out.below HB4.out).l HF.out.pat HT.out.bk).mono ?_; rintro e w5 ⟨ρu, lu, rfl, hu0, hbu, hru, hb5⟩; have HK5 := Aside0.mk ((hb5.block w.heap.size (blk_lt HK4.out)).trans HK4.out); have HB5 := Aside0.mk (below_then HB4.out HB4.out.size hb5); have HRC5 := Aside0.mk (rep_below HRC4.out hb5); have HZ5 := Aside0.mk hb5.size; have HU0 := Aside0.mk hu0; have HBU := Aside0.mk hbu; have HRU := Aside0.mk hru; have l36 := x.rd36 HK5.out; clear hu0 hbu hru hb5)
  | (go_at_call 52; refine (ay_new_calls HF.out.ay.1 HF.out.ay.2 _).mono ?_; rintro e w6 ⟨ρa, la, rfl, ha0, hba, hra, hb6⟩; have HK6 := Aside0.mk ((hb6.block w.heap.size (blk_lt HK5.out)).trans HK5.out); have HB6 := Aside0.mk (below_then HB5.out HB5.out.size hb6); have HRC6 := Aside0.mk (rep_below HRC5.out hb6); have HRU6 := Aside0.mk (rep_below HRU.out hb6); have HZ6 := Aside0.mk hb6.size; have HA0 := Aside0.mk ha0; have HBA := Aside0.mk hba; have HRA := Aside0.mk hra; have l41 := x.rd41 HK6.out; clear ha0 hba hra hb6)
  | (go_at_call 53; refine (fdc_new_calls x.f0 x.f1 x.fb x.k HF.out.dsk _ (HX.out.below HB6.out).k).mono ?_; rintro e w7 ⟨f, ρf, gf, rfl, hf0, hbf, hfv, hf3, hrf, hb7⟩; have HB7 := Aside0.mk (below_then HB6.out HB6.out.size hb7); have HRC7 := Aside0.mk (rep_below HRC6.out hb7); have HRU7 := Aside0.mk (rep_below HRU6.out hb7); have HRA7 := Aside0.mk (rep_below HRA.out hb7); have HZ7 := Aside0.mk hb7.size; have HF0 := Aside0.mk hf0; have HBF := Aside0.mk hbf; have HFV := Aside0.mk hfv; have HF3 := Aside0.mk hf3; have HRF := Aside0.mk hrf; clear hf0 hbf hfv hf3 hrf hb7))
 go_ret2
 have hb8 := below_alloc (Below.refl w7.heap.size w7) (Obj.cells #[.pointer (some ⟨lc.blk, lc.off, none⟩), .pointer (some ⟨lu.blk, lu.off, none⟩), .pointer (some ⟨la.blk, la.off, none⟩), .pointer (some ⟨gf, 0, none⟩), .int .i64 0] 165)
 have hh := heap_alloc_new w7 (Obj.cells #[.pointer (some ⟨lc.blk, lc.off, none⟩), .pointer (some ⟨lu.blk, lu.off, none⟩), .pointer (some ⟨la.blk, la.off, none⟩), .pointer (some ⟨gf, 0, none⟩), .int .i64 0] 165)
 have q1 : ∀ k, foot ρc (instH x.cpuSig cpuH) k → k < w3.heap.size := fun k hk => HRC.out.lt hk
 have q2 : lu.blk < w5.heap.size := HRU.out.lt ⟨0, _, lu, one0 _ 2 _, HU0.out, rfl⟩
 have q3 : la.blk < w6.heap.size := HRA.out.lt ⟨0, _, la, one0 _ 1 _, HA0.out, rfl⟩
 have q4 : gf < w7.heap.size := HRF.out.lt ⟨0, _, ⟨gf, 0, 0⟩, one0 _ 2 _, HF0.out, rfl⟩
 have z4 := HZ4.out
 have z5 := HZ5.out
 have z6 := HZ6.out
 have z7 := HZ7.out
 have b1 := HBU.out
 have b2 := HBA.out
 have b3 := HBF.out
 have hm := mach_rep (B1 := w3.heap.size) (B2 := w5.heap.size) (B3 := w6.heap.size) (rep_below HRC7.out hb8) (rep_below HRU7.out hb8) (rep_below HRA7.out hb8) (rep_below HRF.out hb8) HC0.out HU0.out HA0.out HF0.out q1 (by omega) q2 (by omega) q3 b3 q4 (by omega) z6 z7 hh
 exact ⟨f, _, ⟨w7.heap.size, 0, 0⟩, rfl, rfl, x.good HT.out HS.out HF.out.im HF.out.ay HFV.out HF3.out, hm, below_alloc HB7.out _, mach_foot HU0.out HA0.out HF0.out (fun k hk => Nat.le_trans HB2.out.size (HFC.out k hk)) (Nat.le_trans HB4.out.size b1) (Nat.le_trans HB5.out.size b2) (Nat.le_trans HB6.out.size b3) HB7.out.size⟩
end
end Go.Sim
end
section
namespace Go.Sim
attribute [local instance] noRO
open Go.Proofs Go.RowKit Go.Proofs.YtdppeaciahdekaaGreatW.PrintWords Go.Proofs.YtdppeaciahdekaaGreatW.PrintLast Go.Proofs.YtdppeaciahdekaaGreatW.PrintMore
open Go.Proofs.YtdppeaciahdekaaGreat.PLockParts
theorem evs_lower {w : World} {B B' : Nat} {v : Value} {xs : List S160} {ok : Nat → Prop} (h : Kd.R k160 160 w B ok v xs) (hb : B' ≤ B) : Kd.R k160 160 w B' ok v xs := by
 obtain ⟨h1, inner, ho, hr⟩ := h
 refine ⟨h1, inner, ⟨ho.1, ?_⟩, hr⟩
 rcases ho.2 with h | ⟨g, cap, cur, e1, hg, r⟩
 ·exact .inl h
 ·exact .inr ⟨g, cap, cur, e1, Nat.le_trans hb hg, r⟩
theorem c39 (x : Inp) : x.cells[39]? = some (.int .i64 x.tt) := rfl
section
attribute [-go_sem] Go.loadVar
attribute [local go_sem] ld43_eq lv2
set_option maxHeartbeats 8000000 in
set_option maxRecDepth 100000 in
theorem history_bad (x : Inp) {n kk : Int} {K : Nat} (hs : ∀ w, Calls Tryz.prog 158 #[scrVals x.s] w fun e w' => e = .returned (.int .i64 n) ∧ Only (fun _ => False) w w') (hk : keysIs K x.t.ts kk) (hc : x.code n kk ≠ 0) (w : World) (hx : x.lies w) :
  Calls Tryz.prog 36 #[x.all] w fun e w' => e = .returned (.tuple #[.slice none 0 0, .int .i64 (x.code n kk)]) ∧ Below w.heap.size w w' := by
 have hk1 := heap_alloc_new w (Obj.cells x.cells 43)
 have l43 := x.rd43 hk1
 have HB1 := Aside0.mk (below_alloc (Below.refl w.heap.size w) (Obj.cells x.cells 43))
 have HX := Aside0.mk (hx.below HB1.out)
 have hc0 : (x.code n kk != 0) = true := bne_iff_ne.mpr hc
 have HC := Aside0.mk hc
 unfold Inp.all at l43
 unfold Inp.all
 clear hk1 hc hx
 go_enter Tryz.func36, Tryz.ntmps36
 go_wp2_with (first | (go_at_call 41; refine (lock_new_bad x hs hk HC.out _ HX.out).mono ?_; rintro e w2 ⟨rfl, hb2⟩; have HB2 := Aside0.mk (below_then HB1.out HB1.out.size hb2); clear hb2))
 go_ret2
 exact ⟨rfl, HB2.out⟩
set_option maxHeartbeats 8000000 in
set_option maxRecDepth 100000 in
theorem history_calls (x : Inp) {n kk : Int} {K : Nat} (hs : ∀ w, Calls Tryz.prog 158 #[scrVals x.s] w fun e w' => e = .returned (.int .i64 n) ∧ Only (fun _ => False) w w') (hk : keysIs K x.t.ts kk) (hc : x.code n kk = 0) (htt : x.tt ≤ 3000) (ht : x.typed) (hsc : ScrOK x.s) (h27 : x.b27 = false) (h30 : x.b30 = true) (w : World) (hx : x.lies w) :
  Calls Tryz.prog 36 #[x.all] w fun e w' => ∃ (f : Sig) (v : Value), e = .returned (.tuple #[v, .int .i64 0]) ∧ (⟨x.cpuSig, ulaSig x.s x.t (bankF x.ps), aySig x.ay, f⟩ : MS).Good ∧ Kd.R k160 160 w' w.heap.size (fun _ => True) v ((lockHist x.tt.toNat ⟨x.cpuSig, ulaSig x.s x.t (bankF x.ps), aySig x.ay, f⟩).map EvN.s) ∧ Below w.heap.size w w' := by
 have hk1 := heap_alloc_new w (Obj.cells x.cells 43)
 have l43 := x.rd43 hk1
 have HK1 := Aside0.mk hk1
 have HB1 := Aside0.mk (below_alloc (Below.refl w.heap.size w) (Obj.cells x.cells 43))
 have HX := Aside0.mk (hx.below HB1.out)
 have HC := Aside0.mk hc
 have HTT := Aside0.mk htt
 have HF := Aside0.mk (code_zero hc)
 unfold Inp.all at l43
 unfold Inp.all
 clear hk1 hc hx htt
 go_enter Tryz.func36, Tryz.ntmps36
 go_wp2_with (first
  | (go_at_call 41; refine (lock_new_calls x hs hk HC.out ht hsc h27 h30 _ HX.out).mono ?_; rintro e w2 ⟨f, ρ, l, rfl, h0, hg, hr, hb2, hft⟩; have HK2 := Aside0.mk ((hb2.block w.heap.size (blk_lt HK1.out)).trans HK1.out); have HB2 := Aside0.mk (below_then HB1.out HB1.out.size hb2); have H0 := Aside0.mk h0; have HG := Aside0.mk hg; have HR := Aside0.mk hr; have HFT := Aside0.mk (fun b hb => Nat.le_trans HB1.out.size (hft b hb)); have c39 : w2.cell? ⟨w.heap.size, 39, none⟩ = some (.int .i64 x.tt) := (blk_cell HK2.out 39).trans rfl; clear h0 hg hr hb2 hft)
  | (go_at_call 42; refine (lock_run_calls (x.tt.toNat) HG.out x.tt (by show x.tt - 0 ≤ _; omega) HTT.out ρ _ l H0.out HR.out).mono ?_; rintro e w3 ⟨v, rfl, hv, ho⟩; have HV := Aside0.mk hv; have HO := Aside0.mk ho; clear hv ho))
 go_ret2
 refine ⟨f, v, rfl, HG.out, evs_lower (B := w2.heap.size) ?_ HB2.out.size, HB2.out.trans (HO.out.below HB2.out.size HFT.out)⟩
 have h := HV.out
 rwa [show x.tt - (MS.mk x.cpuSig (ulaSig x.s x.t (bankF x.ps)) (aySig x.ay) f).u.v 7 = x.tt from Int.sub_zero _] at h
end
end Go.Sim
end
