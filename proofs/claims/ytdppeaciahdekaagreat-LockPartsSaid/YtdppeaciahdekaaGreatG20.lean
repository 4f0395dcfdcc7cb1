/- A part of the proof that LockParts returns true for every input. No condition. -/
import Derived.Test.YtdppeaciahdekaaGreatG13
import Derived.Test.YtdppeaciahdekaaGreatG09
import Derived.Test.YtdppeaciahdekaaGreatG12
import Derived.Test.YtdppeaciahdekaaGreatG15
import Derived.Test.YtdppeaciahdekaaGreatG16
import Derived.Test.YtdppeaciahdekaaGreatG17
import Derived.Test.YtdppeaciahdekaaGreatG18
import Derived.Test.YtdppeaciahdekaaGreatG19
import Derived.Test.YtdppeaciahdekaaGreatG06
import Derived.Test.YtdppeaciahdekaaGreatG14
set_option linter.all false
section
set_option maxRecDepth 1000000
namespace Go.Sim
attribute [local instance] noRO
theorem acall0_ok : CallOK Go.Proofs.Tryz.prog LP.E acall0 :=
 acall_sound Go.Proofs.Tryz.checked.mixed LP.envOK LP.codesOK (fun _ _ _ _ h => by cases h) 100
theorem add1 {x : Int} (h : 0 ≤ x) (h' : x < bigT) : binV .add .i64 x 1 = x + 1 := by
 simp only [bigT] at h'
 show IntKind.wrap .i64 (x + 1) = x + 1
 have h1 : IntKind.min .i64 = -9223372036854775808 := by decide
 have h2 : IntKind.max .i64 = 9223372036854775807 := by decide
 exact wrap_id .i64 (by omega) (by omega)
theorem ulaH_get (σ : Sig) (i : Nat) : (instH σ ulaH).get i = if i = 0 then some (.cells (instR σ (ulaP (u8v 9) (i64v 7) (i64v 8))) 0 true) else none := by
 show (ulaH.tree.mapv (instB σ)).get i = _
 rw [Trie.get_map]
 show (((Trie.leaf : Trie SBlk).set 0 _).get i).map _ = _
 rw [Trie.get_set]
 by_cases h : i = 0
 ·subst h; rfl
 ·rw [if_neg (by omega), if_neg h, Trie.get_leaf]; rfl
def ulaS (σ : Sig) (fl : Int) (e : Tell) : Sig := σ.put [(7, σ.v 7 + 1), (8, σ.v 8 + e.n), (9, fl)]
structure UlaRun (σ : Sig) (fl : Int) (e : Tell) : Prop where
 ok : e.ok
 fit : ulaV.fit (ulaS σ fl e)
 hold : scrF.hold (ulaS σ fl e)
 run : ∃ v H', acall0 113 [.ptr (some (0, 0))] (instH σ ulaH) = some (.ret v H') ∧ H'.get 0 = (instH (ulaS σ fl e) ulaH).get 0 ∧ EvA 18 v H' (σ.v 7) 2 (σ.v 8) e ∧ H'.next ≤ 1000
theorem ula_run {σ : Sig} (hV : ulaV.fit σ) (hF : scrF.hold σ) (h7 : σ.v 7 < bigT) (h8 : σ.v 8 < bigT) : ∃ fl e, UlaRun σ fl e := by
 obtain ⟨F', r, hF', hr, hc⟩ := stree_sound hV ula_tree hF
 have hrun := scall0_ok hV hF' _ _ _ _ hr
 unfold ulaChk at hc
 split at hc
 ·rename_i v H
  split at hc
  ·rename_i r hb
   split at hc
   ·rename_i fl ck sq e1 e2 e3
    simp only [Bool.and_eq_true] at hc
    obtain ⟨⟨⟨⟨c1, cn⟩, c2⟩, c3⟩, c4⟩ := hc
    have c1 := sreq_sound c1
    have c3 := sveq_sound c3
    subst c1
    subst c3
    obtain ⟨fe, hfe, hf0, hf1⟩ := inRg_sound hV hF' c2
    obtain ⟨e, hok, he, hsq⟩ := evChk_sound c4 hV hF'
    have hv7 : (0 : Int) ≤ σ.v 7 := (hV.1 7).1
    have hv8 : (0 : Int) ≤ σ.v 8 := (hV.1 8).1
    have hn : e.n = 0 ∨ e.n = 1 := by cases e <;> simp [Tell.n]
    have hsq' : sq.inst σ = .int .i64 (σ.v 8 + e.n) := by
     subst hsq
     cases e with
     | none => simp [SVal.inst, Sx.ev, Tell.n]
     | some x => simp only [SVal.inst, Sx.ev, litS, i64b, Tell.n]; rw [add1 hv8 h8]
    refine ⟨fe.ev σ, e, hok, ?_, hold_put hF (by rfl), _, _, hrun, ?_, he, Nat.le_of_ble_eq_true cn⟩
    ·refine fit_put hV fun p hp => ?_
     simp only [List.mem_cons, List.not_mem_nil, or_false] at hp
     simp only [bigT] at h7 h8
     rcases hp with rfl | rfl | rfl
     ·exact ⟨by show (0 : Int) ≤ σ.v 7 + 1; omega, by show σ.v 7 + 1 ≤ (16777216 : Int); omega⟩
     ·exact ⟨by show (0 : Int) ≤ σ.v 8 + e.n; omega, by show σ.v 8 + e.n ≤ (16777216 : Int); omega⟩
     ·exact ⟨hf0, hf1⟩
    ·rw [hget_inst hb, hget_inst (H := ulaH) (i := 0) (b := .cells (ulaP (u8v 9) (i64v 7) (i64v 8)) 0 true) rfl]
     simp only [instB, ulaP, instR, instL, scrL, List.cons_append, List.nil_append, num_inst hfe σ, hsq', SVal.inst, i64v, u8v, Sx.ev, Ax.ev, i64b, litS, add1 hv7 h7]
     rfl
   ·cases hc
  ·cases hc
 ·cases hc
theorem UlaRun.tick {σ : Sig} {fl : Int} {e : Tell} (h : UlaRun σ fl e) (ρ : Ren) (w : World) (l : Loc) (hl : ρ 0 = some l) (hw : Rep ρ (instH σ ulaH) w) :
  Calls Go.Proofs.Tryz.prog 113 #[.pointer (some ⟨l.blk, l.off, none⟩)] w fun x w' => ∃ v, x = .returned v ∧ EvM v w' w.heap.size (σ.v 7) 2 (σ.v 8) e ∧ Only (foot ρ (instH σ ulaH)) w w' ∧
   ∃ ρ', ρ.le ρ' ∧ Rep ρ' (instH (ulaS σ fl e) ulaH) w' := by
 obtain ⟨v, H, hrun, hb0, he, _⟩ := h.run
 have hz : (instH (ulaS σ fl e) ulaH).get 0 = some (.cells (instR (ulaS σ fl e) (ulaP (u8v 9) (i64v 7) (i64v 8))) 0 true) := by rw [ulaH_get, if_pos rfl]
 refine (rep_call acall0_ok (by rfl) hrun (LR.one (.ptr hl)) hw).mono fun x w' hp => ?_
 obtain ⟨ρ', v', hx, hv, hr', hle, hon, hfr⟩ := hp
 refine ⟨v', hx, he.mem hr' hv _ ?_, hon, cutρ ρ' 2, ?_, ?_⟩
 ·intro j g x l' hg hl'
  rcases hfr l'.blk ⟨j, _, l', hg, hl', rfl⟩ with ⟨i, bi, li, f1, f2, f3⟩ | hf
  ·have hi0 : i = 0 := by
    rw [ulaH_get] at f1
    split at f1
    ·assumption
    ·cases f1
   subst hi0
   rw [hz] at hb0
   have := hr'.inj j 0 _ _ l' li hg hb0 rfl rfl hl' (hle _ _ f2) f3.symm
   subst this
   rw [hb0] at hg
   simp [instR, ulaP] at hg
  ·exact hf
 ·exact cutρ_ge hle hw.dom
 ·refine WR.sub (H2 := instH (ulaS σ fl e) ulaH) hr' fun i b hi => ?_
  have hi' := hi
  rw [ulaH_get] at hi
  split at hi
  ·rename_i h0
   subst h0
   refine ⟨by rw [hb0]; exact hi', show 0 < 2 by omega, ?_⟩
   simp only [Option.some.injEq] at hi
   subst hi
   exact scSR_sound h.fit _ (by rfl)
  ·cases hi
end Go.Sim
end
section
set_option maxRecDepth 1000000
namespace Go.Sim
attribute [local instance] noRO
open Go.Proofs.Tryz
theorem pure_call {f : FuncId} (hf : LP.E.isF f = true) {l : List AVal} {v : AVal} {u : Value} {H' : AHeap} (hrun : acall0 f l ⟨0, .leaf⟩ = some (.ret v H')) (hv : v.val3 = some u) {l' : Array Value} (hl : ∀ ρ, LR ρ l l') (w : World) :
  Calls prog f l' w fun x w' => x = .returned u ∧ Only (fun _ => False) w w' := by
 have hw : Rep (fun _ => none) ⟨0, .leaf⟩ w := by
  refine ⟨fun i b hb => ?_, fun i j bi bj li lj hi => ?_, fun b (hb : False) => hb.elim, fun i l h => (by cases h), fun b (hb : False) => hb.elim, fun b (hb : False) => hb.elim⟩
  ·simp only [AHeap.get, Trie.get_leaf] at hb; cases hb
  ·simp only [AHeap.get, Trie.get_leaf] at hi; cases hi
 refine (rep_call acall0_ok hf hrun (hl _) hw).mono fun x w' hp => ?_
 obtain ⟨ρ', v', hx, hv', hr', hle, hon, hfr⟩ := hp
 have := val3_sound hv hv'
 subst this
 refine ⟨hx, ⟨fun b hb _ => hon.keep b hb ?_, hon.grew⟩⟩
 rintro ⟨i, bi, li, h1, _⟩
 simp only [AHeap.get, Trie.get_leaf] at h1; cases h1
theorem scrIn_sound {F : Facts} {σ : Sig} (hV : V7.fit σ) (hF : F.hold σ) : ∀ {l : List (Int × Int)} {j : Nat}, scrIn F j l = true → ∀ i, i < l.length → (rgAt l i).has (σ.v (j + i))
 | [], _, _, i, hi => absurd hi (by simp)
 | p :: l, j, h, i, hi => by
  simp only [scrIn, Bool.and_eq_true] at h
  obtain ⟨e, he, h1, h2⟩ := inRg_sound hV hF h.1
  cases he
  cases i with
  | zero => exact ⟨h1, h2⟩
  | succ i =>
   have := scrIn_sound hV hF h.2 i (by simpa using hi)
   rw [show j + (i + 1) = j + 1 + i by omega]; exact this
theorem scrDec_sound {F : Facts} {σ : Sig} (hV : V7.fit σ) (hF : F.hold σ) : ∀ {l : Facts}, scrDec F l = true → l.hold σ
 | [], _, f, hf => by cases hf
 | g :: l, h, f, hf => by
  simp only [scrDec, Bool.and_eq_true] at h
  rcases List.mem_cons.1 hf with rfl | hf
  ·have h1 := h.1
   split at h1
   ·rename_i b hb
    rw [dec_sound hV hF hb]
    exact eq_of_beq h1
   ·cases h1
  ·exact scrDec_sound hV hF h.2 f hf
structure ScrOK (σ : Sig) : Prop where
 rg : ∀ i, i < 7 → (rgAt scrV i).has (σ.v i)
 hold : scrF.hold σ
def scrVals (σ : Sig) : Value := .agg #[.int .i64 (σ.v 0), .int .i64 (σ.v 1), .int .i64 (σ.v 2), .int .i64 (σ.v 3), .int .i64 (σ.v 4), .int .i64 (σ.v 5), .int .i64 (σ.v 6)]
theorem scr_LR (σ : Sig) (ρ : Ren) : LR ρ (instL σ [.agg (.lst scrL)]) #[scrVals σ] := by
 refine LR.one (.agg rfl (fun i hi => ?_) fun i a v ha hv => ?_)
 ·have hi : i < 7 := hi
  match i with
  | 0 | 1 | 2 | 3 | 4 | 5 | 6 => exact ⟨_, rfl, rfl⟩
  | n + 7 => omega
 ·match i with
  | 0 | 1 | 2 | 3 | 4 | 5 | 6 => cases ha; cases hv; exact .int _ _
  | n + 7 => cases ha
theorem scr_run {σ : Sig} (hV : V7.fit σ) : ∃ n : Int, (n = 0 → ScrOK σ) ∧ ∀ w, Calls prog 158 #[scrVals σ] w fun x w' => x = .returned (.int .i64 n) ∧ Only (fun _ => False) w w' := by
 obtain ⟨F', r, hF', hr, hc⟩ := stree_sound hV scr_tree (fun _ h => by cases h)
 have hrun := scall0_ok hV hF' _ _ _ _ hr
 unfold scrChk at hc
 split at hc
 ·rename_i n H
  refine ⟨n, fun hn => ?_, fun w => pure_call (by rfl) hrun rfl (scr_LR σ) w⟩
  subst hn
  have hc : (scrIn F' 0 scrV && scrDec F' scrF) = true := hc
  simp only [Bool.and_eq_true] at hc
  exact ⟨fun i hi => by have := scrIn_sound hV hF' hc.1 i hi; rwa [Nat.zero_add] at this, scrDec_sound hV hF' hc.2⟩
 ·cases hc
end Go.Sim
end
section
set_option maxRecDepth 1000000
namespace Go.Sim
attribute [local instance] noRO
def oneS (n : Nat) (r : SRope SVal) : SHeap := ⟨n, (Trie.leaf : Trie SBlk).set 0 (some (.cells r 0 true))⟩
theorem oneS_get (σ : Sig) (n : Nat) (r : SRope SVal) (i : Nat) : (instH σ (oneS n r)).get i = if i = 0 then some (.cells (instR σ r) 0 true) else none := by
 show ((oneS n r).tree.mapv (instB σ)).get i = _
 rw [Trie.get_map]
 show (((Trie.leaf : Trie SBlk).set 0 _).get i).map _ = _
 rw [Trie.get_set]
 by_cases h : i = 0
 ·subst h; rfl
 ·rw [if_neg (by omega), if_neg h, Trie.get_leaf]; rfl
theorem one_tick {f : FuncId} (hf : LP.E.isF f = true) {V : Vars} {σ σ' : Sig} {n : Nat} {r : SRope SVal} {H' : AHeap} (hrun : acall0 f [.ptr (some (0, 0))] (instH σ (oneS n r)) = some (.ret (.slice none 0 0) H')) (hV : V.fit σ') (hsc : scSR n V.o r = true) (hn : 0 < n)
  (hb : H'.get 0 = some (.cells (instR σ' r) 0 true)) (ρ : Ren) (w : World) (l : Loc) (hl : ρ 0 = some l) (hw : Rep ρ (instH σ (oneS n r)) w) :
   Calls Go.Proofs.Tryz.prog f #[.pointer (some ⟨l.blk, l.off, none⟩)] w fun x w' => x = .returned (.slice none 0 0) ∧ Only (foot ρ (instH σ (oneS n r))) w w' ∧ ∃ ρ', ρ.le ρ' ∧ Rep ρ' (instH σ' (oneS n r)) w' := by
 refine (rep_call acall0_ok hf hrun (LR.one (.ptr hl)) hw).mono fun x w' hp => ?_
 obtain ⟨ρ', v', hx, hv, hr', hle, hon, hfr⟩ := hp
 cases hv
 refine ⟨hx, hon, cutρ ρ' n, cutρ_ge hle hw.dom, ?_⟩
 refine WR.sub (H2 := instH σ' (oneS n r)) hr' fun i b hi => ?_
 have hi' := hi
 rw [oneS_get] at hi
 split at hi
 ·rename_i h0
  subst h0
  simp only [Option.some.injEq] at hi
  subst hi
  exact ⟨hb, hn, scSR_sound hV _ hsc⟩
 ·cases hi
def ayS (σ : Sig) (l : List (Nat × Int)) : Sig := σ.put ((1, σ.v 1 + 1) :: l)
structure AyRun (σ : Sig) (l : List (Nat × Int)) : Prop where
 fit : ayV.fit (ayS σ l)
 v1 : (ayS σ l).v 1 = σ.v 1 + 1
 run : ∃ H', acall0 115 [.ptr (some (0, 0))] (instH σ ayH) = some (.ret (.slice none 0 0) H') ∧ H'.get 0 = (instH (ayS σ l) ayH).get 0 ∧ H'.next ≤ 1000
theorem ay_run {σ : Sig} (hV : ayV.fit σ) (h1 : σ.v 1 < bigT) : ∃ l, AyRun σ l := by
 obtain ⟨F', r, hF', hr, hc⟩ := stree_sound hV ay_tree (fun _ h => by cases h)
 have hrun := scall0_ok hV hF' _ _ _ _ hr
 unfold ayChk at hc
 split at hc
 ·rename_i H
  split at hc
  ·rename_i r hb
   split at hc
   ·rename_i ck b0 b1 b2 sh pl hf e1 e2 e3 e4 e5 e6 e7
    simp only [Bool.and_eq_true] at hc
    obtain ⟨⟨⟨⟨⟨⟨⟨⟨c1, cn⟩, c2⟩, c3⟩, c4⟩, c5⟩, c6⟩, c7⟩, c8⟩ := hc
    have c1 := sreq_sound c1
    have c2 := sveq_sound c2
    subst c1
    subst c2
    obtain ⟨x0, g0, i0, j0⟩ := inRg_sound hV hF' c3
    obtain ⟨x1, g1, i1, j1⟩ := inRg_sound hV hF' c4
    obtain ⟨x2, g2, i2, j2⟩ := inRg_sound hV hF' c5
    obtain ⟨x3, g3, i3, j3⟩ := inRg_sound hV hF' c6
    obtain ⟨x4, g4, i4, j4⟩ := inRg_sound hV hF' c7
    obtain ⟨x5, g5, i5, j5⟩ := inRg_sound hV hF' c8
    have hv1 : (0 : Int) ≤ σ.v 1 := (hV.1 1).1
    have hfit : ayV.fit (ayS σ [(2, x0.ev σ), (3, x1.ev σ), (4, x2.ev σ), (5, x3.ev σ), (6, x4.ev σ), (7, x5.ev σ)]) := by
     refine fit_put hV fun p hp => ?_
     simp only [List.mem_cons, List.not_mem_nil, or_false] at hp
     simp only [bigT] at h1
     rcases hp with rfl | rfl | rfl | rfl | rfl | rfl | rfl
     ·exact ⟨by show (0 : Int) ≤ σ.v 1 + 1; omega, by show σ.v 1 + 1 ≤ (16777216 : Int); omega⟩
     ·exact ⟨i0, j0⟩
     ·exact ⟨i1, j1⟩
     ·exact ⟨i2, j2⟩
     ·exact ⟨i3, j3⟩
     ·exact ⟨i4, j4⟩
     ·exact ⟨i5, j5⟩
    refine ⟨_, hfit, rfl, _, hrun, ?_, Nat.le_of_ble_eq_true cn⟩
    rw [hget_inst hb, hget_inst (H := ayH) (i := 0) rfl]
    simp only [instB, ayP, instR, instL, num_inst g0 σ, num_inst g1 σ, num_inst g2 σ, num_inst g3 σ, num_inst g4 σ, num_inst g5 σ, SVal.inst, i64v, z64, z8, Sx.ev, i64b, litS, add1 hv1 h1]
    rfl
   ·cases hc
  ·cases hc
 ·cases hc
theorem AyRun.tick {σ : Sig} {l : List (Nat × Int)} (h : AyRun σ l) (ρ : Ren) (w : World) (a : Loc) (ha : ρ 0 = some a) (hw : Rep ρ (instH σ ayH) w) :
  Calls Go.Proofs.Tryz.prog 115 #[.pointer (some ⟨a.blk, a.off, none⟩)] w fun x w' => x = .returned (.slice none 0 0) ∧ Only (foot ρ (instH σ ayH)) w w' ∧ ∃ ρ', ρ.le ρ' ∧ Rep ρ' (instH (ayS σ l) ayH) w' := by
 obtain ⟨H', hrun, hb, _⟩ := h.run
 exact one_tick (n := 1) (by rfl) hrun h.fit (by rfl) (by omega) hb ρ w a ha hw
def fdcS (σ : Sig) : Sig := σ.put [(3, σ.v 3 + 1)]
structure FdcRun (σ : Sig) : Prop where
 fit : fdcV.fit (fdcS σ)
 run : ∃ H', acall0 117 [.ptr (some (0, 0))] (instH σ fdcH) = some (.ret (.slice none 0 0) H') ∧ H'.get 0 = (instH (fdcS σ) fdcH).get 0 ∧ H'.next ≤ 1000
theorem fdc_run {σ : Sig} (hV : fdcV.fit σ) (h3 : σ.v 3 < bigT) : FdcRun σ := by
 obtain ⟨F', r, hF', hr, hc⟩ := stree_sound hV fdc_tree (fun _ h => by cases h)
 have hrun := scall0_ok hV hF' _ _ _ _ hr
 unfold fdcChk at hc
 split at hc
 ·rename_i H
  split at hc
  ·rename_i r hb
   split at hc
   ·rename_i ck e1
    simp only [Bool.and_eq_true] at hc
    obtain ⟨⟨c1, cn⟩, c2⟩ := hc
    have c1 := sreq_sound c1
    have c2 := sveq_sound c2
    subst c1
    subst c2
    have hv3 : (0 : Int) ≤ σ.v 3 := (hV.1 3).1
    have hfit : fdcV.fit (fdcS σ) := by
     refine fit_put hV fun p hp => ?_
     simp only [List.mem_cons, List.not_mem_nil, or_false] at hp
     simp only [bigT] at h3
     subst hp
     exact ⟨by show (0 : Int) ≤ σ.v 3 + 1; omega, by show σ.v 3 + 1 ≤ (16777216 : Int); omega⟩
    refine ⟨hfit, _, hrun, ?_, Nat.le_of_ble_eq_true cn⟩
    rw [hget_inst hb, hget_inst (H := fdcH) (i := 0) rfl]
    simp only [instB, fdcP, instR, instL, SVal.inst, i64v, z64, z8, Sx.ev, i64b, litS, add1 hv3 h3]
    rfl
   ·cases hc
  ·cases hc
 ·cases hc
theorem FdcRun.tick {σ : Sig} (h : FdcRun σ) (ρ : Ren) (w : World) (a : Loc) (ha : ρ 0 = some a) (hw : Rep ρ (instH σ fdcH) w) :
  Calls Go.Proofs.Tryz.prog 117 #[.pointer (some ⟨a.blk, a.off, none⟩)] w fun x w' => x = .returned (.slice none 0 0) ∧ Only (foot ρ (instH σ fdcH)) w w' ∧ ∃ ρ', ρ.le ρ' ∧ Rep ρ' (instH (fdcS σ) fdcH) w' := by
 obtain ⟨H', hrun, hb, _⟩ := h.run
 exact one_tick (n := 2) (by rfl) hrun h.fit (by rfl) (by omega) hb ρ w a ha hw
end Go.Sim
end
section
set_option maxRecDepth 1000000
namespace Go.Sim
attribute [local instance] noRO
theorem layS_get (l : List (SRope SVal)) : ∀ (i : Nat) (t : Trie SBlk) (j : Nat), (layS i l t).get j = if i ≤ j ∧ j < i + l.length then (l[j - i]?).map (fun r => .cells r 0 true) else t.get j := by
 induction l with
 | nil => intro i t j; rw [if_neg (by simp)]; rfl
 | cons r l ih =>
  intro i t j
  show (layS (i + 1) l _).get j = _
  rw [ih]
  by_cases h : i = j
  ·subst h
   rw [if_neg (by omega), if_pos (by simp), Trie.get_set_same]
   simp
  ·by_cases h2 : i + 1 ≤ j ∧ j < i + 1 + l.length
   ·rw [if_pos h2, if_pos (by simp; omega)]
    obtain ⟨k, rfl⟩ : ∃ k, j = i + 1 + k := ⟨j - (i + 1), by omega⟩
    rw [show i + 1 + k - (i + 1) = k by omega, show i + 1 + k - i = k + 1 by omega]
    simp
   ·rw [if_neg h2, if_neg (by simp; omega), Trie.get_set_ne _ _ _ _ h]
theorem lieS_sound {H : SHeap} : ∀ {l : List (SRope SVal)} {i : Nat}, lieS H i l = true → ∀ j r, l[j]? = some r → H.get (i + j) = some (.cells r 0 true)
 | [], _, _, j, r, h => by simp at h
 | r0 :: l, i, h, j, r, hj => by
  simp only [lieS, Bool.and_eq_true] at h
  obtain ⟨h1, h2⟩ := h
  cases j with
  | zero =>
   simp only [List.getElem?_cons_zero, Option.some.injEq] at hj
   subst hj
   split at h1
   ·rename_i r' hr'
    rw [Nat.add_zero, hr', sreq_sound h1]
   ·cases h1
  | succ j =>
   have := lieS_sound h2 j r (by simpa using hj)
   rw [show i + (j + 1) = i + 1 + j by omega]; exact this
theorem notBelow_sound {V : Vars} {F : Facts} {j : Nat} {e : Sx} {σ : Sig} (hV : V.fit σ) (hF : F.hold σ) (h0 : 0 ≤ σ.v j) (hb : σ.v j ≤ bigT) (h : notBelow V F j e = true) : σ.v j ≤ e.ev σ ∧ e.ev σ ≤ σ.v j + 16 := by
 unfold notBelow at h
 split at h
 ·have := Nat.eq_of_beq_eq_true h
  subst this
  simp only [Sx.ev]; omega
 ·rename_i i e'
  simp only [Bool.and_eq_true] at h
  have := Nat.eq_of_beq_eq_true h.1
  subst this
  obtain ⟨e2, he, h1, h2⟩ := inRg_sound hV hF h.2
  cases he
  simp only [bigT] at hb
  have : binV .add .i64 (σ.v i) (e'.ev σ) = σ.v i + e'.ev σ := by
   show IntKind.wrap .i64 (σ.v i + e'.ev σ) = _
   have h1 : IntKind.min .i64 = -9223372036854775808 := by decide
   have h2 : IntKind.max .i64 = 9223372036854775807 := by decide
   exact wrap_id .i64 (by omega) (by omega)
  simp only [Sx.ev, this]; omega
 ·cases h
end Go.Sim
namespace Go.Sim
attribute [local instance] noRO
theorem cpuB_get (σ : Sig) (r late ck sq : SVal) (i : Nat) : (instH σ (cpuB r late ck sq)).get i = ((cpuP r late ck sq :: cpuR)[i]?).map (fun r => .cells (instR σ r) 0 true) := by
 show ((cpuB r late ck sq).tree.mapv (instB σ)).get i = _
 rw [Trie.get_map]
 show ((layS 0 _ .leaf).get i).map _ = _
 rw [layS_get, Trie.get_leaf]
 split
 ·simp only [Nat.sub_zero, Option.map_map]; rfl
 ·rename_i h
  have : ¬ i < (cpuP r late ck sq :: cpuR).length := by omega
  rw [List.getElem?_eq_none (by omega)]; rfl
def cpuS (σ : Sig) (rr t : Int) : Sig := σ.put [(17, rr), (29, 0), (30, t + 4), (31, σ.v 31 + 1)]
theorem quarter {n : Int} (h0 : 0 ≤ n) (h1 : n ≤ 65535) : n / 16384 = 0 ∨ n / 16384 = 1 ∨ n / 16384 = 2 ∨ n / 16384 = 3 := by omega
theorem cpu_any {σ : Sig} (hV : cpuV.fit σ) (hF : scrF.hold σ) : ∃ F' r, Facts.hold σ F' ∧ cpuRun F' = .ok r ∧ cpuChk F' r = true := by
 have hpc := hV.1 21
 have h0 : (0 : Int) ≤ σ.v 21 := hpc.1
 have h1 : σ.v 21 ≤ (65535 : Int) := hpc.2
 have e1 : (Sx.bin .shr .u16 (.v 21) (.lit 14)).ev σ = σ.v 21 / 16384 := by
  show (σ.v 21).fdiv _ = _
  exact (Int.fdiv_eq_ediv_of_nonneg (σ.v 21) (b := 16384) (by omega))
 have e2 : ∃ n : Int, (Sx.bin .shr .u16 (.bin .add .u16 (.v 21) (.lit 1)) (.lit 14)).ev σ = n / 16384 ∧ 0 ≤ n ∧ n ≤ 65535 := by
  refine ⟨IntKind.wrap .u16 (σ.v 21 + 1), ?_, ?_, ?_⟩
  ·show (IntKind.wrap .u16 (σ.v 21 + 1)).fdiv _ = _
   exact (Int.fdiv_eq_ediv_of_nonneg _ (b := 16384) (by omega))
  ·exact (wrap_rg .u16 _).1
  ·exact (wrap_rg .u16 _).2
 obtain ⟨n, e2, hn0, hn1⟩ := e2
 have key : ∀ a b : Int, σ.v 21 / 16384 = a → n / 16384 = b → Facts.hold σ (cpuF a b) := by
  intro a b ha hb f hf
  simp only [cpuF, List.mem_cons] at hf
  rcases hf with rfl | rfl | hf
  ·simp only [pcQ, eqF, Atom.holds, Bool.false_eq_true, if_false]
   exact decide_eq_true (by rw [e1]; exact ha)
  ·simp only [pkQ, eqF, Atom.holds, Bool.false_eq_true, if_false]
   exact decide_eq_true (by rw [e2]; exact hb)
  ·exact hF f hf
 rcases quarter h0 h1 with hq | hq | hq | hq <;> rcases quarter hn0 hn1 with hp | hp | hp | hp
 ·exact stree_sound hV cpu_tree00 (key _ _ hq hp)
 ·exact stree_sound hV cpu_tree01 (key _ _ hq hp)
 ·exact stree_sound hV cpu_tree02 (key _ _ hq hp)
 ·exact stree_sound hV cpu_tree03 (key _ _ hq hp)
 ·exact stree_sound hV cpu_tree10 (key _ _ hq hp)
 ·exact stree_sound hV cpu_tree11 (key _ _ hq hp)
 ·exact stree_sound hV cpu_tree12 (key _ _ hq hp)
 ·exact stree_sound hV cpu_tree13 (key _ _ hq hp)
 ·exact stree_sound hV cpu_tree20 (key _ _ hq hp)
 ·exact stree_sound hV cpu_tree21 (key _ _ hq hp)
 ·exact stree_sound hV cpu_tree22 (key _ _ hq hp)
 ·exact stree_sound hV cpu_tree23 (key _ _ hq hp)
 ·exact stree_sound hV cpu_tree30 (key _ _ hq hp)
 ·exact stree_sound hV cpu_tree31 (key _ _ hq hp)
 ·exact stree_sound hV cpu_tree32 (key _ _ hq hp)
 ·exact stree_sound hV cpu_tree33 (key _ _ hq hp)
end Go.Sim
namespace Go.Sim
attribute [local instance] noRO
theorem cpu_sub {σ' : Sig} (hV : cpuV.fit σ') {r late ck sq : SVal} (hsc : scSR 14 0 (cpuP r late ck sq) = true) {ρ' : Ren} {H' : AHeap} {w' : World} (hr : Rep ρ' H' w') (hl : ∀ i b, (instH σ' (cpuB r late ck sq)).get i = some b → H'.get i = some b) : Rep (cutρ ρ' 14) (instH σ' (cpuB r late ck sq)) w' := by
 refine WR.sub (H2 := instH σ' (cpuB r late ck sq)) hr fun i b hi => ?_
 refine ⟨hl i b hi, ?_, ?_⟩
 ·rw [cpuB_get] at hi
  obtain ⟨x, hx, _⟩ := Option.map_eq_some_iff.1 hi
  have := (List.getElem?_eq_some_iff.1 hx).1
  exact this
 ·rw [cpuB_get] at hi
  obtain ⟨x, hx, rfl⟩ := Option.map_eq_some_iff.1 hi
  have hx' : scSR 14 cpuV.o x = true := by
   have h1 : x ∈ (cpuP r late ck sq :: cpuR) := List.mem_of_getElem? hx
   simp only [List.mem_cons] at h1
   rcases h1 with rfl | h1
   ·exact hsc
   ·have : cpuR.all (scSR 14 0) = true := by rfl
    exact List.all_eq_true.1 this x h1
  exact scSR_sound hV x hx'
theorem cpuH_get (σ : Sig) (i : Nat) : (instH σ cpuH).get i = ((cpuP (u8v 17) (.sb (.v 29)) (i64v 30) (i64v 31) :: cpuR)[i]?).map (fun r => .cells (instR σ r) 0 true) := cpuB_get σ _ _ _ _ i
structure CpuRun (σ : Sig) (t A B rr : Int) : Prop where
 lo : σ.v 30 ≤ t
 hi : t ≤ σ.v 30 + 16
 a : 0 ≤ A ∧ A ≤ 1048576
 b : 0 ≤ B ∧ B ≤ 255
 fit : cpuV.fit (cpuS σ rr t)
 hold : scrF.hold (cpuS σ rr t)
 next : ∃ H', acall0 97 [.ptr (some (0, 0))] (instH σ cpuH) = some (.ret (.tup [.agg (.lst [.int .i64 1, .int .u16 (σ.v 21), .int .u8 0, .int .i64 4]), .int .i64 t, .bool true]) H') ∧ (∀ i b, (instH σ cpuH).get i = some b → H'.get i = some b) ∧ H'.next ≤ 1000
 does : ∀ n : Int, n = 0 ∨ n = 255 → ∃ H', acall0 111 [.ptr (some (0, 0)), .int .u8 n] (instH σ cpuH) = some (.ret (.tup [.agg (.lst [.int .i64 t, .int .i64 1, .int .i64 (σ.v 31), .int .i64 1, .int .i64 A, .int .i64 B, .bool true, .int .i64 0, .int .i64 0, .int .u8 0, .bool false]), .int .i64 0]) H') ∧
  (∀ i b, (instH (cpuS σ rr t) cpuH).get i = some b → H'.get i = some b) ∧ H'.next ≤ 1000
theorem cpu_run {σ : Sig} (hV : cpuV.fit σ) (hF : scrF.hold σ) (h30 : σ.v 30 + 32 ≤ bigT) (h31 : σ.v 31 < bigT) : ∃ t A B rr : Int, CpuRun σ t A B rr := by
 obtain ⟨F', r, hF', hr, hc⟩ := cpu_any hV hF
 unfold cpuRun at hr
 obtain ⟨ra, ha, hr⟩ := SR.bind_ok hr
 obtain ⟨rb, hb, hr⟩ := SR.bind_ok hr
 obtain ⟨rc, hcc, hr⟩ := SR.bind_ok hr
 simp only [SR.ok.injEq] at hr
 subst hr
 have hra := scall0_ok hV hF' _ _ _ _ ha
 have hrb := scall0_ok hV hF' _ _ _ _ hb
 have hrc := scall0_ok hV hF' _ _ _ _ hcc
 unfold cpuChk at hc
 split at hc
 ·rename_i q at1 H1 d e2 H2 d3 e3 H3 heq
  simp only [Prod.mk.injEq] at heq
  obtain ⟨rfl, rfl, rfl⟩ := heq
  simp only [Bool.and_eq_true] at hc
  obtain ⟨⟨⟨⟨⟨⟨c1, c2⟩, cn1⟩, cn2⟩, c3⟩, ⟨⟨⟨⟨m1, m2⟩, m3⟩, m4⟩, m5⟩⟩, hc⟩ := hc
  have c1 := sreq_sound c1
  have c3 := sveq_sound c3
  have m1 := sreq_sound m1
  have m2 := sveq_sound m2
  subst c1
  subst c3
  subst m1
  subst m2
  split at hc
  ·rename_i t a b r0 g1 g2 g3 g4
   obtain ⟨r3, g5, m5⟩ : ∃ r3, H3.get 0 = some (.cells r3 0 true) ∧ sreq r3 r0 = true := by
    rw [g4] at m5
    split at m5
    ·rename_i r r3 e1 e2
     cases e1
     exact ⟨r3, e2, m5⟩
    ·cases m5
   have m5 := sreq_sound m5
   subst m5
   simp only [Bool.and_eq_true] at hc
   obtain ⟨⟨⟨⟨⟨d1, d2⟩, d3⟩, d4⟩, hc⟩, d5⟩ := hc
   have d2 := sreq_sound d2
   subst d2
   obtain ⟨A, hA, A0, A1⟩ := inRg_sound hV hF' d3
   obtain ⟨B, hB, B0, B1⟩ := inRg_sound hV hF' d4
   split at hc
   ·rename_i rr late ck f1 f2 f3
    simp only [Bool.and_eq_true] at hc
    obtain ⟨⟨⟨k1, k2⟩, k3⟩, k4⟩ := hc
    have k1 := sreq_sound k1
    have k2 := sveq_sound k2
    have k4 := sveq_sound k4
    subst k1
    subst k2
    subst k4
    obtain ⟨rx, hrx, r0', r1'⟩ := inRg_sound hV hF' k3
    have hv30 : (0 : Int) ≤ σ.v 30 := (hV.1 30).1
    have hv31 : (0 : Int) ≤ σ.v 31 := (hV.1 31).1
    obtain ⟨t0, t1⟩ := notBelow_sound hV hF' hv30 (by omega) d1
    simp only [bigT] at h30 h31
    have hend : binV .add .i64 (t.ev σ) 4 = t.ev σ + 4 := by
     show IntKind.wrap .i64 (t.ev σ + 4) = _
     have h1 : IntKind.min .i64 = -9223372036854775808 := by decide
     have h2 : IntKind.max .i64 = 9223372036854775807 := by decide
     exact wrap_id .i64 (by omega) (by omega)
    have hfit : cpuV.fit (cpuS σ (rx.ev σ) (t.ev σ)) := by
     refine fit_put hV fun p hp => ?_
     simp only [List.mem_cons, List.not_mem_nil, or_false] at hp
     rcases hp with rfl | rfl | rfl | rfl
     ·exact ⟨r0', r1'⟩
     ·exact ⟨by show (0 : Int) ≤ 0; omega, by show (0 : Int) ≤ 1; omega⟩
     ·exact ⟨by show (0 : Int) ≤ t.ev σ + 4; omega, by show t.ev σ + 4 ≤ (16777216 : Int); omega⟩
     ·exact ⟨by show (0 : Int) ≤ σ.v 31 + 1; omega, by show σ.v 31 + 1 ≤ (16777216 : Int); omega⟩
    have left : ∀ H2 : SHeap, H2.get 0 = some (.cells (cpuP rr (.bool false) (.sym .i64 (i64b .add t (litS 4))) (.sym .i64 (i64b .add (.v 31) (litS 1)))) 0 true) → lieS H2 1 cpuR = true → ∀ i b, (instH (cpuS σ (rx.ev σ) (t.ev σ)) cpuH).get i = some b → (instH σ H2).get i = some b := by
     intro H2 g4 d5 i b hi
     rw [cpuH_get] at hi
     obtain ⟨x, hx, rfl⟩ := Option.map_eq_some_iff.1 hi
     cases i with
     | zero =>
      simp only [List.getElem?_cons_zero, Option.some.injEq] at hx
      subst hx
      rw [hget_inst g4]
      simp only [instB, cpuP, instR, instL, scrL, List.cons_append, List.nil_append, num_inst hrx σ, SVal.inst, i64v, u8v, u16v, Sx.ev, i64b, litS, hend, add1 hv31 h31]
      rfl
     | succ i =>
      have := lieS_sound d5 i x (by simpa using hx)
      rw [Nat.add_comm 1 i] at this
      rw [hget_inst this]
      have hx' : x ∈ cpuR := List.mem_of_getElem? (by simpa using hx)
      simp only [cpuR, List.mem_cons, List.not_mem_nil, or_false] at hx'
      rcases hx' with rfl | rfl | rfl | rfl | rfl | rfl | rfl | rfl | rfl | rfl | rfl | rfl | rfl <;> rfl
    refine ⟨t.ev σ, A.ev σ, B.ev σ, rx.ev σ, t0, t1, ⟨A0, A1⟩, ⟨B0, B1⟩, hfit, hold_put hF (by rfl), ⟨instH σ H1, ?_, fun i b hi => ?_, Nat.le_of_ble_eq_true cn1⟩, fun n hn => ?_⟩
    ·refine hra.trans ?_
     simp only [instC, SVal.inst, instL, instR, num_inst g1 σ, u16v, b8, Sx.ev]
    ·rw [cpuH_get] at hi
     obtain ⟨x, hx, rfl⟩ := Option.map_eq_some_iff.1 hi
     have := lieS_sound c2 i x hx
     rw [Nat.zero_add] at this
     exact hget_inst this
    ·rcases hn with rfl | rfl
     ·refine ⟨instH σ H2, hrb.trans ?_, left H2 g4 d5, Nat.le_of_ble_eq_true cn2⟩
      simp only [instC, SVal.inst, instL, instR, num_inst g1 σ, num_inst hA σ, num_inst hB σ, i64v, b8, Sx.ev]
     ·refine ⟨instH σ H3, hrc.trans ?_, left H3 g5 m4, Nat.le_of_ble_eq_true m3⟩
      simp only [instC, SVal.inst, instL, instR, num_inst g1 σ, num_inst hA σ, num_inst hB σ, i64v, b8, Sx.ev]
   ·cases hc
  ·cases hc
 ·cases hc
theorem CpuRun.nextAt {σ : Sig} {t A B rr : Int} (hV : cpuV.fit σ) (h : CpuRun σ t A B rr) (ρ : Ren) (w : World) (l : Loc) (hl : ρ 0 = some l) (hw : Rep ρ (instH σ cpuH) w) :
  Calls Go.Proofs.Tryz.prog 97 #[.pointer (some ⟨l.blk, l.off, none⟩)] w fun x w' => x = .returned (.tuple #[.agg #[.int .i64 1, .int .u16 (σ.v 21), .int .u8 0, .int .i64 4], .int .i64 t, .bool true]) ∧ Only (foot ρ (instH σ cpuH)) w w' ∧
    ∃ ρ', ρ.le ρ' ∧ Rep ρ' (instH σ cpuH) w' := by
 obtain ⟨H', hrun, hb, _⟩ := h.next
 refine (rep_call acall0_ok (by rfl) hrun (LR.one (.ptr hl)) hw).mono fun x w' hp => ?_
 obtain ⟨ρ', v', hx, hv, hr', hle, hon, hfr⟩ := hp
 exact ⟨hx.trans (congrArg Ending.returned (val3_sound rfl hv)), hon, cutρ ρ' 14, cutρ_ge hle hw.dom, cpu_sub hV (by rfl) hr' hb⟩
theorem CpuRun.doAt {σ : Sig} {t A B rr : Int} (h : CpuRun σ t A B rr) (n : Int) (hn : n = 0 ∨ n = 255) (ρ : Ren) (w : World) (l : Loc) (hl : ρ 0 = some l) (hw : Rep ρ (instH σ cpuH) w) :
  Calls Go.Proofs.Tryz.prog 111 #[.pointer (some ⟨l.blk, l.off, none⟩), .int .u8 n] w fun x w' => x = .returned (.tuple #[.agg #[.int .i64 t, .int .i64 1, .int .i64 (σ.v 31), .int .i64 1, .int .i64 A, .int .i64 B, .bool true, .int .i64 0, .int .i64 0, .int .u8 0, .bool false], .int .i64 0]) ∧ Only (foot ρ (instH σ cpuH)) w w' ∧
    ∃ ρ', ρ.le ρ' ∧ Rep ρ' (instH (cpuS σ rr t) cpuH) w' := by
 obtain ⟨H', hrun, hb, _⟩ := h.does n hn
 refine (rep_call acall0_ok (by rfl) hrun (LR.two (.ptr hl) (.int _ _)) hw).mono fun x w' hp => ?_
 obtain ⟨ρ', v', hx, hv, hr', hle, hon, hfr⟩ := hp
 exact ⟨hx.trans (congrArg Ending.returned (val3_sound rfl hv)), hon, cutρ ρ' 14, cutρ_ge hle hw.dom, cpu_sub h.fit (by rfl) hr' hb⟩
end Go.Sim
end
section
set_option maxRecDepth 1000000
namespace Go.Sim
attribute [local instance] noRO
structure Mach where
 c : Sig
 u : Sig
 a : Sig
 f : Sig
 t : Int
 A : Int
 B : Int
 rr : Int
 fl : Int
 e : Tell
 l : List (Nat × Int)
structure Mach.OK (m : Mach) : Prop where
 cV : cpuV.fit m.c
 uV : ulaV.fit m.u
 aV : ayV.fit m.a
 fV : fdcV.fit m.f
 cr : CpuRun m.c m.t m.A m.B m.rr
 ur : UlaRun m.u m.fl m.e
 ar : AyRun m.a m.l
 fr : FdcRun m.f
 tb : m.t ≤ bigT
 tl : 0 ≤ m.t
def blkAt (H : AHeap) (j : Nat) : ABlk := (H.get j).getD default
def Mach.ev (m : Mach) : Int × Int × Int := match m.e with | some x => x | none => (1, 0, 0)
def Mach.sig (m : Mach) : Sig where
 v := fun j => match j with | 0 => m.u.v 7 | 1 => m.t | 2 => m.c.v 21 | 3 => m.c.v 31 | 4 => m.A | 5 => m.B | 6 => m.u.v 8 | 7 => m.ev.1 | 8 => m.ev.2.1 | 9 => m.ev.2.2 | _ => 0
 a := fun _ _ => 0
 o := fun _ => (none, 0, 0)
 b := fun j => if j < 14 then (blkAt (instH m.c cpuH) j).ren (· + 1) else match j with
  | 14 => (blkAt (instH m.u ulaH) 0).ren (· + 15)
  | 15 => (blkAt (instH m.a ayH) 0).ren (· + 17)
  | 16 => (blkAt (instH m.f fdcH) 0).ren (· + 18)
  | 20 => (blkAt (instH (cpuS m.c m.rr m.t) cpuH) 0).ren (· + 1)
  | 21 => (blkAt (instH (ulaS m.u m.fl m.e) ulaH) 0).ren (· + 15)
  | 22 => (blkAt (instH (ayS m.a m.l) ayH) 0).ren (· + 17)
  | _ => (blkAt (instH (fdcS m.f) fdcH) 0).ren (· + 18)
theorem Mach.fit {m : Mach} (h : m.OK) : stepV.fit m.sig := by
 refine ⟨fun j => ?_, fun j i => ⟨Int.le_refl _, Int.le_refl _⟩, fun j i p e => by cases e⟩
 have hx : (1 ≤ m.ev.1 ∧ m.ev.1 ≤ 12) ∧ (0 ≤ m.ev.2.1 ∧ m.ev.2.1 ≤ 1048576) ∧ 0 ≤ m.ev.2.2 ∧ m.ev.2.2 ≤ 255 := by
  have := h.ur.ok
  unfold Mach.ev
  cases e : m.e with
  | none => simp
  | some x => rw [e] at this; exact this
 match j with
 | 0 => exact h.uV.1 7
 | 1 => exact ⟨h.tl, h.tb⟩
 | 2 => exact h.cV.1 21
 | 3 => exact h.cV.1 31
 | 4 => exact h.cr.a
 | 5 => exact h.cr.b
 | 6 => exact h.uV.1 8
 | 7 => exact hx.1
 | 8 => exact hx.2.1
 | 9 => exact hx.2.2
 | _ + 10 => exact ⟨Int.le_refl _, Int.le_refl _⟩
theorem cpu_canon {σ : Sig} (hV : cpuV.fit σ) : Canon (instH σ cpuH) := by
 refine ⟨fun i b hb => ?_, fun i b hb => ?_⟩ <;> rw [cpuH_get] at hb <;> obtain ⟨x, hx, rfl⟩ := Option.map_eq_some_iff.1 hb
 ·exact (List.getElem?_eq_some_iff.1 hx).1
 ·refine ⟨_, _, rfl, scSR_sound hV x ?_⟩
  have : (cpuP (u8v 17) (.sb (.v 29)) (i64v 30) (i64v 31) :: cpuR).all (scSR 14 0) = true := by rfl
  exact List.all_eq_true.1 this x (List.mem_of_getElem? hx)
theorem one_canon {V : Vars} {σ : Sig} (hV : V.fit σ) {n : Nat} {r : SRope SVal} (hn : 0 < n) (hs : scSR n V.o r = true) : Canon (instH σ (oneS n r)) := by
 refine ⟨fun i b hb => ?_, fun i b hb => ?_⟩ <;> rw [oneS_get] at hb <;> split at hb
 ·rename_i h0; subst h0; exact hn
 ·cases hb
 ·simp only [Option.some.injEq] at hb; subst hb; exact ⟨_, _, rfl, scSR_sound hV _ hs⟩
 ·cases hb
end Go.Sim
namespace Go.Sim
attribute [local instance] noRO
open Go.Proofs.Tryz
theorem blkAt_of {H : AHeap} {j : Nat} {b : ABlk} (h : H.get j = some b) : blkAt H j = b := by simp [blkAt, h]
theorem cpu0 (σ : Sig) : (instH σ cpuH).get 0 = some (blkAt (instH σ cpuH) 0) := by
 have : (instH σ cpuH).get 0 = some (.cells (instR σ (cpuP (u8v 17) (.sb (.v 29)) (i64v 30) (i64v 31))) 0 true) := by rw [cpuH_get]; rfl
 rw [blkAt_of this, this]
theorem one0 (σ : Sig) (n : Nat) (r : SRope SVal) : (instH σ (oneS n r)).get 0 = some (blkAt (instH σ (oneS n r)) 0) := by
 have : (instH σ (oneS n r)).get 0 = some (.cells (instR σ r) 0 true) := by rw [oneS_get]; rfl
 rw [blkAt_of this, this]
theorem cpuS_other (σ : Sig) (rr t : Int) (j : Nat) (h : j ≠ 0) : (instH (cpuS σ rr t) cpuH).get j = (instH σ cpuH).get j := by
 rw [cpuH_get, cpuH_get]
 cases j with
 | zero => exact absurd rfl h
 | succ j =>
  simp only [List.getElem?_cons_succ]
  cases e : cpuR[j]? with
  | none => rfl
  | some x =>
   have hx' : x ∈ cpuR := List.mem_of_getElem? e
   simp only [cpuR, List.mem_cons, List.not_mem_nil, or_false] at hx'
   rcases hx' with rfl | rfl | rfl | rfl | rfl | rfl | rfl | rfl | rfl | rfl | rfl | rfl | rfl <;> rfl
theorem one_other (σ σ' : Sig) (n : Nat) (r : SRope SVal) (j : Nat) (h : j ≠ 0) : (instH σ (oneS n r)).get j = (instH σ' (oneS n r)).get j := by
 rw [oneS_get, oneS_get, if_neg h, if_neg h]
def nextV (m : Mach) : AVal := .tup [.agg (.lst [.int .i64 1, .int .u16 (m.c.v 21), .int .u8 0, .int .i64 4]), .int .i64 m.t, .bool true]
def doV (m : Mach) : AVal := .tup [.agg (.lst [.int .i64 m.t, .int .i64 1, .int .i64 (m.c.v 31), .int .i64 1, .int .i64 m.A, .int .i64 m.B, .bool true, .int .i64 0, .int .i64 0, .int .u8 0, .bool false]), .int .i64 0]
noncomputable def p97 (m : Mach) : CallF := piece 97 [.ptr (some (1, 0))] (InAt 1 (instH m.c cpuH)) fun H => (nextV m, ⟨H.next + 1000, H.tree⟩)
theorem p97_ok {m : Mach} (h : m.OK) : CallOK prog LP.E (p97 m) := by
 obtain ⟨H', hrun, hb, hn⟩ := h.cr.next
 exact piece_frame acall0_ok (by rfl) (k := 1) (l0 := [.ptr (some (0, 0))]) hrun ⟨show 0 < 14 by omega, trivial⟩ (cpu_canon h.cV) (cpu_canon h.cV) rfl hb hn (fun H => rfl) (fun H => rfl) fun H hp => cov_same hp fun i => rfl
noncomputable def p111 (m : Mach) : CallF := piece 111 [.ptr (some (1, 0)), .int .u8 0] (InAt 1 (instH m.c cpuH)) fun H => (doV m, ⟨H.next + 1000, H.tree.set 1 (some ((blkAt (instH (cpuS m.c m.rr m.t) cpuH) 0).ren (· + 1)))⟩)
theorem p111_ok {m : Mach} (h : m.OK) : CallOK prog LP.E (p111 m) := by
 obtain ⟨H', hrun, hb, hn⟩ := h.cr.does 0 (.inl rfl)
 exact piece_frame acall0_ok (by rfl) (k := 1) (l0 := [.ptr (some (0, 0)), .int .u8 0]) hrun ⟨show 0 < 14 by omega, trivial, trivial⟩ (cpu_canon h.cV) (cpu_canon h.cr.fit) rfl hb hn (fun H => rfl) (fun H => rfl) fun H hp =>
  cov_set hp (show 0 < 14 by omega) (cpu0 _) (fun j hj => cpuS_other _ _ _ j hj) fun i => Trie.get_set _ _ _ _
noncomputable def p115 (m : Mach) : CallF := piece 115 [.ptr (some (17, 0))] (InAt 17 (instH m.a ayH)) fun H => (.slice none 0 0, ⟨H.next + 1000, H.tree.set 17 (some ((blkAt (instH (ayS m.a m.l) ayH) 0).ren (· + 17)))⟩)
theorem only0 {σ : Sig} {n : Nat} {r : SRope SVal} {H' : AHeap} (h : H'.get 0 = (instH σ (oneS n r)).get 0) : ∀ j b, (instH σ (oneS n r)).get j = some b → H'.get j = some b := by
 intro j b hb
 by_cases hj : j = 0
 ·subst hj; rw [h]; exact hb
 ·rw [oneS_get, if_neg hj] at hb; cases hb
theorem p115_ok {m : Mach} (h : m.OK) : CallOK prog LP.E (p115 m) := by
 obtain ⟨H', hrun, hb, hn⟩ := h.ar.run
 exact piece_frame acall0_ok (by rfl) (k := 17) (l0 := [.ptr (some (0, 0))]) hrun ⟨show 0 < 1 by omega, trivial⟩ (one_canon (n := 1) h.aV (by omega) (by rfl)) (one_canon (n := 1) h.ar.fit (by omega) (by rfl)) rfl (only0 (n := 1) hb) hn (fun H => rfl) (fun H => rfl) fun H hp =>
  cov_set hp (show 0 < 1 by omega) (one0 _ 1 _) (fun j hj => one_other _ _ 1 _ j hj) fun i => Trie.get_set _ _ _ _
noncomputable def p117 (m : Mach) : CallF := piece 117 [.ptr (some (18, 0))] (InAt 18 (instH m.f fdcH)) fun H => (.slice none 0 0, ⟨H.next + 1000, H.tree.set 18 (some ((blkAt (instH (fdcS m.f) fdcH) 0).ren (· + 18)))⟩)
theorem p117_ok {m : Mach} (h : m.OK) : CallOK prog LP.E (p117 m) := by
 obtain ⟨H', hrun, hb, hn⟩ := h.fr.run
 exact piece_frame acall0_ok (by rfl) (k := 18) (l0 := [.ptr (some (0, 0))]) hrun ⟨show 0 < 2 by omega, trivial⟩ (one_canon (n := 2) h.fV (by omega) (by rfl)) (one_canon (n := 2) h.fr.fit (by omega) (by rfl)) rfl (only0 (n := 2) hb) hn (fun H => rfl) (fun H => rfl) fun H hp =>
  cov_set hp (show 0 < 2 by omega) (one0 _ 2 _) (fun j hj => one_other _ _ 2 _ j hj) fun i => Trie.get_set _ _ _ _
noncomputable def p113 (m : Mach) : CallF := piece 113 [.ptr (some (15, 0))] (InAt 15 (instH m.u ulaH)) fun H => match m.e with
 | none => (.slice none 0 0, ⟨H.next + 1000, H.tree.set 15 (some ((blkAt (instH (ulaS m.u m.fl m.e) ulaH) 0).ren (· + 15)))⟩)
 | some x => (.slice (some (H.next + 16, 0)) 1 1, ⟨H.next + 1000, (H.tree.set 15 (some ((blkAt (instH (ulaS m.u m.fl m.e) ulaH) 0).ren (· + 15)))).set (H.next + 16) (some (.cells (.lst (evCells (m.u.v 7) 2 (m.u.v 8) x)) 6 true))⟩)
theorem p113_ok {m : Mach} (h : m.OK) : CallOK prog LP.E (p113 m) := by
 obtain ⟨v, H', hrun, hb, he, hn⟩ := h.ur.run
 have key : ∀ H, InAt 15 (instH m.u ulaH) H → ∀ T : Trie ABlk, T = H.tree.set 15 (some ((blkAt (instH (ulaS m.u m.fl m.e) ulaH) 0).ren (· + 15))) → Cov 15 (instH m.u ulaH) H' (instH (ulaS m.u m.fl m.e) ulaH) H ⟨H.next + 1000, T⟩ := fun H hp T hT =>
  cov_set hp (show 0 < 2 by omega) (one0 _ 2 _) (fun j hj => one_other _ _ 2 _ j hj) fun i => by rw [hT]; exact Trie.get_set _ _ _ _
 unfold p113
 cases e : m.e with
 | none =>
  rw [e] at he
  have he' : v = .slice none 0 0 := he
  subst he'
  exact piece_frame acall0_ok (by rfl) (k := 15) (l0 := [.ptr (some (0, 0))]) hrun ⟨show 0 < 2 by omega, trivial⟩ (one_canon (n := 2) h.uV (by omega) (by rfl)) (one_canon (n := 2) h.ur.fit (by omega) (by rfl)) rfl (only0 (n := 2) hb) hn (fun H => rfl) (fun H => rfl) fun H hp => key H hp _ (by rw [e])
 | some x =>
  rw [e] at he
  obtain ⟨rfl, hev⟩ := he
  refine piece_frame acall0_ok (by rfl) (k := 15) (l0 := [.ptr (some (0, 0))]) hrun ⟨show 0 < 2 by omega, trivial⟩ (one_canon (n := 2) h.uV (by omega) (by rfl)) (one_canon (n := 2) h.ur.fit (by omega) (by rfl)) rfl (only0 (n := 2) hb) hn (fun H => rfl) (fun H => rfl) fun H hp => ?_
  intro i b hb'
  have hb2 : ((H.tree.set 15 (some ((blkAt (instH (ulaS m.u m.fl (some x)) ulaH) 0).ren (· + 15)))).set (H.next + 16) (some (.cells (.lst (evCells (m.u.v 7) 2 (m.u.v 8) x)) 6 true))).get i = some b := hb'
  rw [Trie.get_set] at hb2
  split at hb2
  ·rename_i hi
   simp only [Option.some.injEq] at hb2
   exact .inr (.inl ⟨18, _, show 2 ≤ 18 by omega, hev, hi.symm, hb2.symm, fun π => rfl⟩)
  ·exact key H hp (H.tree.set 15 (some ((blkAt (instH (ulaS m.u m.fl (some x)) ulaH) 0).ren (· + 15)))) (by rw [e]) i b hb2
theorem len_run {n : Int} (h : lenOK n = true) : ∃ H', acall0 154 [.int .u64 n] ⟨0, .leaf⟩ = some (.ret (.int .i64 n) H') := by
 unfold lenOK at h
 split at h
 ·rename_i k H' hr
  rw [eqI_eq] at h
  rw [hr, of_decide_eq_true h]
  exact ⟨H', rfl⟩
 ·cases h
noncomputable def p154 (n : Int) : CallF := piece 154 [.int .u64 n] (fun _ => True) fun H => (.int .i64 n, H)
theorem p154_ok {n : Int} (h : lenOK n = true) : CallOK prog LP.E (p154 n) := by
 obtain ⟨H', hr⟩ := len_run h
 exact pure_ok acall0_ok (by rfl) ⟨trivial, trivial⟩ hr rfl fun ρ => .int _ _
noncomputable def p100 (m : Mach) : CallF := open Classical in if m.t = m.u.v 7 then piece 100 (instL m.sig ordA) (fun _ => True) fun H => (.int .i64 1, H) else fun _ _ _ => none
theorem p100_ok {m : Mach} (h : m.OK) : CallOK prog LP.E (p100 m) := by
 unfold p100
 split
 ·rename_i ht
  have hF : Facts.hold m.sig ordF := by
   intro f hf
   have e0 : m.sig.v 0 = m.u.v 7 := rfl
   have e1 : m.sig.v 1 = m.t := rfl
   simp only [ordF, List.mem_cons, List.not_mem_nil, or_false] at hf
   rcases hf with rfl | rfl | rfl <;> simp [eqF, ltF, Atom.holds, Sx.ev, e0, e1, ht]
  obtain ⟨F', r, hF', hr, hc⟩ := stree_sound (Mach.fit h) ord_tree hF
  have hrun := scall0_ok (Mach.fit h) hF' _ _ _ _ hr
  unfold ordChk at hc
  split at hc
  ·rename_i H
   exact pure_ok acall0_ok (by rfl) (by exact ⟨⟨trivial, trivial, trivial, trivial, trivial, trivial, trivial⟩, ⟨trivial, trivial, trivial, trivial, trivial, trivial, trivial⟩, trivial⟩) hrun rfl fun ρ => .int _ _
  ·cases hc
 ·intro f l H r h; cases h
noncomputable def Mach.ext (m : Mach) : CallF := orExt (p97 m) (orExt (p111 m) (orExt (p113 m) (orExt (p115 m) (orExt (p117 m) (orExt (p154 0) (orExt (p154 1) (orExt (p154 2) (p100 m))))))))
theorem Mach.ext_ok {m : Mach} (h : m.OK) : CallOK prog LP.E m.ext :=
 orExt_ok (p97_ok h) (orExt_ok (p111_ok h) (orExt_ok (p113_ok h) (orExt_ok (p115_ok h) (orExt_ok (p117_ok h) (orExt_ok (p154_ok len0) (orExt_ok (p154_ok len1) (orExt_ok (p154_ok len2) (p100_ok h))))))))
end Go.Sim
end
section
set_option maxRecDepth 1000000
namespace Go.Sim
attribute [local instance] noRO
open Go.Proofs.Tryz
theorem piece_no {f0 f : FuncId} {l0 l : List AVal} {pre : AHeap → Prop} {res : AHeap → AVal × AHeap} {H : AHeap} (h : f ≠ f0) : piece f0 l0 pre res f l H = none := by
 unfold piece; rw [if_neg (fun hc => h hc.1)]
theorem piece_yes {f0 : FuncId} {l0 : List AVal} {pre : AHeap → Prop} {res : AHeap → AVal × AHeap} {H : AHeap} (h : pre H) : piece f0 l0 pre res f0 l0 H = some (.ret (res H).1 (res H).2) := by
 unfold piece; rw [if_pos ⟨rfl, rfl, h⟩]
theorem opqAt_get {H : SHeap} {i j : Nat} (h : opqAt H i j = true) : H.get i = some (.opq j) := by
 unfold opqAt at h
 split at h
 ·rename_i k hk; rw [hk, Nat.eq_of_beq_eq_true h]
 ·cases h
theorem opqAt_inst {σ : Sig} {H : SHeap} {i j : Nat} (h : opqAt H i j = true) : (instH σ H).get i = some (σ.b j) := hget_inst (opqAt_get h)
theorem noneAt_inst {σ : Sig} {H : SHeap} {i : Nat} (h : noneAt H i = true) : (instH σ H).get i = none := by
 unfold noneAt at h
 split at h
 ·rename_i hn
  show (H.tree.mapv (instB σ)).get i = none
  rw [Trie.get_map]
  have : H.tree.get i = none := hn
  rw [this]; rfl
 ·cases h
theorem cpuAt_in {m : Mach} {H : SHeap} (h : cpuAt H = true) (hn : Nat.ble 20 H.next = true) : InAt 1 (instH m.c cpuH) (instH m.sig H) := by
 have hn := Nat.le_of_ble_eq_true hn
 refine ⟨show 14 + 1 ≤ H.next by omega, fun j hj => ?_⟩
 have hj : j < 14 := hj
 have := List.all_eq_true.1 h j (List.mem_range.2 hj)
 rw [opqAt_inst this]
 show some (if j < 14 then (blkAt (instH m.c cpuH) j).ren (· + 1) else _) = _
 rw [if_pos hj]
 have hl : j < (cpuP (u8v 17) (.sb (.v 29)) (i64v 30) (i64v 31) :: cpuR).length := hj
 obtain ⟨b, hb⟩ : ∃ b, (instH m.c cpuH).get j = some b := by
  rw [cpuH_get, List.getElem?_eq_getElem hl]; exact ⟨_, rfl⟩
 rw [hb, blkAt_of hb]; rfl
theorem one_in {σ σ' : Sig} {k n : Nat} {r : SRope SVal} {H : SHeap} {j : Nat} (hk : opqAt H k j = true) (hb : σ'.b j = (blkAt (instH σ (oneS n r)) 0).ren (· + k)) (hrest : ∀ i, 0 < i → i < n → (instH σ' H).get (i + k) = none) (hn : n + k ≤ H.next) : InAt k (instH σ (oneS n r)) (instH σ' H) := by
 refine ⟨hn, fun i hi => ?_⟩
 by_cases h0 : i = 0
 ·subst h0
  rw [Nat.zero_add, opqAt_inst hk, hb, one0]; rfl
 ·rw [hrest i (by omega) hi, oneS_get, if_neg h0]; rfl
theorem inst_set (σ : Sig) (n : Nat) (T : Trie SBlk) (i : Nat) (b : SBlk) : instH σ ⟨n, T.set i (some b)⟩ = ⟨n, (T.mapv (instB σ)).set i (some (instB σ b))⟩ := by
 show (⟨n, (T.set i (some b)).mapv (instB σ)⟩ : AHeap) = _
 rw [← Trie.set_map (instB σ) T i (some b)]; rfl
theorem or_no {a b : CallF} {f : FuncId} {l : List AVal} {H : AHeap} (h : a f l H = none) : orExt a b f l H = b f l H := by unfold orExt; rw [h]
theorem or_yes {a b : CallF} {f : FuncId} {l : List AVal} {H : AHeap} {r : CRes} (h : a f l H = some r) : orExt a b f l H = some r := by unfold orExt; rw [h]
theorem sub97 {m : Mach} {H : SHeap} (h : cpuAt H = true) (hn : Nat.ble 20 H.next = true) : m.ext 97 [.ptr (some (1, 0))] (instH m.sig H) = some (.ret (nextV m) ⟨H.next + 1000, (instH m.sig H).tree⟩) := or_yes (piece_yes (cpuAt_in h hn))
theorem sub111 {m : Mach} {H : SHeap} (h : cpuAt H = true) (hn : Nat.ble 20 H.next = true) : m.ext 111 [.ptr (some (1, 0)), .int .u8 0] (instH m.sig H) = some (.ret (doV m) ⟨H.next + 1000, (instH m.sig H).tree.set 1 (some ((blkAt (instH (cpuS m.c m.rr m.t) cpuH) 0).ren (· + 1)))⟩) :=
 (or_no (piece_no (by decide))).trans (or_yes (piece_yes (cpuAt_in h hn)))
theorem sub113 {m : Mach} {H : SHeap} (h : opqAt H 15 14 = true) (h16 : noneAt H 16 = true) (hn : Nat.ble 20 H.next = true) : m.ext 113 [.ptr (some (15, 0))] (instH m.sig H) = some (match m.e with
 | none => .ret (.slice none 0 0) ⟨H.next + 1000, (instH m.sig H).tree.set 15 (some ((blkAt (instH (ulaS m.u m.fl m.e) ulaH) 0).ren (· + 15)))⟩
 | some x => .ret (.slice (some (H.next + 16, 0)) 1 1) ⟨H.next + 1000, ((instH m.sig H).tree.set 15 (some ((blkAt (instH (ulaS m.u m.fl m.e) ulaH) 0).ren (· + 15)))).set (H.next + 16) (some (.cells (.lst (evCells (m.u.v 7) 2 (m.u.v 8) x)) 6 true))⟩) := by
 have hn := Nat.le_of_ble_eq_true hn
 refine (or_no (piece_no (by decide))).trans ((or_no (piece_no (by decide))).trans (or_yes ?_))
 refine (piece_yes (one_in (n := 2) h rfl (fun i h0 h2 => ?_) (by omega))).trans ?_
 ·obtain rfl : i = 1 := by omega
  exact noneAt_inst h16
 ·cases m.e <;> rfl
theorem sub115 {m : Mach} {H : SHeap} (h : opqAt H 17 15 = true) (hn : Nat.ble 20 H.next = true) : m.ext 115 [.ptr (some (17, 0))] (instH m.sig H) = some (.ret (.slice none 0 0) ⟨H.next + 1000, (instH m.sig H).tree.set 17 (some ((blkAt (instH (ayS m.a m.l) ayH) 0).ren (· + 17)))⟩) := by
 have hn := Nat.le_of_ble_eq_true hn
 refine (or_no (piece_no (by decide))).trans ((or_no (piece_no (by decide))).trans ((or_no (piece_no (by decide))).trans (or_yes ?_)))
 exact piece_yes (one_in (n := 1) h rfl (fun i h0 h2 => absurd h2 (by omega)) (by omega))
theorem sub117 {m : Mach} {H : SHeap} (h : opqAt H 18 16 = true) (h19 : noneAt H 19 = true) (hn : Nat.ble 20 H.next = true) : m.ext 117 [.ptr (some (18, 0))] (instH m.sig H) = some (.ret (.slice none 0 0) ⟨H.next + 1000, (instH m.sig H).tree.set 18 (some ((blkAt (instH (fdcS m.f) fdcH) 0).ren (· + 18)))⟩) := by
 have hn := Nat.le_of_ble_eq_true hn
 refine (or_no (piece_no (by decide))).trans ((or_no (piece_no (by decide))).trans ((or_no (piece_no (by decide))).trans ((or_no (piece_no (by decide))).trans (or_yes ?_))))
 refine piece_yes (one_in (n := 2) h rfl (fun i h0 h2 => ?_) (by omega))
 obtain rfl : i = 1 := by omega
 exact noneAt_inst h19
theorem to154 {m : Mach} {l : List AVal} {H : AHeap} : m.ext 154 l H = orExt (p154 0) (orExt (p154 1) (orExt (p154 2) (p100 m))) 154 l H :=
 (or_no (piece_no (by decide))).trans ((or_no (piece_no (by decide))).trans ((or_no (piece_no (by decide))).trans ((or_no (piece_no (by decide))).trans (or_no (piece_no (by decide))))))
theorem p154_other {n k : Int} {H : AHeap} (h : k ≠ n) : p154 n 154 [.int .u64 k] H = none := by
 unfold p154 piece
 rw [if_neg]
 rintro ⟨_, h2, _⟩
 simp only [List.cons.injEq, AVal.int.injEq, and_true, true_and] at h2
 exact h h2
theorem sub154 {m : Mach} {H : AHeap} : m.ext 154 [.int .u64 0] H = some (.ret (.int .i64 0) H) ∧ m.ext 154 [.int .u64 1] H = some (.ret (.int .i64 1) H) ∧ m.ext 154 [.int .u64 2] H = some (.ret (.int .i64 2) H) :=
 ⟨to154.trans (or_yes (piece_yes trivial)), to154.trans ((or_no (p154_other (by decide))).trans (or_yes (piece_yes trivial))),
  to154.trans ((or_no (p154_other (by decide))).trans ((or_no (p154_other (by decide))).trans (or_yes (piece_yes trivial))))⟩
theorem sub100 {m : Mach} {H : AHeap} (ht : m.t = m.u.v 7) : m.ext 100 (instL m.sig ordA) H = some (.ret (.int .i64 1) H) := by
 refine (or_no (piece_no (by decide))).trans ((or_no (piece_no (by decide))).trans ((or_no (piece_no (by decide))).trans ((or_no (piece_no (by decide))).trans ((or_no (piece_no (by decide))).trans ((or_no (piece_no (by decide))).trans ((or_no (piece_no (by decide))).trans ((or_no (piece_no (by decide))).trans ?_)))))))
 unfold p100
 rw [if_pos ht]
 exact piece_yes trivial
theorem ext_other {m : Mach} {f : FuncId} (h : stepXs f = false) (l : List AVal) (H : AHeap) : m.ext f l H = none := by
 simp only [stepXs, Bool.or_eq_false_iff] at h
 have ne : ∀ {n : Nat}, Nat.beq f n = false → f ≠ n := by
  intro n hn e
  subst e
  simp at hn
 obtain ⟨⟨⟨⟨⟨⟨h1, h2⟩, h3⟩, h4⟩, h5⟩, h6⟩, h7⟩ := h
 refine (or_no (piece_no (ne h1))).trans ((or_no (piece_no (ne h2))).trans ((or_no (piece_no (ne h3))).trans ((or_no (piece_no (ne h4))).trans ((or_no (piece_no (ne h5))).trans ((or_no (piece_no (ne h6))).trans ((or_no (piece_no (ne h6))).trans ((or_no (piece_no (ne h6))).trans ?_)))))))
 unfold p100
 split
 ·exact piece_no (ne h7)
 ·rfl
theorem step_sub {m : Mach} (h : m.OK) {F : Facts} (hF : F.hold m.sig) : CallSub m.sig (stepX m.e.isSome F) m.ext := by
 have hfit := Mach.fit h
 intro f l H r hr
 unfold stepX at hr
 cases e97 : Nat.beq f 97 with
 | true =>
  have := Nat.eq_of_beq_eq_true e97
  subst this
  simp only [e97, cond_true] at hr
  split at hr
  ·replace hr := SR.guard_ok hr; obtain ⟨hg, hr⟩ := hr
   simp only [Bool.and_eq_true] at hg
   simp only [SR.ok.injEq] at hr
   subst hr
   exact sub97 hg.1 hg.2
  ·cases hr
 | false =>
 cases e111 : Nat.beq f 111 with
 | true =>
  have := Nat.eq_of_beq_eq_true e111
  subst this
  simp only [e97, e111, cond_true, cond_false] at hr
  split at hr
  ·replace hr := SR.guard_ok hr; obtain ⟨hg, hr⟩ := hr
   simp only [Bool.and_eq_true] at hg
   simp only [SR.ok.injEq] at hr
   subst hr
   refine (sub111 hg.1 hg.2).trans ?_
   simp only [instC]
   rw [inst_set]
   rfl
  ·cases hr
 | false =>
 cases e113 : Nat.beq f 113 with
 | true =>
  have := Nat.eq_of_beq_eq_true e113
  subst this
  simp only [e97, e111, e113, cond_true, cond_false] at hr
  split at hr
  ·replace hr := SR.guard_ok hr; obtain ⟨hg, hr⟩ := hr
   simp only [Bool.and_eq_true] at hg
   refine (sub113 hg.1.1 hg.1.2 hg.2).trans ?_
   cases e : m.e with
   | none =>
    rw [e] at hr
    simp only [Option.isSome_none, cond_false, SR.ok.injEq] at hr
    subst hr
    simp only [instC]
    rw [inst_set]
    rw [← e]
    rfl
   | some x =>
    rw [e] at hr
    simp only [Option.isSome_some, cond_true, SR.ok.injEq] at hr
    subst hr
    simp only [instC]
    rw [inst_set, ← Trie.set_map]
    have hx : m.ev = x := by unfold Mach.ev; rw [e]
    simp only [Option.map_some, instB, instR, instL, SVal.inst, i64v, Sx.ev, evCells]
    rw [← e]
    have h7 : m.sig.v 7 = x.1 := by rw [← hx]; rfl
    have h8 : m.sig.v 8 = x.2.1 := by rw [← hx]; rfl
    have h9 : m.sig.v 9 = x.2.2 := by rw [← hx]; rfl
    rw [h7, h8, h9]
    rfl
  ·cases hr
 | false =>
 cases e115 : Nat.beq f 115 with
 | true =>
  have := Nat.eq_of_beq_eq_true e115
  subst this
  simp only [e97, e111, e113, e115, cond_true, cond_false] at hr
  split at hr
  ·replace hr := SR.guard_ok hr; obtain ⟨hg, hr⟩ := hr
   simp only [Bool.and_eq_true] at hg
   simp only [SR.ok.injEq] at hr
   subst hr
   refine (sub115 hg.1 hg.2).trans ?_
   simp only [instC]
   rw [inst_set]
   rfl
  ·cases hr
 | false =>
 cases e154 : Nat.beq f 154 with
 | true =>
  have := Nat.eq_of_beq_eq_true e154
  subst this
  simp only [e97, e111, e113, e115, e154, cond_true, cond_false] at hr
  split at hr <;> simp only [SR.ok.injEq, reduceCtorEq] at hr
  ·subst hr; exact sub154.1
  ·subst hr; exact sub154.2.1
  ·subst hr; exact sub154.2.2
 | false =>
 cases e100 : Nat.beq f 100 with
 | true =>
  have := Nat.eq_of_beq_eq_true e100
  subst this
  simp only [e97, e111, e113, e115, e154, e100, cond_true, cond_false] at hr
  split at hr
  ·rename_i a b
   replace hr := SR.guard_ok hr; obtain ⟨hg, hr⟩ := hr
   simp only [Bool.and_eq_true] at hg
   simp only [SR.ok.injEq] at hr
   subst hr
   have ha := sreq_sound hg.1.2
   have hb := sreq_sound hg.2
   subst ha
   subst hb
   refine sub100 ?_
   have hs := hg.1.1
   unfold sameT at hs
   split at hs
   ·rename_i b' hd
    have := dec_sound hfit hF hd
    subst hs
    simp only [Atom.holds, Bool.false_eq_true, if_false, decide_eq_true_eq] at this
    exact this
   ·cases hs
  ·cases hr
 | false =>
  simp only [e97, e111, e113, e115, e154, e100, cond_false] at hr
  split at hr
  ·replace hr := SR.guard_ok hr; obtain ⟨hg, hr⟩ := hr
   simp only [Bool.and_eq_true] at hg
   have := Nat.eq_of_beq_eq_true hg.1.1.1
   subst this
   simp only [SR.ok.injEq] at hr
   subst hr
   refine (sub117 hg.1.1.2 hg.1.2 hg.2).trans ?_
   simp only [instC]
   rw [inst_set]
   rfl
  ·cases hr
end Go.Sim
end
section
set_option maxRecDepth 1000000
namespace Go.Sim
attribute [local instance] noRO
open Go.Proofs.Tryz
mutual
theorem sc_ren {n k : Nat} : ∀ a : AVal, Sc n a → Sc (n + k) (a.ren (· + k))
 | .ptr (some (i, o)), h => by have h : i < n := h; show i + k < n + k; omega
 | .slice (some (i, o)) m c, h => by have h : i < n := h; show i + k < n + k; omega
 | .mapv (some i), h => by have h : i < n := h; show i + k < n + k; omega
 | .func f a b, h => ⟨sc_renL a h.1, sc_renL b h.2⟩
 | .iface t v, h => sc_ren v h
 | .agg r, h => sc_renR r h
 | .tup l, h => sc_renL l h
 | .bool b, _ => trivial
 | .int k n, _ => trivial
 | .str s, _ => trivial
 | .ptr none, _ => trivial
 | .slice none n c, _ => trivial
 | .mapv none, _ => trivial
 | .nilFunc, _ => trivial
 | .nilIface, _ => trivial
 | .es, _ => trivial
 | .vs _ _ _, _ => trivial
 | .part k m v lo hi, _ => trivial
 | .junk, _ => trivial
theorem sc_renL {n k : Nat} : ∀ l : List AVal, ScL n l → ScL (n + k) (renL (· + k) l)
 | [], _ => trivial
 | v :: l, h => ⟨sc_ren v h.1, sc_renL l h.2⟩
theorem sc_renR {n k : Nat} : ∀ r : Rope AVal, ScR n r → ScR (n + k) (renR (· + k) r)
 | .lst l, h => sc_renL l h
 | .rep m a, h => sc_ren a h
 | .app m a b, h => ⟨sc_renR a h.1, sc_renR b h.2⟩
end
mutual
theorem sc_mono {n m : Nat} (h : n ≤ m) : ∀ a : AVal, Sc n a → Sc m a
 | .ptr (some (i, o)), hs => by have hs : i < n := hs; show i < m; omega
 | .slice (some (i, o)) _ _, hs => by have hs : i < n := hs; show i < m; omega
 | .mapv (some i), hs => by have hs : i < n := hs; show i < m; omega
 | .func f a b, hs => ⟨sc_monoL h a hs.1, sc_monoL h b hs.2⟩
 | .iface t v, hs => sc_mono h v hs
 | .agg r, hs => sc_monoR h r hs
 | .tup l, hs => sc_monoL h l hs
 | .bool b, _ => trivial
 | .int k n, _ => trivial
 | .str s, _ => trivial
 | .ptr none, _ => trivial
 | .slice none n c, _ => trivial
 | .mapv none, _ => trivial
 | .nilFunc, _ => trivial
 | .nilIface, _ => trivial
 | .es, _ => trivial
 | .vs _ _ _, _ => trivial
 | .part k m v lo hi, _ => trivial
 | .junk, _ => trivial
theorem sc_monoL {n m : Nat} (h : n ≤ m) : ∀ l : List AVal, ScL n l → ScL m l
 | [], _ => trivial
 | v :: l, hs => ⟨sc_mono h v hs.1, sc_monoL h l hs.2⟩
theorem sc_monoR {n m : Nat} (h : n ≤ m) : ∀ r : Rope AVal, ScR n r → ScR m r
 | .lst l, hs => sc_monoL h l hs
 | .rep _ a, hs => sc_mono h a hs
 | .app _ a b, hs => ⟨sc_monoR h a hs.1, sc_monoR h b hs.2⟩
end
theorem canon_sc {H : AHeap} (hc : Canon H) {j k n : Nat} {b : ABlk} (hb : H.get j = some b) (hn : H.next + k ≤ n) : ScB n (b.ren (· + k)) := by
 obtain ⟨r, g, rfl, hr⟩ := hc.rows j b hb
 exact sc_monoR hn _ (sc_renR r hr)
def mSig (c u a f : Sig) (t : Int) : Sig where
 v := fun j => if j = 0 then t else 0
 a := fun _ _ => 0
 o := fun _ => (none, 0, 0)
 b := fun j => if j < 14 then (blkAt (instH c cpuH) j).ren (· + 1) else match j with
  | 14 => (blkAt (instH u ulaH) 0).ren (· + 15)
  | 15 => (blkAt (instH a ayH) 0).ren (· + 17)
  | _ => (blkAt (instH f fdcH) 0).ren (· + 18)
def machine (c u a f : Sig) (t : Int) : AHeap := instH (mSig c u a f t) machH
def lockR (t : Int) : Rope AVal := .lst [.ptr (some (1, 0)), .ptr (some (15, 0)), .ptr (some (17, 0)), .ptr (some (18, 0)), .int .i64 t]
theorem machT_get (i : Nat) (h : 19 ≤ i) : machT.get i = none := by
 simp only [machT, Trie.get_set, Trie.get_leaf]
 repeat rw [if_neg (by omega)]
theorem mach_cases {c u a f : Sig} {t : Int} {i : Nat} {b : ABlk} (h : (machine c u a f t).get i = some b) : (i = 0 ∧ b = .cells (lockR t) 0 true) ∨ (∃ j, j < 14 ∧ i = j + 1 ∧ b = (blkAt (instH c cpuH) j).ren (· + 1)) ∨ (i = 15 ∧ b = (blkAt (instH u ulaH) 0).ren (· + 15)) ∨ (i = 17 ∧ b = (blkAt (instH a ayH) 0).ren (· + 17)) ∨ (i = 18 ∧ b = (blkAt (instH f fdcH) 0).ren (· + 18)) := by
 match i with
 | 0 => exact .inl ⟨rfl, (Option.some.inj h).symm⟩
 | 1 => exact .inr (.inl ⟨0, by omega, rfl, (Option.some.inj h).symm⟩)
 | 2 => exact .inr (.inl ⟨1, by omega, rfl, (Option.some.inj h).symm⟩)
 | 3 => exact .inr (.inl ⟨2, by omega, rfl, (Option.some.inj h).symm⟩)
 | 4 => exact .inr (.inl ⟨3, by omega, rfl, (Option.some.inj h).symm⟩)
 | 5 => exact .inr (.inl ⟨4, by omega, rfl, (Option.some.inj h).symm⟩)
 | 6 => exact .inr (.inl ⟨5, by omega, rfl, (Option.some.inj h).symm⟩)
 | 7 => exact .inr (.inl ⟨6, by omega, rfl, (Option.some.inj h).symm⟩)
 | 8 => exact .inr (.inl ⟨7, by omega, rfl, (Option.some.inj h).symm⟩)
 | 9 => exact .inr (.inl ⟨8, by omega, rfl, (Option.some.inj h).symm⟩)
 | 10 => exact .inr (.inl ⟨9, by omega, rfl, (Option.some.inj h).symm⟩)
 | 11 => exact .inr (.inl ⟨10, by omega, rfl, (Option.some.inj h).symm⟩)
 | 12 => exact .inr (.inl ⟨11, by omega, rfl, (Option.some.inj h).symm⟩)
 | 13 => exact .inr (.inl ⟨12, by omega, rfl, (Option.some.inj h).symm⟩)
 | 14 => exact .inr (.inl ⟨13, by omega, rfl, (Option.some.inj h).symm⟩)
 | 15 => exact .inr (.inr (.inl ⟨rfl, (Option.some.inj h).symm⟩))
 | 16 => cases h
 | 17 => exact .inr (.inr (.inr (.inl ⟨rfl, (Option.some.inj h).symm⟩)))
 | 18 => exact .inr (.inr (.inr (.inr ⟨rfl, (Option.some.inj h).symm⟩)))
 | n + 19 =>
  have h' : (machT.mapv (instB (mSig c u a f t))).get (n + 19) = some b := h
  rw [Trie.get_map, machT_get _ (by omega)] at h'
  cases h'
def Mach.c' (m : Mach) : Sig := if m.t = m.u.v 7 then cpuS m.c m.rr m.t else m.c
def Mach.u' (m : Mach) : Sig := ulaS m.u m.fl m.e
def Mach.a' (m : Mach) : Sig := ayS m.a m.l
def Mach.f' (m : Mach) : Sig := fdcS m.f
abbrev EvN := Int × Int × Int × Int × Int × Int
def EvN.vals (x : EvN) : List Value := [.int .i64 x.1, .int .i64 x.2.1, .int .i64 x.2.2.1, .int .i64 x.2.2.2.1, .int .i64 x.2.2.2.2.1, .int .i64 x.2.2.2.2.2]
def Mach.evC (m : Mach) : List EvN := if m.t = m.u.v 7 then [(m.t, 1, m.c.v 31, 1, m.A, m.B)] else []
def Mach.evU (m : Mach) : List EvN := match m.e with | none => [] | some x => [(m.u.v 7, 2, m.u.v 8, x.1, x.2.1, x.2.2)]
def Mach.evs (m : Mach) : List EvN := m.evC ++ m.evU
def EvsM (v : Value) (w : World) (lo : Nat) (l : List EvN) : Prop := (l = [] ∧ v = .slice none 0 0) ∨ ∃ (ad : Addr) (c : Nat), v = .slice (some ad) l.length c ∧ l.length ≤ c ∧ lo ≤ ad.block ∧ ∀ (j : Nat) u, (l.flatMap EvN.vals)[j]? = some u → w.cell? (ad.add j) = some u
end Go.Sim
end
section
set_option maxRecDepth 1000000
namespace Go.Sim
attribute [local instance] noRO
open Go.Proofs.Tryz
theorem mach_live {c u a f c' u' a' f' : Sig} {t t' : Int} {i : Nat} {b : ABlk} (h : (machine c u a f t).get i = some b) : ∃ b', (machine c' u' a' f' t').get i = some b' := by
 have h' : (machT.mapv (instB (mSig c u a f t))).get i = some b := h
 rw [Trie.get_map] at h'
 obtain ⟨s, hs, _⟩ := Option.map_eq_some_iff.1 h'
 refine ⟨instB (mSig c' u' a' f' t') s, ?_⟩
 show (machT.mapv (instB (mSig c' u' a' f' t'))).get i = _
 rw [Trie.get_map, hs]; rfl
theorem cpu_some (σ : Sig) {j : Nat} (hj : j < 14) : (instH σ cpuH).get j = some (blkAt (instH σ cpuH) j) := by
 have hl : j < (cpuP (u8v 17) (.sb (.v 29)) (i64v 30) (i64v 31) :: cpuR).length := hj
 obtain ⟨b, hb⟩ : ∃ b, (instH σ cpuH).get j = some b := by
  rw [cpuH_get, List.getElem?_eq_getElem hl]; exact ⟨_, rfl⟩
 rw [blkAt_of hb, hb]
theorem mach_sc {c u a f : Sig} {t : Int} (hc : cpuV.fit c) (hu : ulaV.fit u) (ha : ayV.fit a) (hf : fdcV.fit f) {i : Nat} {b : ABlk} (h : (machine c u a f t).get i = some b) : i < 20 ∧ ScB 20 b ∧ b.wr = true := by
 rcases mach_cases h with ⟨rfl, rfl⟩ | ⟨j, hj, rfl, rfl⟩ | ⟨rfl, rfl⟩ | ⟨rfl, rfl⟩ | ⟨rfl, rfl⟩
 ·exact ⟨by omega, ⟨show 1 < 20 by omega, show 15 < 20 by omega, show 17 < 20 by omega, show 18 < 20 by omega, trivial, trivial⟩, rfl⟩
 ·have hb := cpu_some c hj
  obtain ⟨r, g, he, _⟩ := (cpu_canon hc).rows j _ hb
  exact ⟨by omega, canon_sc (cpu_canon hc) hb (show 14 + 1 ≤ 20 by omega), by rw [ABlk.ren_wr, he]; rfl⟩
 ·have hb := one0 u 2 (ulaP (u8v 9) (i64v 7) (i64v 8))
  have hk := one_canon (n := 2) (r := ulaP (u8v 9) (i64v 7) (i64v 8)) hu (by omega) (by rfl)
  obtain ⟨r, g, he, _⟩ := hk.rows 0 _ hb
  exact ⟨by omega, canon_sc hk hb (show 2 + 15 ≤ 20 by omega), by rw [ABlk.ren_wr]; exact (congrArg ABlk.wr he).trans rfl⟩
 ·have hb := one0 a 1 (ayP (i64v 1) (i64v 2) (i64v 3) (i64v 4) (.sym .u32 (.v 5)) (i64v 6) (i64v 7))
  have hk := one_canon (n := 1) (r := ayP (i64v 1) (i64v 2) (i64v 3) (i64v 4) (.sym .u32 (.v 5)) (i64v 6) (i64v 7)) ha (by omega) (by rfl)
  obtain ⟨r, g, he, _⟩ := hk.rows 0 _ hb
  exact ⟨by omega, canon_sc hk hb (show 1 + 17 ≤ 20 by omega), by rw [ABlk.ren_wr]; exact (congrArg ABlk.wr he).trans rfl⟩
 ·have hb := one0 f 2 (fdcP (i64v 3))
  have hk := one_canon (n := 2) (r := fdcP (i64v 3)) hf (by omega) (by rfl)
  obtain ⟨r, g, he, _⟩ := hk.rows 0 _ hb
  exact ⟨by omega, canon_sc hk hb (show 2 + 18 ≤ 20 by omega), by rw [ABlk.ren_wr]; exact (congrArg ABlk.wr he).trans rfl⟩
theorem tup2_inv {ρ : Ren} {a b : AVal} {v : Value} (h : VR ρ (.tup [a, b]) v) : ∃ x y, v = .tuple #[x, y] ∧ VR ρ a x ∧ VR ρ b y := by
 cases h with
 | tup hs hx =>
  rename_i cs
  have hs : cs.size = 2 := hs
  refine ⟨cs[0], cs[1], ?_, hx 0 a _ rfl (by simp [hs]), hx 1 b _ rfl (by simp [hs])⟩
  congr 1
  apply Array.ext
  ·simp [hs]
  ·intro i h1 h2
   have : i = 0 ∨ i = 1 := by omega
   rcases this with rfl | rfl <;> rfl
theorem slice_cells {ρ : Ren} {H : AHeap} {w : World} {j n m : Nat} {l : List AVal} {g : Nat} {v : Value} (hw : Rep ρ H w) (hg : H.get j = some (.cells (.lst l) g true)) (hv : VR ρ (.slice (some (j, 0)) n m) v) :
  ∃ (ad : Addr) (c : Nat), v = .slice (some ad) n c ∧ m ≤ c ∧ (∃ l0, ρ j = some l0 ∧ ad.block = l0.blk) ∧ ∀ (i : Nat) a u, l[i]? = some a → a.val1 = some u → w.cell? (ad.add i) = some u := by
 cases hv with
 | slice hl =>
  rename_i l0
  obtain ⟨cs, t, fr, h1, h2, h3, h4, h5, h6⟩ := WR.row hw hg hl
  refine ⟨_, _, rfl, by omega, ⟨l0, hl, rfl⟩, fun i a u ha hu => ?_⟩
  have hi : i < l.length := (List.getElem?_eq_some_iff.1 ha).1
  obtain ⟨a', u', g1, g2, g3, g4⟩ := h4 i (by simpa [Rope.size] using hi)
  have e1 : a' = a := by
   simp only [Rope.get] at g1
   rw [ha] at g1; exact (Option.some.inj g1).symm
  subst e1
  have e2 : w.cell? ((⟨l0.blk, l0.off + 0, none⟩ : Addr).add i) = cs[l0.off + i]? := by
   unfold Addr.add
   split
   ·rename_i h0; subst h0; simp [World.cell?, h1]
   ·simp [World.cell?, h1]
  rw [e2, g3, val1_sound hu g4]
end Go.Sim
end
section
set_option maxRecDepth 1000000
namespace Go.Sim
attribute [local instance] noRO
open Go.Proofs.Tryz
structure StepRun (m : Mach) (v : AVal) (H' : AHeap) : Prop where
 heap : ∀ i b, (machine m.c' m.u' m.a' m.f' (m.u.v 7 + 1)).get i = some b → H'.get i = some b
 evs : (m.evs = [] ∧ v = .slice none 0 0) ∨ ∃ j l g, 20 ≤ j ∧ v = .slice (some (j, 0)) m.evs.length m.evs.length ∧ H'.get j = some (.cells (.lst l) g true) ∧ valsL AVal.val1 l = some (m.evs.flatMap EvN.vals)
noncomputable def stepA (m : Mach) : CallF := acall (fun f => LP.ct.find f) m.ext LP.E 1000 100
theorem stepA_ok {m : Mach} (h : m.OK) : CallOK prog LP.E (stepA m) := acall_sound checked.mixed LP.envOK LP.codesOK (Mach.ext_ok h) 100
theorem opqS {m : Mach} {H : SHeap} (h0 : H.get 0 = some (.cells (.lst [.ptr (some (1, 0)), .ptr (some (15, 0)), .ptr (some (17, 0)), .ptr (some (18, 0)), .sym .i64 (i64b .add (.v 0) (litS 1))]) 0 true)) (hu : 0 ≤ m.u.v 7) (hb : m.u.v 7 < bigT)
  (h1 : opqAt H 1 (if m.t = m.u.v 7 then 20 else 0) = true) (hr : ((List.range 13).all fun i => opqAt H (i + 2) (i + 1)) = true) (h15 : opqAt H 15 21 = true) (h17 : opqAt H 17 22 = true) (h18 : opqAt H 18 23 = true) :
  ∀ i b, (machine m.c' m.u' m.a' m.f' (m.u.v 7 + 1)).get i = some b → (instH m.sig H).get i = some b := by
 intro i b hi
 rcases mach_cases hi with ⟨rfl, rfl⟩ | ⟨j, hj, rfl, rfl⟩ | ⟨rfl, rfl⟩ | ⟨rfl, rfl⟩ | ⟨rfl, rfl⟩
 ·rw [hget_inst h0]
  simp only [instB, instR, instL, SVal.inst, Sx.ev, i64b, litS, lockR]
  have : m.sig.v 0 = m.u.v 7 := rfl
  rw [this, add1 hu hb]
 ·by_cases h0 : j = 0
  ·subst h0
   rw [opqAt_inst h1]
   unfold Mach.c'
   by_cases ht : m.t = m.u.v 7
   ·rw [if_pos ht, if_pos ht]; rfl
   ·rw [if_neg ht, if_neg ht]; rfl
  ·obtain ⟨k, rfl⟩ : ∃ k, j = k + 1 := ⟨j - 1, by omega⟩
   have := List.all_eq_true.1 hr k (List.mem_range.2 (by omega))
   rw [show k + 1 + 1 = k + 2 by omega, opqAt_inst this]
   have e1 : m.sig.b (k + 1) = (blkAt (instH m.c cpuH) (k + 1)).ren (· + 1) := if_pos hj
   rw [e1]
   unfold Mach.c'
   split
   ·have := cpuS_other m.c m.rr m.t (k + 1) (by omega)
    simp only [blkAt, this]
   ·rfl
 ·rw [opqAt_inst h15]; rfl
 ·rw [opqAt_inst h17]; rfl
 ·rw [opqAt_inst h18]; rfl
theorem step_run {m : Mach} (h : m.OK) (hb : m.u.v 7 < bigT) : ∃ v H', stepA m 44 [.ptr (some (0, 0))] (machine m.c m.u m.a m.f (m.u.v 7)) = some (.ret (.tup [v, .int .i64 0]) H') ∧ StepRun m v H' := by
 have hfit := Mach.fit h
 obtain ⟨F', r, hF', hr, hc⟩ : ∃ F' r, Facts.hold m.sig F' ∧ stepCall m.e.isSome F' 44 [.ptr (some (0, 0))] machH = .ok r ∧ stepChk m.e.isSome F' r = true := by
  cases e : m.e.isSome with
  | true => exact stree_sound hfit step_tree1 (fun _ h => by cases h)
  | false => exact stree_sound hfit step_tree0 (fun _ h => by cases h)
 have hrun := scall_ok (S := ⟨stepV, F', LP.E⟩) hfit hF' (C := fun f => LP.ct.find f) (X := stepXs) (sext := stepX m.e.isSome F') (ext := m.ext) (fun f hf l H => ext_other hf l H) (step_sub h hF') (lf := 1000) 100 _ _ _ _ hr
 have hu : 0 ≤ m.u.v 7 := (h.uV.1 7).1
 unfold stepChk at hc
 split at hc
 ·rename_i v H
  simp only [Bool.and_eq_true] at hc
  obtain ⟨⟨⟨⟨⟨⟨⟨c0, cr⟩, c15⟩, c16⟩, c17⟩, c18⟩, c19⟩, hc⟩ := hc
  have hl : H.get 0 = some (.cells (.lst [.ptr (some (1, 0)), .ptr (some (15, 0)), .ptr (some (17, 0)), .ptr (some (18, 0)), .sym .i64 (i64b .add (.v 0) (litS 1))]) 0 true) := by
   split at c0
   ·rename_i r0 hr0
    rw [hr0, sreq_sound c0]
   ·cases c0
  refine ⟨v.inst m.sig, instH m.sig H, hrun, ?_⟩
  have hx : ∀ x, m.e = some x → m.sig.v 7 = x.1 ∧ m.sig.v 8 = x.2.1 ∧ m.sig.v 9 = x.2.2 := by
   intro x e
   have hx : m.ev = x := by unfold Mach.ev; rw [e]
   exact ⟨by rw [← hx]; rfl, by rw [← hx]; rfl, by rw [← hx]; rfl⟩
  split at hc
  ·rename_i hd
   have ht := dec_sound hfit hF' hd
   simp only [Atom.holds, Bool.false_eq_true, if_false, decide_eq_true_eq] at ht
   have ht : m.t = m.u.v 7 := ht
   simp only [Bool.and_eq_true] at hc
   refine ⟨opqS hl hu hb (by rw [if_pos ht]; exact hc.1) cr c15 c17 c18, ?_⟩
   have hc := hc.2
   split at hc
   ·rename_i j n k _
    simp only [Bool.and_eq_true] at hc
    obtain ⟨⟨⟨g1, g2⟩, g3⟩, hc⟩ := hc
    have g2 := Nat.eq_of_beq_eq_true g2
    have g3 := Nat.eq_of_beq_eq_true g3
    simp only [Nat.blt_eq] at g1
    split at hc
    ·rename_i l g hg
     have hc := sleq_sound hc
     subst hc
     subst g2
     cases e : m.e with
     | none =>
      rw [e] at g3 hg
      have g3 : k = 1 := g3
      subst g3
      have hev : m.evs = [(m.t, 1, m.c.v 31, 1, m.A, m.B)] := by unfold Mach.evs Mach.evC Mach.evU; rw [if_pos ht, e]; rfl
      rw [hev]
      exact .inr ⟨j, _, g, by omega, rfl, hget_inst hg, rfl⟩
     | some x =>
      rw [e] at g3 hg
      have g3 : k = 2 := g3
      subst g3
      have hev : m.evs = [(m.t, 1, m.c.v 31, 1, m.A, m.B), (m.u.v 7, 2, m.u.v 8, x.1, x.2.1, x.2.2)] := by unfold Mach.evs Mach.evC Mach.evU; rw [if_pos ht, e]; rfl
      obtain ⟨x1, x2, x3⟩ := hx x e
      rw [hev, ← x1, ← x2, ← x3]
      exact .inr ⟨j, _, g, by omega, rfl, hget_inst hg, rfl⟩
    ·cases hc
   ·cases hc
  ·rename_i hd
   have ht := dec_sound hfit hF' hd
   simp only [Atom.holds, Bool.false_eq_true, if_false, decide_eq_false_iff_not] at ht
   have ht : ¬ m.t = m.u.v 7 := ht
   simp only [Bool.and_eq_true] at hc
   refine ⟨opqS hl hu hb (by rw [if_neg ht]; exact hc.1) cr c15 c17 c18, ?_⟩
   have hc := hc.2
   split at hc
   ·cases e : m.e with
    | none =>
     have hev : m.evs = [] := by unfold Mach.evs Mach.evC Mach.evU; rw [if_neg ht, e]; rfl
     exact .inl ⟨hev, rfl⟩
    | some x => rw [e] at hc; cases hc
   ·rename_i j n k _
    simp only [Bool.and_eq_true] at hc
    obtain ⟨⟨⟨⟨ge, g1⟩, g2⟩, g3⟩, hc⟩ := hc
    have g2 := Nat.eq_of_beq_eq_true g2
    have g3 := Nat.eq_of_beq_eq_true g3
    simp only [Nat.blt_eq] at g1
    split at hc
    ·rename_i l g hg
     have hc := sleq_sound hc
     subst hc
     subst g2
     subst g3
     cases e : m.e with
     | none => rw [e] at ge; cases ge
     | some x =>
      have hev : m.evs = [(m.u.v 7, 2, m.u.v 8, x.1, x.2.1, x.2.2)] := by unfold Mach.evs Mach.evC Mach.evU; rw [if_neg ht, e]; rfl
      obtain ⟨x1, x2, x3⟩ := hx x e
      rw [hev, ← x1, ← x2, ← x3]
      exact .inr ⟨j, _, g, by omega, rfl, hget_inst hg, rfl⟩
    ·cases hc
   ·cases hc
  ·cases hc
 ·cases hc
end Go.Sim
end
section
set_option maxRecDepth 1000000
namespace Go.Sim
attribute [local instance] noRO
open Go.Proofs.Tryz
theorem Mach.cfit {m : Mach} (h : m.OK) : cpuV.fit m.c' := by
 unfold Mach.c'
 split
 ·exact h.cr.fit
 ·exact h.cV
theorem valsL_get {f : AVal → Option Value} : ∀ {l : List AVal} {r : List Value}, valsL f l = some r → ∀ (i : Nat) u, r[i]? = some u → ∃ a, l[i]? = some a ∧ f a = some u
 | [], r, h, i, u, hu => by simp only [valsL, Option.some.injEq] at h; subst h; simp at hu
 | a :: l, r, h, i, u, hu => by
  simp only [valsL] at h
  split at h
  ·rename_i v r' h1 h2
   simp only [Option.some.injEq] at h; subst h
   cases i with
   | zero => simp only [List.getElem?_cons_zero, Option.some.injEq] at hu; subst hu; exact ⟨a, rfl, h1⟩
   | succ i => simpa using valsL_get h2 i u (by simpa using hu)
  ·cases h
theorem step_mem {m : Mach} (h : m.OK) (hb : m.u.v 7 < bigT) (ρ : Ren) (w : World) (l : Loc) (hl : ρ 0 = some l) (hw : Rep ρ (machine m.c m.u m.a m.f (m.u.v 7)) w) :
  Calls prog 44 #[.pointer (some ⟨l.blk, l.off, none⟩)] w fun x w' => ∃ v, x = .returned (.tuple #[v, .int .i64 0]) ∧ EvsM v w' w.heap.size m.evs ∧ Only (foot ρ (machine m.c m.u m.a m.f (m.u.v 7))) w w' ∧
   ∃ ρ', ρ.le ρ' ∧ Rep ρ' (machine m.c' m.u' m.a' m.f' (m.u.v 7 + 1)) w' := by
 obtain ⟨v, H', hrun, hs⟩ := step_run h hb
 have sc : ∀ i b, (machine m.c' m.u' m.a' m.f' (m.u.v 7 + 1)).get i = some b → i < 20 ∧ ScB 20 b ∧ b.wr = true := fun i b hi => mach_sc (Mach.cfit h) h.ur.fit h.ar.fit h.fr.fit hi
 refine (rep_call (stepA_ok h) (by rfl) hrun (LR.one (.ptr hl)) hw).mono fun x w' hp => ?_
 obtain ⟨ρ', v', hx, hv, hr', hle, hon, hfr⟩ := hp
 obtain ⟨y, z, rfl, hy, hz⟩ := tup2_inv hv
 have hz : z = .int .i64 0 := by cases hz; rfl
 subst hz
 refine ⟨y, hx, ?_, hon, cutρ ρ' 20, cutρ_ge hle hw.dom, WR.sub (H2 := machine m.c' m.u' m.a' m.f' (m.u.v 7 + 1)) hr' fun i b hi => ⟨hs.heap i b hi, (sc i b hi).1, (sc i b hi).2.1⟩⟩
 rcases hs.evs with ⟨he, rfl⟩ | ⟨j, cs, g, hj, rfl, hg, hvals⟩
 ·refine .inl ⟨he, ?_⟩
  cases hy; rfl
 ·obtain ⟨ad, c, rfl, hc, ⟨l0, hl0, hbl⟩, hcell⟩ := slice_cells hr' hg hy
  refine .inr ⟨ad, c, rfl, hc, ?_, fun i u hu => ?_⟩
  ·rw [hbl]
   rcases hfr l0.blk ⟨j, _, l0, hg, hl0, rfl⟩ with ⟨i, bi, li, f1, f2, f3⟩ | hf
   ·obtain ⟨b', hb'⟩ := mach_live (c' := m.c') (u' := m.u') (a' := m.a') (f' := m.f') (t' := m.u.v 7 + 1) f1
    obtain ⟨s1, _, s3⟩ := sc i b' hb'
    have := hr'.inj j i _ _ l0 li hg (hs.heap i b' hb') rfl s3 hl0 (hle _ _ f2) f3.symm
    omega
   ·exact hf
  ·obtain ⟨a, ha, hu'⟩ := valsL_get hvals i u hu
   exact hcell i a u ha hu'
end Go.Sim
end
section
set_option maxRecDepth 1000000
namespace Go.Sim
attribute [local instance] noRO
structure UlaGood (σ : Sig) : Prop where
 fit : ulaV.fit σ
 hold : scrF.hold σ
 seq : σ.v 8 ≤ σ.v 7
noncomputable def ulaStep (σ : Sig) : Int × Tell := open Classical in if h : ∃ p : Int × Tell, UlaRun σ p.1 p.2 then Classical.choose h else (0, none)
theorem ulaStep_run {σ : Sig} (h : UlaGood σ) (hb : σ.v 7 < bigT) : UlaRun σ (ulaStep σ).1 (ulaStep σ).2 := by
 obtain ⟨fl, e, hr⟩ := ula_run h.fit h.hold hb (Int.lt_of_le_of_lt h.seq hb)
 have hx : ∃ p : Int × Tell, UlaRun σ p.1 p.2 := ⟨(fl, e), hr⟩
 unfold ulaStep
 rw [dif_pos hx]
 exact Classical.choose_spec hx
noncomputable def ulaNx (σ : Sig) : Sig := ulaS σ (ulaStep σ).1 (ulaStep σ).2
def tellN (clock chip seq : Int) : Tell → List EvN
 | none => []
 | some x => [(clock, chip, seq, x.1, x.2.1, x.2.2)]
noncomputable def ulaEv (σ : Sig) : List EvN := tellN (σ.v 7) 2 (σ.v 8) (ulaStep σ).2
theorem ulaNx_good {σ : Sig} (h : UlaGood σ) (hb : σ.v 7 < bigT) : UlaGood (ulaNx σ) ∧ (ulaNx σ).v 7 = σ.v 7 + 1 := by
 have hr := ulaStep_run h hb
 refine ⟨⟨hr.fit, hr.hold, ?_⟩, rfl⟩
 show σ.v 8 + (ulaStep σ).2.n ≤ σ.v 7 + 1
 have hs := h.seq
 have : (ulaStep σ).2.n = 0 ∨ (ulaStep σ).2.n = 1 := by cases (ulaStep σ).2 <;> simp [Tell.n]
 omega
noncomputable def ulaHist : Nat → Sig → List EvN
 | 0, _ => []
 | n + 1, σ => ulaEv σ ++ ulaHist n (ulaNx σ)
structure CpuGood (σ : Sig) : Prop where
 fit : cpuV.fit σ
 hold : scrF.hold σ
 seq : σ.v 31 ≤ σ.v 30
noncomputable def cpuAct (σ : Sig) : Int × Int × Int × Int := open Classical in if h : ∃ p : Int × Int × Int × Int, CpuRun σ p.1 p.2.1 p.2.2.1 p.2.2.2 then Classical.choose h else (0, 0, 0, 0)
theorem cpuAct_run {σ : Sig} (h : CpuGood σ) (hb : σ.v 30 + 32 ≤ bigT) : CpuRun σ (cpuAct σ).1 (cpuAct σ).2.1 (cpuAct σ).2.2.1 (cpuAct σ).2.2.2 := by
 obtain ⟨t, A, B, rr, hr⟩ := cpu_run h.fit h.hold hb (by have := h.seq; simp only [bigT] at hb ⊢; omega)
 have hx : ∃ p : Int × Int × Int × Int, CpuRun σ p.1 p.2.1 p.2.2.1 p.2.2.2 := ⟨(t, A, B, rr), hr⟩
 unfold cpuAct
 rw [dif_pos hx]
 exact Classical.choose_spec hx
noncomputable def cpuTm (σ : Sig) : Int := (cpuAct σ).1
noncomputable def cpuNx (σ : Sig) : Sig := cpuS σ (cpuAct σ).2.2.2 (cpuAct σ).1
noncomputable def cpuEv (σ : Sig) : EvN := ((cpuAct σ).1, 1, σ.v 31, 1, (cpuAct σ).2.1, (cpuAct σ).2.2.1)
noncomputable def cpuHist (tq : Int) : Nat → Sig → List EvN
 | 0, _ => []
 | n + 1, σ => open Classical in if cpuTm σ < tq then cpuEv σ :: cpuHist tq n (cpuNx σ) else []
theorem cpuNx_good {σ : Sig} (h : CpuGood σ) (hb : σ.v 30 + 32 ≤ bigT) : CpuGood (cpuNx σ) ∧ (cpuNx σ).v 30 = cpuTm σ + 4 ∧ σ.v 30 ≤ cpuTm σ ∧ cpuTm σ ≤ σ.v 30 + 16 := by
 have hr := cpuAct_run h hb
 refine ⟨⟨hr.fit, hr.hold, ?_⟩, rfl, hr.lo, hr.hi⟩
 show σ.v 31 + 1 ≤ (cpuAct σ).1 + 4
 have := hr.lo
 have := h.seq
 omega
end Go.Sim
end
section
set_option maxRecDepth 1000000
namespace Go.Sim
attribute [local instance] noRO
open Go.Proofs.Tryz
def madeChk (r0 : SRope SVal) (_ : Facts) : SRes → Bool
 | .ret (.bool true) H => (match H.get 0 with
  | some (.cells r 0 true) => sreq r r0
  | _ => false)
 | _ => false
theorem ula_made0 : stree (fun F => scall0 ulaV F 112 [.ptr (some (0, 0))] ulaH) (madeChk (ulaP (u8v 9) (i64v 7) (i64v 8))) ulaV 60 [] = true := by kernel_rfl
theorem ay_made0 : stree (fun F => scall0 ayV F 114 [.ptr (some (0, 0))] ayH) (madeChk (ayP (i64v 1) (i64v 2) (i64v 3) (i64v 4) (.sym .u32 (.v 5)) (i64v 6) (i64v 7))) ayV 60 [] = true := by kernel_rfl
theorem fdc_made0 : stree (fun F => scall0 fdcV F 116 [.ptr (some (0, 0))] fdcH) (madeChk (fdcP (i64v 3))) fdcV 60 [] = true := by kernel_rfl
theorem one_made {f : FuncId} (hf : LP.E.isF f = true) {V : Vars} {σ : Sig} {n : Nat} {r : SRope SVal} (hV : V.fit σ) (hn : 0 < n) (hsc : scSR n V.o r = true) (ht : stree (fun F => scall0 V F f [.ptr (some (0, 0))] (oneS n r)) (madeChk r) V 60 [] = true) (ρ : Ren) (w : World) (l : Loc) (hl : ρ 0 = some l) (hw : Rep ρ (instH σ (oneS n r)) w) :
  Calls prog f #[.pointer (some ⟨l.blk, l.off, none⟩)] w fun x w' => x = .returned (.bool true) ∧ Only (foot ρ (instH σ (oneS n r))) w w' ∧ ∃ ρ', ρ.le ρ' ∧ Rep ρ' (instH σ (oneS n r)) w' := by
 obtain ⟨F', r', hF', hr, hc⟩ := stree_sound hV ht (fun _ h => by cases h)
 have hrun := scall0_ok hV hF' _ _ _ _ hr
 unfold madeChk at hc
 split at hc
 ·rename_i H
  split at hc
  ·rename_i r1 hb
   have := sreq_sound hc
   subst this
   refine (rep_call acall0_ok hf hrun (LR.one (.ptr hl)) hw).mono fun x w' hp => ?_
   obtain ⟨ρ', v', hx, hv, hr', hle, hon, hfr⟩ := hp
   cases hv
   refine ⟨hx, hon, cutρ ρ' n, cutρ_ge hle hw.dom, ?_⟩
   refine WR.sub (H2 := instH σ (oneS n r1)) hr' fun i b hi => ?_
   rw [oneS_get] at hi
   split at hi
   ·rename_i h0
    subst h0
    simp only [Option.some.injEq] at hi
    subst hi
    exact ⟨hget_inst hb, hn, scSR_sound hV _ hsc⟩
   ·cases hi
  ·cases hc
 ·cases hc
theorem ula_made {σ : Sig} (hV : ulaV.fit σ) (ρ : Ren) (w : World) (l : Loc) (hl : ρ 0 = some l) (hw : Rep ρ (instH σ ulaH) w) :
  Calls prog 112 #[.pointer (some ⟨l.blk, l.off, none⟩)] w fun x w' => x = .returned (.bool true) ∧ Only (foot ρ (instH σ ulaH)) w w' ∧ ∃ ρ', ρ.le ρ' ∧ Rep ρ' (instH σ ulaH) w' :=
 one_made (n := 2) (by rfl) hV (by omega) (by rfl) ula_made0 ρ w l hl hw
theorem ay_made {σ : Sig} (hV : ayV.fit σ) (ρ : Ren) (w : World) (l : Loc) (hl : ρ 0 = some l) (hw : Rep ρ (instH σ ayH) w) :
  Calls prog 114 #[.pointer (some ⟨l.blk, l.off, none⟩)] w fun x w' => x = .returned (.bool true) ∧ Only (foot ρ (instH σ ayH)) w w' ∧ ∃ ρ', ρ.le ρ' ∧ Rep ρ' (instH σ ayH) w' :=
 one_made (n := 1) (by rfl) hV (by omega) (by rfl) ay_made0 ρ w l hl hw
theorem fdc_made {σ : Sig} (hV : fdcV.fit σ) (ρ : Ren) (w : World) (l : Loc) (hl : ρ 0 = some l) (hw : Rep ρ (instH σ fdcH) w) :
  Calls prog 116 #[.pointer (some ⟨l.blk, l.off, none⟩)] w fun x w' => x = .returned (.bool true) ∧ Only (foot ρ (instH σ fdcH)) w w' ∧ ∃ ρ', ρ.le ρ' ∧ Rep ρ' (instH σ fdcH) w' :=
 one_made (n := 2) (by rfl) hV (by omega) (by rfl) fdc_made0 ρ w l hl hw
end Go.Sim
end
section
namespace Go.Sim
attribute [local instance] noRO
open Go.Proofs Go.RowKit Go.Proofs.YtdppeaciahdekaaGreatW.PrintWords Go.Proofs.YtdppeaciahdekaaGreatW.PrintLast Go.Proofs.YtdppeaciahdekaaGreatW.PrintMore
theorem rep_cell {ρ : Ren} {H : AHeap} {w : World} (hw : Rep ρ H w) {i : Nat} {r : Rope AVal} {g : Nat} (hg : H.get i = some (.cells r g true)) {l : Loc} (hl : ρ i = some l) {k : Nat} {a : AVal} {u : Value} (ha : r.get k = some a) (hk : k < r.size) (hu : a.val1 = some u) : w.cell? ⟨l.blk, l.off + k, none⟩ = some u := by
 obtain ⟨cs, t, fr, h1, h2, h3, h4, h5, h6⟩ := WR.row hw hg hl
 obtain ⟨a', u', g1, g2, g3, g4⟩ := h4 k hk
 rw [ha] at g1
 cases g1
 have e : w.cell? ⟨l.blk, l.off + k, none⟩ = some u' := by simp [World.cell?, h1, g3]
 rw [e, val1_sound hu g4]
theorem fdc_clock {σ : Sig} {ρ : Ren} {w : World} {l : Loc} (hl : ρ 0 = some l) (hw : Rep ρ (instH σ fdcH) w) : w.cell? ⟨l.blk, l.off + 19, none⟩ = some (.int .i64 (σ.v 3)) :=
 rep_cell hw (i := 0) (r := instR σ (fdcP (i64v 3))) (g := 0) (hget_inst (b := .cells (fdcP (i64v 3)) 0 true) rfl) hl (k := 19) (a := .int .i64 (σ.v 3)) rfl (show 19 < 21 by omega) rfl
theorem foot_one {ρ : Ren} {σ : Sig} {n : Nat} {r : SRope SVal} {l : Loc} (hl : ρ 0 = some l) (b : Nat) : foot ρ (instH σ (oneS n r)) b ↔ b = l.blk := by
 constructor
 ·rintro ⟨i, bi, l', h1, h2, rfl⟩
  rw [oneS_get] at h1
  split at h1
  ·rename_i h0; subst h0; rw [hl] at h2; cases h2; rfl
  ·cases h1
 ·rintro rfl
  exact ⟨0, _, l, by rw [oneS_get]; rfl, hl, rfl⟩
theorem only_one {ρ ρ' : Ren} {σ σ' : Sig} {n : Nat} {r : SRope SVal} {l : Loc} (hl : ρ 0 = some l) (hl' : ρ' 0 = some l) {w w1 w2 : World} (h : Only (foot ρ (instH σ (oneS n r))) w w1) (h' : Only (foot ρ' (instH σ' (oneS n r))) w1 w2) : Only (foot ρ (instH σ (oneS n r))) w w2 :=
 h.trans h' fun b _ hb => (foot_one hl b).2 ((foot_one hl' b).1 hb)
set_option maxHeartbeats 8000000 in
set_option maxRecDepth 100000 in
theorem fdc_run_calls (k : Nat) {σ : Sig} (hV : fdcV.fit σ) (tt : Int) (hk : tt - σ.v 3 ≤ k) (hto : tt ≤ 3000) (ρ : Ren) (w : World) (l : Loc) (hl : ρ 0 = some l) (hw : Rep ρ (instH σ fdcH) w) :
  Calls Tryz.prog 57 #[.pointer (some ⟨l.blk, l.off, none⟩), .int .i64 tt] w fun e w' => e = .returned (.slice none 0 0) ∧ Only (foot ρ (instH σ fdcH)) w w' := by
 have HW := Aside0.mk hw
 clear hw
 go_enter Tryz.func57, Tryz.ntmps57
 go_wp2
 go_loopg [5] k (fun kq v5 w' => ∃ (σ' : Sig) (ρ' : Ren), v5 = .slice none 0 0 ∧ fdcV.fit σ' ∧ ρ.le ρ' ∧ Aside0 (Rep ρ' (instH σ' fdcH) w') ∧ Aside0 (Only (foot ρ (instH σ fdcH)) w w') ∧ Aside0 (tt - σ'.v 3 ≤ kq))
 case atStart => exact ⟨σ, ρ, rfl, hV, ρ.le_refl, HW, ⟨Only.refl _ _⟩, ⟨hk⟩⟩
 case round =>
  obtain ⟨σ', ρ', rfl, hV', hle, HR, HO, HK⟩ := hrel
  have hl' := hle 0 l hl
  by_cases hc : σ'.v 3 < tt
  ·have hc0 : decide (σ'.v 3 < tt) = true := decide_eq_true hc
   go_wp2_with (first | (go_at_call 116; refine (fdc_made hV' ρ' _ l hl' HR.out).mono ?_; rintro e w1 ⟨rfl, ho1, ρ1, hle1, hr1⟩; have hcell := fdc_clock (hle1 0 l hl') hr1; have HR1 := Aside0.mk hr1; clear hr1))
   have hr := fdc_run hV' (by simp only [bigT]; omega)
   refine (hr.tick ρ1 _ l (hle1 0 l hl') HR1.out).mono ?_
   rintro e w2 ⟨rfl, ho2, ρ2, hle2, hr2⟩
   have HR2 := Aside0.mk hr2
   clear hr2
   go_wp2
   cases gk with
   | zero => exact absurd HK.out (by omega)
   | succ k1 =>
    go_roundg k1
    case measure => omega
    case rel =>
     have e3 : (fdcS σ').v 3 = σ'.v 3 + 1 := rfl
     have hk2 := HK.out
     exact ⟨fdcS σ', ρ2, rfl, hr.fit, Ren.le_trans hle (Ren.le_trans hle1 hle2), HR2, ⟨only_one (n := 2) hl (hle1 0 l hl') (only_one (n := 2) hl hl' HO.out ho1) ho2⟩, ⟨by rw [e3]; omega⟩⟩
  ·have hc0 : decide (σ'.v 3 < tt) = false := decide_eq_false hc
   go_wp2_with (first | (go_at_call 116; refine (fdc_made hV' ρ' _ l hl' HR.out).mono ?_; rintro e w1 ⟨rfl, ho1, ρ1, hle1, hr1⟩; have hcell := fdc_clock (hle1 0 l hl') hr1; have HR1 := Aside0.mk hr1; clear hr1))
   go_ret
   exact ⟨rfl, only_one (n := 2) hl hl' HO.out ho1⟩
end Go.Sim
end
section
namespace Go.Sim
attribute [local instance] noRO
open Go.Proofs Go.RowKit Go.Proofs.YtdppeaciahdekaaGreatW.PrintWords Go.Proofs.YtdppeaciahdekaaGreatW.PrintLast Go.Proofs.YtdppeaciahdekaaGreatW.PrintMore
open Go.Proofs.YtdppeaciahdekaaGreat.PLockParts
def EvN.s (x : EvN) : S160 := ⟨x.1, x.2.1, x.2.2.1, x.2.2.2.1, x.2.2.2.2.1, x.2.2.2.2.2⟩
theorem vals_get : ∀ (l : List EvN) (j i : Nat) (x : EvN), l[j]? = some x → i < 6 → (l.flatMap EvN.vals)[j * 6 + i]? = x.vals[i]?
 | [], j, i, x, h, _ => by simp at h
 | y :: l, 0, i, x, h, hi => by
  simp only [List.getElem?_cons_zero, Option.some.injEq] at h
  subst h
  have : y.vals.length = 6 := rfl
  rw [List.flatMap_cons, List.getElem?_append_left (by omega), Nat.zero_mul, Nat.zero_add]
 | y :: l, j + 1, i, x, h, hi => by
  have hy : y.vals.length = 6 := rfl
  have := vals_get l j i x (by simpa using h) hi
  rw [List.flatMap_cons, List.getElem?_append_right (by omega), hy, show (j + 1) * 6 + i - 6 = j * 6 + i by omega]
  exact this
theorem evs_reads {v : Value} {w : World} {lo : Nat} {l : List EvN} (hl : l.length ≤ 9223372036854775807) (h : EvsM v w lo l) : ∃ A c, v = .slice A (l.map EvN.s).length c ∧ ReadsRow (k160.K w) 6 w A (l.map EvN.s).length (l.map EvN.s) := by
 rcases h with ⟨rfl, rfl⟩ | ⟨ad, c, rfl, hc, hlo, hcell⟩
 ·exact ⟨none, 0, rfl, rfl, by simp, fun h => absurd h (by simp)⟩
 ·refine ⟨some ad, c, by rw [List.length_map], rfl, by rw [List.length_map]; exact hl, fun _ => ⟨ad, rfl, fun j p hj => ?_⟩⟩
  rw [List.getElem?_map] at hj
  obtain ⟨x, hx, rfl⟩ := Option.map_eq_some_iff.1 hj
  refine ⟨x.vals, rfl, k160_mk w x.s, fun i u hu => ?_⟩
  have hi : i < 6 := (List.getElem?_eq_some_iff.1 hu).1
  exact hcell (j * 6 + i) u (by rw [vals_get l j i x hx hi]; exact hu)
theorem EvM.evs {v : Value} {w : World} {lo : Nat} {clock chip seq : Int} {e : Tell} (h : EvM v w lo clock chip seq e) : EvsM v w lo (tellN clock chip seq e) := by
 cases e with
 | none => exact .inl ⟨rfl, h⟩
 | some x =>
  obtain ⟨ad, c, rfl, h1, h2⟩ := h
  exact .inr ⟨ad, c + 1, rfl, by simp [tellN], h1, fun j u hu => h2 j u (by simpa [tellN, EvN.vals, evVals] using hu)⟩
theorem Only.of_below {S : Nat → Prop} {w w' : World} (h : Below w.heap.size w w') : Only S w w' := ⟨fun b hb _ => h.block b hb, ⟨h.size, h.os, h.output, h.tape⟩⟩
theorem Only.below {S : Nat → Prop} {w w' : World} (h : Only S w w') {B : Nat} (hB : B ≤ w.heap.size) (hS : ∀ b, S b → B ≤ b) : Below B w w' :=
 ⟨h.grew.os, h.grew.tape, h.grew.out, h.grew.size, fun k hk => h.keep k (by omega) fun hs => by have := hS k hs; omega⟩
theorem Only.of_grown {w w' : World} {row : Option Nat} (h : w.grownBy w' row) : Only (fun b => some b = row) w w' := ⟨fun b hb hn => h.block b hb hn, ⟨h.size, h.os, h.output, h.tape⟩⟩
theorem Only.drewN {S : Nat → Prop} {w w' : World} (h : Only S w w') (n : Nat) : Only S w (w'.drewN n) := ⟨h.keep, ⟨h.grew.size, h.grew.os, h.grew.out, h.grew.tape⟩⟩
theorem R_only {α : Type} {d : Go.Proofs.YtdppeaciahdekaaGreatW.PrintWords.Kd α} {e : Nat} {w w1 : World} {base : Nat} {ok : Nat → Prop} {v : Value} {xs : List α} {S : Nat → Prop} (h : d.R e w base ok v xs) (ho : Only S w w1) (hS : ∀ k, ok k → ¬ S k) : d.R e w1 base ok v xs :=
 Kd.R_step h fun k hk hlt => ho.keep k hlt (hS k hk)
theorem rep_grown {ρ : Ren} {H : AHeap} {w w' : World} {row : Option Nat} (h : Rep ρ H w) (hg : w.grownBy w' row) (hn : ∀ b, foot ρ H b → some b ≠ row) : Rep ρ H w' :=
 h.other fun b hb => hg.block b (h.lt hb) (hn b hb)
theorem rep_below {ρ : Ren} {H : AHeap} {w w' : World} (h : Rep ρ H w) (hb : Below w.heap.size w w') : Rep ρ H w' :=
 h.other fun b hf => hb.block b (h.lt hf)
theorem run_loadVar_sub {P : Program} {w : World} {g : Nat} {t : TypeId} (ty : TypeId) {cs : Array Value} {fr : Nat × Nat} {d : TypeDesc} (pre seg post : List Value) (hg : w.heap[g]? = some (.cells cs t fr)) (hcs : cs = (pre ++ (seg ++ post)).toArray)
  (hu : P.underlying ty = some d) (hd : (match d with | .struct _ | .array _ _ => true | _ => false) = true) (hi : (P.info? ty).map (·.size) = some seg.length) :
  (loadVar ty ⟨g, pre.length, none⟩).run P w = .ok (.agg seg.toArray) w := by
 have hl : (loadCells ⟨g, pre.length, none⟩ seg.length).run P w = .ok seg.toArray w :=
  run_loadCells_list (P := P) w ⟨g, pre.length, none⟩ seg (fun j v hv => by
   have hadd : (⟨g, pre.length, none⟩ : Addr).add j = ⟨g, pre.length + j, none⟩ := by unfold Addr.add; split <;> simp_all
   have hj := (List.getElem?_eq_some_iff.1 hv).1
   rw [hadd, cell_of_row w g (pre.length + j) cs t fr hg, hcs, List.getElem?_toArray, List.getElem?_append_right (by omega), Nat.add_sub_cancel_left, List.getElem?_append_left hj]
   exact hv)
 cases hq : P.info? ty with
 | none => simp [hq] at hi
 | some i =>
  have hs : i.size = seg.length := by simpa [hq] using hi
  have hagg : (isAgg ty).run P w = .ok true w := by
   unfold isAgg
   rw [Sem.run_bind, run_underlying hu w]
   cases d <;> simp_all
  simp [loadVar, Sem.run_bind, hagg, sizeOf, typeInfo, hq, hs, hl]
theorem wpList_load_sub {P : Program} {ops : Array Oper} {rest : List Oper} {o : Oper} {a : Act} {w : World} {Q : Exit → Act → World → Prop} (hgd : o.guard = none) (ty : TypeId) (x : Operand) (ho : o.op = .load ty x) (ad : Addr) (v : Value)
  (hx : a.eval x = .pointer (some ad)) (hl : (loadVar ty ad).run P w = .ok v w) (h : wpList P ops Q rest (a.put o.dst v) w) : wpList P ops Q (o :: rest) a w :=
 wpList_plain hgd fun K hK => by
  unfold Oper.wp execOp
  simp only [ho, hx, Instr.loadAt, Instr.sureAddr, Sem.run_bind, Sem.run_pure, Result.andThen_ok, hl]
  exact hK _ _ h
end Go.Sim
end
section
namespace Go.Sim
attribute [local instance] noRO
open Go.Proofs Go.RowKit Go.Proofs.YtdppeaciahdekaaGreatW.PrintWords Go.Proofs.YtdppeaciahdekaaGreatW.PrintLast Go.Proofs.YtdppeaciahdekaaGreatW.PrintMore
open Go.Proofs.YtdppeaciahdekaaGreat.PLockParts
theorem eql_nil {t e : TypeId} (hu : Tryz.prog.underlying t = some (.slice e)) (ad : Addr) (n c : Nat) (w : World) : (binOp .eql t (.slice (some ad) n c) (.slice none 0 0)).run Tryz.prog w = .ok (.bool false) w := by
 have h : (Op.equalIn Op.maxDepth t (.slice (some ad) n c) (.slice none 0 0)).run Tryz.prog w = .ok false w := eqIn_slice' (P := Tryz.prog) (w := w) 9999 hu ad n c 0 0
 show (do pure (Value.bool (← Op.equal t (.slice (some ad) n c) (.slice none 0 0)))).run Tryz.prog w = _
 simp only [Sem.run_bind]
 unfold Op.equal
 rw [h]; rfl
theorem eql_nil0 {t e : TypeId} (hu : Tryz.prog.underlying t = some (.slice e)) (w : World) : (binOp .eql t (.slice none 0 0) (.slice none 0 0)).run Tryz.prog w = .ok (.bool true) w := by
 have h : (Op.equalIn Op.maxDepth t (.slice none 0 0) (.slice none 0 0)).run Tryz.prog w = .ok true w := eqIn_slice (P := Tryz.prog) (w := w) 9999 hu none 0 0 0 0
 show (do pure (Value.bool (← Op.equal t (.slice none 0 0) (.slice none 0 0)))).run Tryz.prog w = _
 simp only [Sem.run_bind]
 unfold Op.equal
 rw [h]; rfl
theorem R_empty {α : Type} (d : Go.Proofs.YtdppeaciahdekaaGreatW.PrintWords.Kd α) (e : Nat) (w : World) {B : Nat} (hB : B ≤ w.heap.size) : d.R e (w.alloc (.cells #[] e)) B (fun _ => True) (.slice (some ⟨w.heap.size, 0, none⟩) 0 0) [] :=
 ⟨fun _ _ => trivial, [], ⟨by simp, .inr ⟨w.heap.size, 0, #[], rfl, hB, heap_alloc_new w _, Nat.le_refl _, Nat.zero_le _, by simp, by simp⟩⟩, Reps.none _ _⟩
set_option maxHeartbeats 8000000 in
set_option maxRecDepth 100000 in
theorem clone_nil (w : World) : Calls Tryz.prog 105 #[.slice none 0 0] w fun e w' => e = .returned (.slice none 0 0) ∧ Below w.heap.size w w' := by
 have hq := eql_nil0 Tryz.underlying34 w
 go_enter Tryz.func105, Tryz.ntmps105
 go_wp2
 go_ret
 exact ⟨rfl, Below.refl _ _⟩
theorem info184' : (Tryz.prog.info? 184).map (fun i => (i.zero, i.size, i.bytes)) = some (some (.agg #[(.int .i64 0), (.int .i64 0), (.int .i64 0), (.bool false)]), 4, 32) := by kernel_rfl
set_option maxHeartbeats 8000000 in
set_option maxRecDepth 100000 in
theorem clone_touches (ad : Addr) (c : Nat) (ts : List S184) (w : World) (hr : Kd.C k184 w (some ad) ts.length ts) (hl : ts.length ≤ 1000000) :
  Calls Tryz.prog 105 #[.slice (some ad) ts.length c] w fun e w' => ∃ g c', e = .returned (.slice (some ⟨g, 0, none⟩) ts.length c') ∧ ts.length ≤ c' ∧ Below w.heap.size w w' := by
 have HR := Aside0.mk hr
 have HL := Aside0.mk hl
 clear hr hl
 have hq := eql_nil Tryz.underlying34 ad ts.length c w
 go_enter Tryz.func105, Tryz.ntmps105
 go_wp2_with (first | ((with_reducible refine gate_builtin (b := .append) (xs := #[.tmp 5, .tmp 6]) rfl ?_); at_builtin; refine Kd.R_append_rows k184 (Rr := k184.K w) (w0 := _) w.heap.size rfl (.tmp 5) (.tmp 6) 34 184 (.agg #[(.int .i64 0), (.int .i64 0), (.int .i64 0), (.bool false)]) 32 rfl Tryz.underlying34 info184' rfl (by decide) (by omega) (.slice (some ⟨w.heap.size, 0, none⟩) 0 0) [] ts (some ad) ts.length c (fun _ => True) (fun _ => False) rfl rfl (R_empty k184 184 w (Nat.le_refl _)) (Kd.C_below HR.out (below_alloc (Below.refl _ _) _)) ?aM (fun _ hk => hk.elim) (fun _ _ => trivial) (below_alloc (Below.refl _ _) _) (by simp) ?aL ?_; (case aM => intro x cs hx; have hx2 := k184_open hx; subst hx2; exact k184_mkM _ _ _ x); (case aL => have h1 := HL.out; simp; omega); intro v1 w3 hown3 hb3 hg3 hat3; have HO3 := Aside0.mk hown3; have HB3 := Aside0.mk hb3; have HAT := Aside0.mk hat3; clear hown3 hb3 hg3 hat3))
 go_ret
 obtain ⟨inner, ho⟩ := Kd.R_own HO3.out
 have hob : ∃ b, v1.ownBlock = some b := by
  rcases HAT.out with h | ⟨b, h, _⟩
  ·exact ⟨_, h⟩
  ·exact ⟨b, h⟩
 obtain ⟨b, hob⟩ := hob
 rcases ho.2 with ⟨rfl, _⟩ | ⟨g, cap, cur, rfl, _, _, hn, _⟩
 ·simp [Value.ownBlock] at hob
 ·exact ⟨g, cap, rfl, hn, HB3.out⟩
end Go.Sim
end
