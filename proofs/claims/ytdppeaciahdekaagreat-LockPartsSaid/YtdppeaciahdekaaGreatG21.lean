/- A part of the proof that LockParts returns true for every input. No condition. -/
import Derived.Test.YtdppeaciahdekaaGreatG20
import Derived.Test.YtdppeaciahdekaaGreatG06
set_option linter.all false
section
namespace Go.Sim
attribute [local instance] noRO
open Go.Proofs Go.RowKit Go.Proofs.YtdppeaciahdekaaGreatW.PrintWords Go.Proofs.YtdppeaciahdekaaGreatW.PrintLast Go.Proofs.YtdppeaciahdekaaGreatW.PrintMore
open Go.Proofs.YtdppeaciahdekaaGreat.PLockParts
abbrev KD := Go.Proofs.YtdppeaciahdekaaGreatW.PrintWords.Kd
def kraw (n : Nat) : KD (List Value) where
 sz := n
 E := []
 K _ x cs := cs = x ∧ cs.length = n ∧ ∀ u ∈ cs, u.oneCell' = true
 M _ _ _ x cs := cs = x ∧ cs.length = n ∧ ∀ u ∈ cs, u.oneCell' = true
 K_len h := h.2.1
 K_one h := h.2.2
 K_below _ h := h
 K_of_M h := h
 M_mono _ h := h
 M_bound h := h
 M_move _ h := h
 M_lower _ h := h
theorem row_raw {α : Type} (d : KD α) {w : World} {A : Option Addr} {n : Nat} {xs : List α} (h : Kd.C d w A n xs) :
  ∃ ys : List (List Value), ReadsRow ((kraw d.sz).K w) d.sz w A n ys ∧ ∀ (j : Nat) (x : α), xs[j]? = some x → ∃ y, ys[j]? = some y ∧ y.length = d.sz ∧ d.K w x y := by
 obtain ⟨h1, h2, h3⟩ := h
 rcases Nat.eq_zero_or_pos n with hn | hn
 ·refine ⟨[], ⟨by simpa using hn.symm, h2, fun h => by omega⟩, fun j x hj => ?_⟩
  have := (List.getElem?_eq_some_iff.1 hj).1
  omega
 ·obtain ⟨ad, e, hc⟩ := h3 hn
  have hx : ∀ j : Fin xs.length, ∃ c, c.length = d.sz ∧ d.K w xs[j] c ∧ ∀ i u, c[i]? = some u → w.cell? (ad.add (j * d.sz + i)) = some u := fun j => hc j _ (List.getElem?_eq_getElem j.2)
  let f := fun j => Classical.choose (hx j)
  have hf : ∀ j, (f j).length = d.sz ∧ d.K w xs[j] (f j) ∧ ∀ i u, (f j)[i]? = some u → w.cell? (ad.add (j * d.sz + i)) = some u := fun j => Classical.choose_spec (hx j)
  have hy : ∀ j p, (List.ofFn f)[j]? = some p → ∃ h : j < xs.length, p = f ⟨j, h⟩ := by
   intro j p hj
   obtain ⟨hl, rfl⟩ := List.getElem?_eq_some_iff.1 hj
   rw [List.length_ofFn] at hl
   exact ⟨hl, by rw [List.getElem_ofFn]⟩
  refine ⟨List.ofFn f, ⟨by rw [List.length_ofFn]; exact h1, h2, fun _ => ⟨ad, e, fun j p hj => ?_⟩⟩, fun j x hj => ?_⟩
  ·obtain ⟨hl, rfl⟩ := hy j p hj
   have := hf ⟨j, hl⟩
   exact ⟨_, this.1, ⟨rfl, this.1, d.K_one this.2.1⟩, this.2.2⟩
  ·obtain ⟨hl, rfl⟩ := List.getElem?_eq_some_iff.1 hj
   refine ⟨f ⟨j, hl⟩, by simp [hl], (hf ⟨j, hl⟩).1, (hf ⟨j, hl⟩).2.1⟩
theorem eql_nil1 {t e : TypeId} (hu : Tryz.prog.underlying t = some (.slice e)) (n c : Nat) (w : World) : (binOp .eql t (.slice none n c) (.slice none 0 0)).run Tryz.prog w = .ok (.bool true) w := by
 have h : (Op.equalIn Op.maxDepth t (.slice none n c) (.slice none 0 0)).run Tryz.prog w = .ok true w := eqIn_slice (P := Tryz.prog) (w := w) 9999 hu none n c 0 0
 show (do pure (Value.bool (← Op.equal t (.slice none n c) (.slice none 0 0)))).run Tryz.prog w = _
 simp only [Sem.run_bind]
 unfold Op.equal
 rw [h]; rfl
def Cloned (e : TypeId) (sz : Nat) (w : World) (ys : List (List Value)) (v : Value) (w' : World) : Prop :=
 ∃ g c' cur, v = .slice (some ⟨g, 0, none⟩) ys.length c' ∧ ys.length ≤ c' ∧ w.heap.size ≤ g ∧ w'.heap[g]? = some (.cells cur e (0, 0)) ∧ cur.size = c' * sz ∧ ∀ j y i u, ys[j]? = some y → y[i]? = some u → cur[j * sz + i]? = some u
theorem cloned_of {e : TypeId} {sz B : Nat} {w w' : World} {ys : List (List Value)} {v : Value} {ok : Nat → Prop} (hB : w.heap.size ≤ B) (h : Kd.R (kraw sz) e w' B ok v ys) (hs : ∃ b, v.ownBlock = some b) : Cloned e sz w ys v w' := by
 obtain ⟨_, inner, ho, hr⟩ := h
 rcases ho.2 with ⟨rfl, _⟩ | ⟨g, cap, cur, rfl, hg, hh, hn, _, hc, ht⟩
 ·obtain ⟨b, hb⟩ := hs
  simp [Value.ownBlock] at hb
 ·refine ⟨g, cap, cur, rfl, hn, Nat.le_trans hB hg, hh, hc, fun j y i u hj hi => ?_⟩
  obtain ⟨h1, h2, _⟩ := hr.2 j y hj
  have hi2 : ((inner.drop (j * sz)).take sz)[i]? = some u := by
   have : (inner.drop (j * (kraw sz).sz)).take (kraw sz).sz = y := h1
   rw [show (kraw sz).sz = sz from rfl] at this
   rw [this]; exact hi
  have hil : i < sz := by
   rcases Nat.lt_or_ge i sz with h | h
   ·exact h
   ·rw [List.getElem?_eq_none (by rw [List.length_take]; omega)] at hi2; cases hi2
  rw [List.getElem?_take_of_lt hil, List.getElem?_drop, ← ht] at hi2
  have hlt : j * sz + i < ys.length * (kraw sz).sz := by
   have hj1 := (List.getElem?_eq_some_iff.1 hj).1
   have : (j + 1) * sz ≤ ys.length * sz := Nat.mul_le_mul_right _ hj1
   rw [Nat.succ_mul] at this
   show j * sz + i < ys.length * sz
   omega
  rw [List.getElem?_take_of_lt hlt, Array.getElem?_toList] at hi2
  exact hi2
theorem info218' : (Tryz.prog.info? 218).map (fun i => (i.zero, i.size, i.bytes)) = some (some (.agg #[(.int .u8 0), (.int .u8 0), (.int .u8 0), (.int .u8 0), (.int .u8 0), (.int .u8 0), .slice none 0 0]), 7, 32) := by kernel_rfl
theorem info5'' : (Tryz.prog.info? 5).map (fun i => (i.zero, i.size, i.bytes)) = some (some (.int .u8 0), 1, 1) := by kernel_rfl
set_option maxHeartbeats 8000000 in
set_option maxRecDepth 100000 in
theorem clone_nil165 (n c : Nat) (w : World) : Calls Tryz.prog 165 #[.slice none n c] w fun e w' => e = .returned (.slice none 0 0) ∧ Below w.heap.size w w' := by
 have hq := eql_nil1 Tryz.underlying216 n c w
 go_enter Tryz.func165, Tryz.ntmps165
 go_wp2
 go_ret
 exact ⟨rfl, Below.refl _ _⟩
set_option maxHeartbeats 8000000 in
set_option maxRecDepth 100000 in
theorem clone_nil166 (n c : Nat) (w : World) : Calls Tryz.prog 166 #[.slice none n c] w fun e w' => e = .returned (.slice none 0 0) ∧ Below w.heap.size w w' := by
 have hq := eql_nil1 Tryz.underlying124 n c w
 go_enter Tryz.func166, Tryz.ntmps166
 go_wp2
 go_ret
 exact ⟨rfl, Below.refl _ _⟩
set_option maxHeartbeats 8000000 in
set_option maxRecDepth 100000 in
theorem clone_sectors (ad : Addr) (n c : Nat) (ys : List (List Value)) (w : World) (hr : ReadsRow ((kraw 7).K w) 7 w (some ad) n ys) (hl : n ≤ 1000000) :
  Calls Tryz.prog 165 #[.slice (some ad) n c] w fun e w' => ∃ v, e = .returned v ∧ Cloned 218 7 w ys v w' ∧ Below w.heap.size w w' := by
 have HR := Aside0.mk hr
 have HL := Aside0.mk hl
 clear hr hl
 have hq := eql_nil Tryz.underlying216 ad n c w
 go_enter Tryz.func165, Tryz.ntmps165
 go_wp2_with (first | ((with_reducible refine gate_builtin (b := .append) (xs := #[.tmp 5, .tmp 6]) rfl ?_); at_builtin; refine Kd.R_append_rows (kraw 7) (Rr := (kraw 7).K w) (w0 := _) w.heap.size rfl (.tmp 5) (.tmp 6) 216 218 (.agg #[(.int .u8 0), (.int .u8 0), (.int .u8 0), (.int .u8 0), (.int .u8 0), (.int .u8 0), .slice none 0 0]) 32 rfl Tryz.underlying216 info218' rfl (by decide) (by omega) (.slice (some ⟨w.heap.size, 0, none⟩) 0 0) [] ys (some ad) n c (fun _ => True) (fun _ => False) rfl rfl (R_empty (kraw 7) 218 w (Nat.le_refl _)) (Kd.C_below (d := kraw 7) HR.out (below_alloc (Below.refl _ _) _)) (fun x cs hx => hx) (fun _ hk => hk.elim) (fun _ _ => trivial) (below_alloc (Below.refl _ _) _) (by simp) ?aL ?_; (case aL => have h1 := HL.out; simp; omega); intro v1 w3 hown3 hb3 hg3 hat3; have HO3 := Aside0.mk hown3; have HB3 := Aside0.mk hb3; have HAT := Aside0.mk hat3; clear hown3 hb3 hg3 hat3))
 go_ret
 refine ⟨v1, rfl, ?_, HB3.out⟩
 refine cloned_of (Nat.le_refl _) HO3.out ?_
 rcases HAT.out with h | ⟨b, h, _⟩
 ·exact ⟨_, h⟩
 ·exact ⟨b, h⟩
set_option maxHeartbeats 8000000 in
set_option maxRecDepth 100000 in
theorem clone_bytes (ad : Addr) (n c : Nat) (ys : List (List Value)) (w : World) (hr : ReadsRow ((kraw 1).K w) 1 w (some ad) n ys) (hl : n ≤ 1000000) :
  Calls Tryz.prog 166 #[.slice (some ad) n c] w fun e w' => ∃ v, e = .returned v ∧ Cloned 5 1 w ys v w' ∧ Below w.heap.size w w' := by
 have HR := Aside0.mk hr
 have HL := Aside0.mk hl
 clear hr hl
 have hq := eql_nil Tryz.underlying124 ad n c w
 go_enter Tryz.func166, Tryz.ntmps166
 go_wp2_with (first | ((with_reducible refine gate_builtin (b := .append) (xs := #[.tmp 5, .tmp 6]) rfl ?_); at_builtin; refine Kd.R_append_rows (kraw 1) (Rr := (kraw 1).K w) (w0 := _) w.heap.size rfl (.tmp 5) (.tmp 6) 124 5 (.int .u8 0) 1 rfl Tryz.underlying124 info5'' rfl (by decide) (by omega) (.slice (some ⟨w.heap.size, 0, none⟩) 0 0) [] ys (some ad) n c (fun _ => True) (fun _ => False) rfl rfl (R_empty (kraw 1) 5 w (Nat.le_refl _)) (Kd.C_below (d := kraw 1) HR.out (below_alloc (Below.refl _ _) _)) (fun x cs hx => hx) (fun _ hk => hk.elim) (fun _ _ => trivial) (below_alloc (Below.refl _ _) _) (by simp) ?aL ?_; (case aL => have h1 := HL.out; simp; omega); intro v1 w3 hown3 hb3 hg3 hat3; have HO3 := Aside0.mk hown3; have HB3 := Aside0.mk hb3; have HAT := Aside0.mk hat3; clear hown3 hb3 hg3 hat3))
 go_ret
 refine ⟨v1, rfl, ?_, HB3.out⟩
 refine cloned_of (Nat.le_refl _) HO3.out ?_
 rcases HAT.out with h | ⟨b, h, _⟩
 ·exact ⟨_, h⟩
 ·exact ⟨b, h⟩
theorem clone_any (A : Option Addr) (c : Nat) (bs : List Int) (w : World) (hr : Kd.C (Go.Proofs.YtdppeaciahdekaaGreatW.PrintWords.Kd.int .u8) w A bs.length bs) (hl : bs.length ≤ 1000000) :
  Calls Tryz.prog 166 #[.slice A bs.length c] w fun e w' => ∃ A' n' c', e = .returned (.slice A' n' c') ∧ Below w.heap.size w w' := by
 cases A with
 | none => exact (clone_nil166 _ c w).mono fun e w' ⟨h, hb⟩ => ⟨_, _, _, h, hb⟩
 | some ad =>
  obtain ⟨ys, h1, h2⟩ := row_raw _ hr
  exact (clone_bytes ad _ c ys w h1 hl).mono fun e w' ⟨v, h, ⟨g, c', cur, hv, _⟩, hb⟩ => ⟨_, _, _, h.trans (congrArg _ hv), hb⟩
end Go.Sim
end
section
set_option maxRecDepth 1000000
namespace Go.Sim
open Go.Proofs.Tryz
variable [RO]
def flatC : ACode → List ACode
 | .seq a b => flatC a ++ flatC b
 | c => [c]
def bodyOf : ACode → ACode
 | .loop a => a
 | .blk _ a => bodyOf a
 | c => c
theorem frag {V : Vars} {σ : Sig} (hV : V.fit σ) {sc : Facts → SCallF} {call : CallF} (hcall : CallOK prog LP.E call) (hsub : ∀ F, Facts.hold σ F → CallSub σ (sc F) call) {ac : ACode} {n lf k : Nat} {T0 : STmps} {H0 : SHeap} {chk : Facts → SX × SSt → Bool} {F0 : Facts}
  (ht : stree (fun F => sexec (sc F) ⟨V, F, LP.E⟩ n lf ac ⟨T0, H0, []⟩) chk V k F0 = true) (hF : F0.hold σ) {c : Code} (hc : codeOK prog LP.E c ac = true)
  {K : Nat → Prop} {ρ : Ren} {w : World} {a : Act} (hw : WR K ρ (instH σ H0) w) (hT : TR ρ (instT σ T0) a.tmps) (hn : a.tmps.size = n) (hd : a.defers = []) :
  ∃ F x s', Facts.hold σ F ∧ chk F (x, s') = true ∧ c.wp prog (CodePost LP.E n K ρ w (instX σ x) (instS σ s')) a w := by
 obtain ⟨F, ⟨x, s'⟩, hF', hr, hck⟩ := stree_sound hV ht hF
 have hrun := sexec_ok (S := ⟨V, F, LP.E⟩) hV hF' (hsub F hF') hr
 exact ⟨F, x, s', hF', hck, aexec_sound checked.mixed LP.envOK hcall ac c _ _ _ ρ a w hc hrun (Post.refl hw) hT hn (by rw [hd]; exact .nil)⟩
theorem arr_lit (a : Array Value) {n : Nat} (h : a.size = n) : a = ((List.range n).map (fun i => a.getD i Go.undef)).toArray := by
 apply Array.ext'
 apply List.ext_getElem?
 intro i
 rw [List.toList_toArray, List.getElem?_map, Array.getElem?_toList]
 by_cases hi : i < n
 ·rw [List.getElem?_range hi]
  have : i < a.size := by omega
  simp [this]
 ·rw [List.getElem?_eq_none (by simpa using hi), Array.getElem?_eq_none (by omega)]; rfl
theorem loop_inv {P : Program} {body : Code} {Q : Exit → Act → World → Prop} (I : Nat → Act → World → Prop) (hI : ∀ m a w, I m a w → body.wp P (Exit.then (fun a' w' => ∃ m', m = m' + 1 ∧ I m' a' w') Q) a w) {N : Nat} {a : Act} {w : World} (h : I N a w) : (Code.loop body).wp P Q a w := by
 refine wp_loop_rounds (N + 1) ?_
 induction N generalizing a w with
 | zero =>
  rw [rounds_succ]
  refine Code.wp_mono ?_ (hI 0 a w h)
  intro e a' w' hq
  cases e with
  | normal => obtain ⟨m', h, _⟩ := hq; omega
  | _ => exact hq
 | succ n ih =>
  rw [rounds_succ]
  refine Code.wp_mono ?_ (hI (n + 1) a w h)
  intro e a' w' hq
  cases e with
  | normal =>
   obtain ⟨m', h, h2⟩ := hq
   have : m' = n := by omega
   subst this
   exact ih h2
  | _ => exact hq
end Go.Sim
end
section
set_option maxRecDepth 1000000
namespace Go.Sim
attribute [local instance] noRO
open Go.Proofs.Tryz
structure MS where
 c : Sig
 u : Sig
 a : Sig
 f : Sig
noncomputable def ayL (σ : Sig) : List (Nat × Int) := open Classical in if h : ∃ l, AyRun σ l then Classical.choose h else []
theorem ayL_run {σ : Sig} (hV : ayV.fit σ) (h1 : σ.v 1 < bigT) : AyRun σ (ayL σ) := by
 have hx := ay_run hV h1
 unfold ayL
 rw [dif_pos hx]
 exact Classical.choose_spec hx
structure MS.Good (s : MS) : Prop where
 c : CpuGood s.c
 u : UlaGood s.u
 a : ayV.fit s.a
 f : fdcV.fit s.f
 at1 : s.a.v 1 = s.u.v 7
 at3 : s.f.v 3 = s.u.v 7
 near : s.c.v 30 ≤ s.u.v 7 + 4
 next : s.u.v 7 ≤ cpuTm s.c
noncomputable def MS.mach (s : MS) : Mach := ⟨s.c, s.u, s.a, s.f, cpuTm s.c, (cpuAct s.c).2.1, (cpuAct s.c).2.2.1, (cpuAct s.c).2.2.2, (ulaStep s.u).1, (ulaStep s.u).2, ayL s.a⟩
noncomputable def MS.nx (s : MS) : MS := ⟨s.mach.c', s.mach.u', s.mach.a', s.mach.f'⟩
theorem MS.nx_c (s : MS) : s.nx.c = if cpuTm s.c = s.u.v 7 then cpuNx s.c else s.c := rfl
theorem MS.nx_u (s : MS) : s.nx.u = ulaNx s.u := rfl
theorem MS.Good.ok {s : MS} (h : s.Good) (hb : s.u.v 7 ≤ 3000) : s.mach.OK := by
 have hn := h.near
 have h1 := h.at1
 have h3 := h.at3
 have hb30 : s.c.v 30 + 32 ≤ bigT := by simp only [bigT]; omega
 have hc := cpuAct_run h.c hb30
 have hg := (cpuNx_good h.c hb30).2
 have h0 : (0 : Int) ≤ s.c.v 30 := (h.c.fit.1 30).1
 have hu := ulaStep_run (σ := s.u) h.u (by simp only [bigT]; omega)
 have ha := ayL_run (σ := s.a) h.a (by simp only [bigT]; omega)
 have hf := fdc_run (σ := s.f) h.f (by simp only [bigT]; omega)
 exact ⟨h.c.fit, h.u.fit, h.a, h.f, hc, hu, ha, hf, by
  show cpuTm s.c ≤ bigT
  have e : bigT = 16777216 := rfl
  omega, by show 0 ≤ cpuTm s.c; omega⟩
theorem MS.Good.nx {s : MS} (h : s.Good) (hb : s.u.v 7 ≤ 3000) : s.nx.Good ∧ s.nx.u.v 7 = s.u.v 7 + 1 := by
 have hok := h.ok hb
 have hn := h.near
 have hb30 : s.c.v 30 + 32 ≤ bigT := by simp only [bigT]; omega
 have hc := cpuNx_good h.c hb30
 have hu := ulaNx_good h.u (by simp only [bigT]; omega)
 have eu : s.nx.u.v 7 = s.u.v 7 + 1 := hu.2
 refine ⟨⟨?_, hu.1, hok.ar.fit, hok.fr.fit, ?_, ?_, ?_, ?_⟩, eu⟩
 ·rw [s.nx_c]; split
  ·exact hc.1
  ·exact h.c
 ·rw [eu]
  have e1 : (ayS s.a (ayL s.a)).v 1 = s.a.v 1 + 1 := hok.ar.v1
  show (ayS s.a (ayL s.a)).v 1 = _
  rw [e1, h.at1]
 ·rw [eu]; show (fdcS s.f).v 3 = _
  have : (fdcS s.f).v 3 = s.f.v 3 + 1 := rfl
  rw [this, h.at3]
 ·rw [eu, s.nx_c]; split
  ·rename_i e; rw [hc.2.1, e]; omega
  ·omega
 ·rw [eu, s.nx_c]; split
  ·rename_i e
   have hb2 : (cpuNx s.c).v 30 + 32 ≤ bigT := by rw [hc.2.1, e]; simp only [bigT]; omega
   have := (cpuNx_good hc.1 hb2).2.2.1
   rw [hc.2.1] at this; omega
  ·rename_i e
   have := h.next
   omega
noncomputable def lockHist : Nat → MS → List EvN
 | 0, _ => []
 | n + 1, s => s.mach.evs ++ lockHist n s.nx
theorem evs_len (s : MS) : s.mach.evs.length ≤ 2 := by
 have h1 : s.mach.evC.length ≤ 1 := by unfold Mach.evC; split <;> simp
 have h2 : s.mach.evU.length ≤ 1 := by unfold Mach.evU; split <;> simp
 unfold Mach.evs
 rw [List.length_append]; omega
theorem lockHist_len : ∀ (n : Nat) (s : MS), (lockHist n s).length ≤ 2 * n
 | 0, _ => Nat.le_refl _
 | n + 1, s => by
  have h1 := lockHist_len n s.nx
  have h2 := evs_len s
  simp only [lockHist, List.length_append]; omega
end Go.Sim
end
section
namespace Go.Sim
attribute [local instance] noRO
open Go.Proofs Go.RowKit Go.Proofs.YtdppeaciahdekaaGreatW.PrintWords Go.Proofs.YtdppeaciahdekaaGreatW.PrintLast Go.Proofs.YtdppeaciahdekaaGreatW.PrintMore
open Go.Proofs.YtdppeaciahdekaaGreat.PLockParts
theorem foot_mach {c u a f c' u' a' f' : Sig} {t t' : Int} {ρ ρ' : Ren} {w : World} (hw : Rep ρ (machine c u a f t) w) (hle : ρ.le ρ') {b : Nat} (h : foot ρ' (machine c' u' a' f' t') b) : foot ρ (machine c u a f t) b := by
 obtain ⟨i, bi, l, h1, h2, h3⟩ := h
 obtain ⟨b', hb'⟩ := mach_live (c' := c) (u' := u) (a' := a) (f' := f) (t' := t) h1
 obtain ⟨l', o, g1, g2, g3, g4⟩ := hw.live i b' hb'
 have := hle _ _ g1
 rw [h2] at this; cases this
 exact ⟨i, b', l, hb', g1, h3⟩
theorem mach0 (c u a f : Sig) (t : Int) : (machine c u a f t).get 0 = some (.cells (lockR t) 0 true) := rfl
theorem lock_clock {c u a f : Sig} {t : Int} {ρ : Ren} {w : World} {l : Loc} (hl : ρ 0 = some l) (hw : Rep ρ (machine c u a f t) w) : w.cell? ⟨l.blk, l.off + 4, none⟩ = some (.int .i64 t) :=
 rep_cell hw (mach0 c u a f t) hl (k := 4) (a := .int .i64 t) rfl (show 4 < 5 by omega) rfl
theorem lock_cpu {c u a f : Sig} {t : Int} {ρ : Ren} {w : World} {l : Loc} (hl : ρ 0 = some l) (hw : Rep ρ (machine c u a f t) w) : ∃ ad : Addr, w.cell? ⟨l.blk, l.off, none⟩ = some (.pointer (some ad)) := by
 obtain ⟨cs, t, fr, h1, h2, h3, h4, h5, h6⟩ := WR.row hw (mach0 c u a f t) hl
 obtain ⟨a', u', g1, g2, g3, g4⟩ := h4 0 (show 0 < 5 by omega)
 cases g1
 cases g4 with
 | ptr h => exact ⟨_, by simpa [World.cell?, h1] using g3⟩
set_option maxHeartbeats 8000000 in
set_option maxRecDepth 100000 in
theorem lock_run_calls (k : Nat) {s : MS} (hG : s.Good) (tt : Int) (hk : tt - s.u.v 7 ≤ k) (hto : tt ≤ 3000) (ρ : Ren) (w : World) (l : Loc) (hl : ρ 0 = some l) (hw : Rep ρ (machine s.c s.u s.a s.f (s.u.v 7)) w) :
  Calls Tryz.prog 42 #[.pointer (some ⟨l.blk, l.off, none⟩), .int .i64 tt] w fun e w' => ∃ v, e = .returned (.tuple #[v, .int .i64 0]) ∧ Kd.R k160 160 w' w.heap.size (fun _ => True) v ((lockHist (tt - s.u.v 7).toNat s).map EvN.s) ∧ Only (foot ρ (machine s.c s.u s.a s.f (s.u.v 7))) w w' := by
 obtain ⟨ad, hcp⟩ := lock_cpu hl hw
 have HW := Aside0.mk hw
 clear hw
 have hbase0 : (0 : Int) ≤ s.u.v 7 := (hG.u.fit.1 7).1
 have hmax : decide (tt > 1099511627776) = false := decide_eq_false (by omega)
 go_enter Tryz.func42, Tryz.ntmps42
 go_wp2
 go_loopg [6] k (fun kq v6 w' => ∃ (s' : MS) (ρ' : Ren) (acc : List S160), s'.Good ∧ ρ.le ρ' ∧ Aside0 (Rep ρ' (machine s'.c s'.u s'.a s'.f (s'.u.v 7)) w') ∧ Aside0 (Only (foot ρ (machine s.c s.u s.a s.f (s.u.v 7))) w w') ∧ Aside0 (tt - s'.u.v 7 ≤ kq) ∧ Aside0 (Kd.R k160 160 w' w.heap.size (fun b => ¬ foot ρ (machine s.c s.u s.a s.f (s.u.v 7)) b) v6 acc) ∧ Aside0 (acc ++ (lockHist (tt - s'.u.v 7).toNat s').map EvN.s = (lockHist (tt - s.u.v 7).toNat s).map EvN.s))
 case atStart => exact ⟨s, ρ, [], hG, ρ.le_refl, HW, ⟨Only.refl _ _⟩, ⟨hk⟩, ⟨Kd.R_nil _ _ _ _ _⟩, ⟨rfl⟩⟩
 case round =>
  obtain ⟨s', ρ', acc, hG', hle, HR, HO, HK, HA, HE⟩ := hrel
  have hl' := hle 0 l hl
  have hclk := lock_clock hl' HR.out
  by_cases hc : s'.u.v 7 < tt
  ·have hc0 : decide (s'.u.v 7 < tt) = true := decide_eq_true hc
   have hb : s'.u.v 7 ≤ 3000 := by omega
   have hok := hG'.ok hb
   have hnx := hG'.nx hb
   have hlen : s'.mach.evs.length ≤ 9223372036854775807 := Nat.le_trans (evs_len s') (by omega)
   go_wp2_with (first | (go_at_call 44; refine (step_mem hok (by simp only [bigT]; show s'.u.v 7 < _; omega) ρ' _ l hl' HR.out).mono ?_))
   rintro e w2 ⟨v, rfl, hev, ho2, ρ2, hle2, hr2⟩
   have HR2 : Aside0 (Rep ρ2 (machine s'.nx.c s'.nx.u s'.nx.a s'.nx.f (s'.nx.u.v 7)) w2) := ⟨by rw [hnx.2]; exact hr2⟩
   clear hr2
   obtain ⟨A, c, hv, hrow⟩ := evs_reads hlen hev
   have hlm : (s'.mach.evs.map EvN.s).length ≤ 2 := by rw [List.length_map]; exact evs_len s'
   obtain ⟨ys, hys⟩ : ∃ ys, ys = s'.mach.evs.map EvN.s := ⟨_, rfl⟩
   rw [← hys] at hv hrow hlm
   subst hv
   have hla : acc.length ≤ 6000 := by
    have h1 := congrArg List.length HE.out
    have h2 := lockHist_len (tt - s.u.v 7).toNat s
    simp only [List.length_append, List.length_map] at h1
    omega
   have ho3 : Only (foot ρ (machine s.c s.u s.a s.f (s.u.v 7))) wr w2 := ⟨fun b hb hn => ho2.keep b hb fun hs => hn (foot_mach HW.out hle hs), ho2.grew⟩
   have HYS := Aside0.mk hys
   have HROW := Aside0.mk hrow
   have HLA := Aside0.mk hla
   have HLM := Aside0.mk hlm
   clear hla hlm hys hrow hev
   have HA2 := Aside0.mk (R_only HA.out ho3 (fun k hk hs => hk hs))
   have HSZ := Aside0.mk (Nat.le_trans HO.out.grew.size ho3.grew.size)
   go_wp2_with (first | ((with_reducible refine gate_builtin (b := .append) (xs := #[.tmp 25, .tmp 26]) rfl ?_); at_builtin; refine Kd.R_append_rows k160 (Rr := k160.K w2) (w0 := w2) w.heap.size rfl (.tmp 25) (.tmp 26) 72 160 (.agg #[(.int .i64 0), (.int .i64 0), (.int .i64 0), (.int .i64 0), (.int .i64 0), (.int .i64 0)]) 48 rfl Tryz.underlying72 info160 rfl (by decide) (by omega) u6 acc ys A ys.length c (fun b => ¬ foot ρ (machine s.c s.u s.a s.f (s.u.v 7)) b) (fun _ => False) rfl rfl HA2.out HROW.out ?aM (fun _ hk => hk.elim) ?aF (Below.refl _ _) HSZ.out ?aL ?_; (case aM => intro x cs hx; have hx2 := k160_open hx; subst hx2; exact k160_mkM _ _ _ x); (case aF => intro k hk he; have h1 := HW.out.lt he; have h2 := HSZ.out; omega); (case aL => have h1 := HLA.out; have h2 := HLM.out; omega); intro v1 w3 hown3 hb3 hg3 hat3; have HA3 := Aside0.mk hown3; have HG3 := Aside0.mk hg3; clear hown3 hb3 hat3 hg3))
   cases gk with
   | zero => exact absurd HK.out (by omega)
   | succ k1 =>
    go_roundg k1
    case measure => omega
    case rel =>
     have e3 := hnx.2
     have hk2 := HK.out
     have hne : ∀ b, foot ρ2 (machine s'.nx.c s'.nx.u s'.nx.a s'.nx.f (s'.nx.u.v 7)) b → some b ≠ u6.ownBlock := fun b hb he => HA2.out.1 b he.symm (foot_mach HW.out (Ren.le_trans hle hle2) hb)
     refine ⟨s'.nx, ρ2, acc ++ ys, hnx.1, Ren.le_trans hle hle2, ⟨rep_grown HR2.out HG3.out hne⟩, ⟨(HO.out.trans ho3 fun _ _ h => h).trans (Only.of_grown HG3.out) ?_⟩, ⟨by rw [e3]; omega⟩, HA3, ⟨?_⟩⟩
     ·intro b hb he
      obtain ⟨inner, ho⟩ := Kd.R_own HA2.out
      have := own_base ho b he.symm
      omega
     ·rw [← HE.out, HYS.out, List.append_assoc]
      congr 1
      have en : (tt - s'.u.v 7).toNat = (tt - s'.nx.u.v 7).toNat + 1 := by
       rw [e3]; omega
      rw [en, lockHist, List.map_append]
  ·have hc0 : decide (s'.u.v 7 < tt) = false := decide_eq_false hc
   go_wp2
   go_ret2
   refine ⟨_, rfl, ?_, HO.out⟩
   have e0 : (tt - s'.u.v 7).toNat = 0 := by omega
   have hE := HE.out
   rw [e0, lockHist, List.map_nil, List.append_nil] at hE
   rw [← hE]
   exact Kd.R_mono HA.out fun _ _ => trivial
end Go.Sim
end
section
namespace Go.Sim
attribute [local instance] noRO
open Go.Proofs Go.RowKit Go.Proofs.YtdppeaciahdekaaGreatW.PrintWords Go.Proofs.YtdppeaciahdekaaGreatW.PrintLast Go.Proofs.YtdppeaciahdekaaGreatW.PrintMore
open Go.Proofs.YtdppeaciahdekaaGreat.PLockParts
theorem cpuHist_stable (tt : Int) (hto : tt ≤ 3000) : ∀ (n : Nat) (σ : Sig), CpuGood σ → σ.v 30 ≤ 4000 → (tt - σ.v 30).toNat ≤ n → cpuHist tt n σ = cpuHist tt (tt - σ.v 30).toNat σ
 | 0, σ, h, hb, hn => by
  have : (tt - σ.v 30).toNat = 0 := by omega
  rw [this]
 | n + 1, σ, h, hb, hn => by
  have hx := cpuNx_good h (by simp only [bigT]; omega)
  by_cases hlt : cpuTm σ < tt
  ·have hb2 : (cpuNx σ).v 30 ≤ 4000 := by omega
   obtain ⟨m, hm⟩ : ∃ m, (tt - σ.v 30).toNat = m + 1 := ⟨(tt - σ.v 30).toNat - 1, by omega⟩
   rw [hm]
   simp only [cpuHist, if_pos hlt]
   rw [cpuHist_stable tt hto n (cpuNx σ) hx.1 hb2 (by omega), cpuHist_stable tt hto m (cpuNx σ) hx.1 hb2 (by omega)]
  ·have e : cpuHist tt (n + 1) σ = [] := by simp only [cpuHist, if_neg hlt]
   rw [e]
   cases hm : (tt - σ.v 30).toNat with
   | zero => rfl
   | succ m => simp only [cpuHist, if_neg hlt]
noncomputable def cpuH0 (tt : Int) (σ : Sig) : List EvN := cpuHist tt (tt - σ.v 30).toNat σ
theorem cpuH0_none {tt : Int} {σ : Sig} (h : ¬ cpuTm σ < tt) : cpuH0 tt σ = [] := by
 unfold cpuH0
 cases hm : (tt - σ.v 30).toNat with
 | zero => rfl
 | succ m => simp only [cpuHist, if_neg h]
theorem cpuH0_some {tt : Int} (hto : tt ≤ 3000) {σ : Sig} (hG : CpuGood σ) (hb : σ.v 30 ≤ 4000) (h : cpuTm σ < tt) : cpuH0 tt σ = cpuEv σ :: cpuH0 tt (cpuNx σ) := by
 have hx := cpuNx_good hG (by simp only [bigT]; omega)
 unfold cpuH0
 obtain ⟨m, hm⟩ : ∃ m, (tt - σ.v 30).toNat = m + 1 := ⟨(tt - σ.v 30).toNat - 1, by omega⟩
 rw [hm]
 simp only [cpuHist, if_pos h]
 rw [cpuHist_stable tt hto m (cpuNx σ) hx.1 (by omega) (by omega)]
theorem cpuHist_len (tt : Int) : ∀ (n : Nat) (σ : Sig), (cpuHist tt n σ).length ≤ n
 | 0, _ => Nat.le_refl _
 | n + 1, σ => by
  simp only [cpuHist]
  split
  ·have := cpuHist_len tt n (cpuNx σ)
   simp only [List.length_cons]; omega
  ·simp
theorem foot_cpu {σ σ' : Sig} {ρ ρ' : Ren} {w : World} (hw : Rep ρ (instH σ cpuH) w) (hle : ρ.le ρ') {b : Nat} (h : foot ρ' (instH σ' cpuH) b) : foot ρ (instH σ cpuH) b := by
 obtain ⟨i, bi, l, h1, h2, h3⟩ := h
 have hi : i < 14 := by
  rw [cpuH_get] at h1
  obtain ⟨x, hx, _⟩ := Option.map_eq_some_iff.1 h1
  exact (List.getElem?_eq_some_iff.1 hx).1
 have hb' : ∃ b', (instH σ cpuH).get i = some b' := by
  rw [cpuH_get] at h1 ⊢
  obtain ⟨x, hx, _⟩ := Option.map_eq_some_iff.1 h1
  exact ⟨_, by rw [hx]; rfl⟩
 obtain ⟨b', hb'⟩ := hb'
 obtain ⟨l', o, g1, g2, g3, g4⟩ := hw.live i b' hb'
 have := hle _ _ g1
 rw [h2] at this; cases this
 exact ⟨i, b', l, hb', g1, h3⟩
set_option maxHeartbeats 8000000 in
set_option maxRecDepth 100000 in
theorem cpu_run_calls (k : Nat) {σ : Sig} (hG : CpuGood σ) (hb : σ.v 30 ≤ 4000) (tt : Int) (hk : tt - σ.v 30 ≤ k) (hto : tt ≤ 3000) (ρ : Ren) (w : World) (l : Loc) (hl : ρ 0 = some l) (hw : Rep ρ (instH σ cpuH) w) :
  Calls Tryz.prog 54 #[.pointer (some ⟨l.blk, l.off, none⟩), .int .i64 tt, .nilFunc] w fun e w' => ∃ v, e = .returned v ∧ Kd.R k160 160 w' w.heap.size (fun _ => True) v ((cpuH0 tt σ).map EvN.s) ∧ Only (foot ρ (instH σ cpuH)) w w' := by
 have HW := Aside0.mk hw
 clear hw
 go_enter Tryz.func54, Tryz.ntmps54
 go_wp2
 go_loopg [7] k (fun kq v7 w' => ∃ (σ' : Sig) (ρ' : Ren) (acc : List S160), CpuGood σ' ∧ σ'.v 30 ≤ 4000 ∧ ρ.le ρ' ∧ Aside0 (Rep ρ' (instH σ' cpuH) w') ∧ Aside0 (Only (foot ρ (instH σ cpuH)) w w') ∧ Aside0 (tt - σ'.v 30 ≤ kq) ∧ Aside0 (Kd.R k160 160 w' w.heap.size (fun b => ¬ foot ρ (instH σ cpuH) b) v7 acc) ∧ Aside0 (acc.length + (cpuH0 tt σ').length ≤ 3000) ∧ Aside0 (acc ++ (cpuH0 tt σ').map EvN.s = (cpuH0 tt σ).map EvN.s))
 case atStart => exact ⟨σ, ρ, [], hG, hb, ρ.le_refl, HW, ⟨Only.refl _ _⟩, ⟨hk⟩, ⟨Kd.R_nil _ _ _ _ _⟩, ⟨by
  have h1 := cpuHist_len tt (tt - σ.v 30).toNat σ
  have h2 : (0 : Int) ≤ σ.v 30 := (hG.fit.1 30).1
  unfold cpuH0
  simp only [List.length_nil]; omega⟩, ⟨rfl⟩⟩
 case round =>
  obtain ⟨σ', ρ', acc, hG', hb', hle, HR, HO, HK, HA, HN, HE⟩ := hrel
  have hl' := hle 0 l hl
  have hb30 : σ'.v 30 + 32 ≤ bigT := by simp only [bigT]; omega
  have hrun := cpuAct_run hG' hb30
  by_cases hc : cpuTm σ' < tt
  ·have hc0 : decide (cpuTm σ' ≥ tt) = false := decide_eq_false (by omega)
   go_wp2_with (first | (go_at_call 97; refine (hrun.nextAt hG'.fit ρ' _ l hl' HR.out).mono ?_; rintro e w1 ⟨rfl, ho1, ρ1, hle1, hr1⟩; have HR1 := Aside0.mk hr1; clear hr1; change decide ((cpuAct σ').1 ≥ tt) = false at hc0))
   refine (hrun.doAt 255 (.inr rfl) ρ1 _ l (hle1 0 l hl') (rep_below HR1.out (below_alloc (Below.refl _ _) _))).mono ?_
   rintro e w2 ⟨rfl, ho2, ρ2, hle2, hr2⟩
   have HR2 := Aside0.mk hr2
   clear hr2
   have ho3 : Only (foot ρ (instH σ cpuH)) wr w2 := by
    have h1 : Only (foot ρ (instH σ cpuH)) wr w1 := ⟨fun b hb hn => ho1.keep b hb fun hs => hn (foot_cpu HW.out hle hs), ho1.grew⟩
    have h2 : Only (foot ρ (instH σ cpuH)) w1 w2 := (Only.of_below (S := foot ρ (instH σ cpuH)) (below_alloc (Below.refl _ _) _)).trans ⟨fun b hb hn => ho2.keep b hb fun hs => hn (foot_cpu HW.out (Ren.le_trans hle hle1) hs), ho2.grew⟩ fun _ _ h => h
    exact h1.trans h2 fun _ _ h => h
   have hla : acc.length ≤ 2999 := by
    have h1 := HN.out
    rw [cpuH0_some hto hG' hb' hc, List.length_cons] at h1
    omega
   have HLA := Aside0.mk hla
   clear hla
   have HA2 := Aside0.mk (R_only HA.out ho3 (fun k hk hs => hk hs))
   have HSZ := Aside0.mk (Nat.le_trans HO.out.grew.size ho3.grew.size)
   go_wp2_with (first | ((with_reducible refine gate_builtin (b := .append) (xs := #[.tmp 48, .tmp 51]) rfl ?_); at_builtin; refine Kd.R_append k160 (w0 := _) w.heap.size rfl (.tmp 48) (.tmp 51) 72 160 (.agg #[(.int .i64 0), (.int .i64 0), (.int .i64 0), (.int .i64 0), (.int .i64 0), (.int .i64 0)]) 48 rfl Tryz.underlying72 info160 rfl (by decide) (by omega) u7 acc (cpuEv σ').s [.int .i64 (cpuAct σ').1, .int .i64 1, .int .i64 (σ'.v 31), .int .i64 1, .int .i64 (cpuAct σ').2.1, .int .i64 (cpuAct σ').2.2.1] (fun b => ¬ foot ρ (instH σ cpuH) b) (fun _ => False) rfl (by rw [World.size_alloc]; rfl) ?aP (fun _ hk => hk.elim) ?aF (Kd.R_below HA2.out (below_alloc (Below.refl _ _) _)) (Below.refl _ _) ?aS ?aL ?_; (case aP => exact k160_mkM _ _ _ (cpuEv σ').s); (case aF => intro k hk he; have h1 := HW.out.lt he; have h2 := HSZ.out; simp at hk; omega); (case aS => have h2 := HSZ.out; simp; omega); (case aL => have h1 := HLA.out; omega); intro v1 w3 hown3 hb3 hg3 hat3; have HA3 := Aside0.mk hown3; have HG3 := Aside0.mk hg3; clear hown3 hb3 hat3 hg3))
   cases gk with
   | zero =>
    have h1 := hrun.lo
    have h2 := HK.out
    have h3 : cpuTm σ' = (cpuAct σ').1 := rfl
    exact absurd h2 (by omega)
   | succ k1 =>
    have hx := cpuNx_good hG' hb30
    have h0 := hrun.lo
    have h3 : cpuTm σ' = (cpuAct σ').1 := rfl
    have hk2 := HK.out
    go_roundg k1
    case measure => omega
    case rel =>
     have hne : ∀ b, foot ρ2 (instH (cpuNx σ') cpuH) b → some b ≠ u7.ownBlock := fun b hb he => HA2.out.1 b he.symm (foot_cpu HW.out (Ren.le_trans hle (Ren.le_trans hle1 hle2)) hb)
     refine ⟨cpuNx σ', ρ2, acc ++ [(cpuEv σ').s], hx.1, by omega, Ren.le_trans hle (Ren.le_trans hle1 hle2), ⟨rep_grown (rep_below HR2.out (below_alloc (Below.refl _ _) _)) HG3.out hne⟩, ⟨((HO.out.trans ho3 fun _ _ h => h).trans (T := fun _ => False) (Only.of_below (below_alloc (Below.refl _ _) _)) fun _ _ h => h.elim).trans (Only.of_grown HG3.out) ?_⟩, ⟨by omega⟩, HA3, ⟨?_⟩, ⟨?_⟩⟩
     ·intro b hb he
      obtain ⟨inner, ho⟩ := Kd.R_own HA2.out
      have := own_base ho b he.symm
      omega
     ·have h1 := HN.out
      rw [cpuH0_some hto hG' hb' hc, List.length_cons] at h1
      simp only [List.length_append, List.length_singleton]; omega
     ·rw [← HE.out, cpuH0_some hto hG' hb' hc, List.map_cons, List.append_assoc]
      rfl
  ·have hc0 : decide (cpuTm σ' ≥ tt) = true := decide_eq_true (by omega)
   go_wp2_with (first | (go_at_call 97; refine (hrun.nextAt hG'.fit ρ' _ l hl' HR.out).mono ?_; rintro e w1 ⟨rfl, ho1, ρ1, hle1, hr1⟩; have HR1 := Aside0.mk hr1; clear hr1; change decide ((cpuAct σ').1 ≥ tt) = true at hc0))
   go_ret
   refine ⟨_, rfl, ?_, ?_⟩
   ·have hE := HE.out
    rw [cpuH0_none (by omega), List.map_nil, List.append_nil] at hE
    rw [← hE]
    refine Kd.R_below (Kd.R_mono (R_only HA.out ho1 (fun k hk hs => hk (foot_cpu HW.out hle hs))) fun _ _ => trivial) (below_alloc (Below.refl _ _) _)
   ·exact (HO.out.trans (T := foot ρ (instH σ cpuH)) ⟨fun b hb hn => ho1.keep b hb fun hs => hn (foot_cpu HW.out hle hs), ho1.grew⟩ fun _ _ h => h).trans (T := fun _ => False) (Only.of_below (below_alloc (Below.refl _ _) _)) fun _ _ h => h.elim
end Go.Sim
end
section
namespace Go.Sim
attribute [local instance] noRO
open Go.Proofs Go.RowKit Go.Proofs.YtdppeaciahdekaaGreatW.PrintWords Go.Proofs.YtdppeaciahdekaaGreatW.PrintLast Go.Proofs.YtdppeaciahdekaaGreatW.PrintMore
open Go.Proofs.YtdppeaciahdekaaGreat.PLockParts
theorem ula_clock {σ : Sig} {ρ : Ren} {w : World} {l : Loc} (hl : ρ 0 = some l) (hw : Rep ρ (instH σ ulaH) w) : w.cell? ⟨l.blk, l.off + 32781, none⟩ = some (.int .i64 (σ.v 7)) :=
 rep_cell hw (i := 0) (r := instR σ (ulaP (u8v 9) (i64v 7) (i64v 8))) (g := 0) (hget_inst (b := .cells (ulaP (u8v 9) (i64v 7) (i64v 8)) 0 true) rfl) hl (k := 32781) (a := .int .i64 (σ.v 7)) (SRope.get_inst σ _ _ (.sym .i64 (.v 7)) rfl) (by rw [SRope.size_inst]; decide) rfl
theorem ulaHist_len : ∀ (n : Nat) (σ : Sig), (ulaHist n σ).length ≤ n
 | 0, _ => Nat.le_refl _
 | n + 1, σ => by
  have h1 := ulaHist_len n (ulaNx σ)
  have h2 : (ulaEv σ).length ≤ 1 := by
   unfold ulaEv
   cases (ulaStep σ).2 <;> simp [tellN]
  simp only [ulaHist, List.length_append]; omega
set_option maxHeartbeats 8000000 in
set_option maxRecDepth 100000 in
theorem ula_run_calls (k : Nat) {σ : Sig} (hG : UlaGood σ) (tt : Int) (hk : tt - σ.v 7 ≤ k) (hto : tt ≤ 3000) (ρ : Ren) (w : World) (l : Loc) (hl : ρ 0 = some l) (hw : Rep ρ (instH σ ulaH) w) :
  Calls Tryz.prog 55 #[.pointer (some ⟨l.blk, l.off, none⟩), .int .i64 tt] w fun e w' => ∃ v, e = .returned v ∧ Kd.R k160 160 w' w.heap.size (fun _ => True) v ((ulaHist (tt - σ.v 7).toNat σ).map EvN.s) ∧ Only (foot ρ (instH σ ulaH)) w w' := by
 have hlt : l.blk < w.heap.size := hw.lt ((foot_one (n := 2) hl _).2 rfl)
 have HLT := Aside0.mk hlt
 clear hlt
 have HW := Aside0.mk hw
 clear hw
 have hbase := hG.fit.1 7
 have hbase0 : (0 : Int) ≤ σ.v 7 := hbase.1
 clear hbase
 go_enter Tryz.func55, Tryz.ntmps55
 go_wp2
 go_loopg [5] k (fun kq v5 w' => ∃ (σ' : Sig) (ρ' : Ren) (acc : List S160), UlaGood σ' ∧ ρ.le ρ' ∧ Aside0 (Rep ρ' (instH σ' ulaH) w') ∧ Aside0 (Only (foot ρ (instH σ ulaH)) w w') ∧ Aside0 (tt - σ'.v 7 ≤ kq) ∧ Aside0 (Kd.R k160 160 w' w.heap.size (fun b => b ≠ l.blk) v5 acc) ∧ Aside0 (acc ++ (ulaHist (tt - σ'.v 7).toNat σ').map EvN.s = (ulaHist (tt - σ.v 7).toNat σ).map EvN.s))
 case atStart => exact ⟨σ, ρ, [], hG, ρ.le_refl, HW, ⟨Only.refl _ _⟩, ⟨hk⟩, ⟨Kd.R_nil _ _ _ _ _⟩, ⟨rfl⟩⟩
 case round =>
  obtain ⟨σ', ρ', acc, hG', hle, HR, HO, HK, HA, HE⟩ := hrel
  have hl' := hle 0 l hl
  by_cases hc : σ'.v 7 < tt
  ·have hc0 : decide (σ'.v 7 < tt) = true := decide_eq_true hc
   go_wp2_with (first | (go_at_call 112; refine (ula_made hG'.fit ρ' _ l hl' HR.out).mono ?_; rintro e w1 ⟨rfl, ho1, ρ1, hle1, hr1⟩; have hcell := ula_clock (hle1 0 l hl') hr1; have HR1 := Aside0.mk hr1; clear hr1))
   have hb7 : σ'.v 7 < bigT := by simp only [bigT]; omega
   have hr := ulaStep_run hG' hb7
   refine (hr.tick ρ1 _ l (hle1 0 l hl') HR1.out).mono ?_
   rintro e w2 ⟨v, rfl, hev, ho2, ρ2, hle2, hr2⟩
   have HR2 := Aside0.mk hr2
   clear hr2
   have hlen : (tellN (σ'.v 7) 2 (σ'.v 8) (ulaStep σ').2).length ≤ 9223372036854775807 := by
    cases (ulaStep σ').2 <;> simp [tellN]
   obtain ⟨A, c, hv, hrow⟩ := evs_reads hlen hev.evs
   have hlm : ((tellN (σ'.v 7) 2 (σ'.v 8) (ulaStep σ').2).map EvN.s).length ≤ 1 := by
    cases (ulaStep σ').2 <;> simp [tellN]
   obtain ⟨ys, hys⟩ : ∃ ys, ys = (tellN (σ'.v 7) 2 (σ'.v 8) (ulaStep σ').2).map EvN.s := ⟨_, rfl⟩
   rw [← hys] at hv hrow hlm
   subst hv
   have hla : acc.length ≤ 3000 := by
    have h1 := congrArg List.length HE.out
    have h2 := ulaHist_len (tt - σ.v 7).toNat σ
    simp only [List.length_append, List.length_map] at h1
    omega
   have HYS := Aside0.mk hys
   have HROW := Aside0.mk hrow
   have HLA := Aside0.mk hla
   have HLM := Aside0.mk hlm
   clear hla hlm hys hrow hev
   have HA2 := Aside0.mk (R_only (R_only HA.out ho1 (fun k hk hs => hk ((foot_one (n := 2) hl' _).1 hs))) ho2 (fun k hk hs => hk ((foot_one (n := 2) (hle1 0 l hl') _).1 hs)))
   have hl2 := hle2 0 l (hle1 0 l hl')
   have HSZ := Aside0.mk (Nat.le_trans HO.out.grew.size (Nat.le_trans ho1.grew.size ho2.grew.size))
   have HLT2 := Aside0.mk (Nat.lt_of_lt_of_le HLT.out HSZ.out)
   go_wp2_with (first | ((with_reducible refine gate_builtin (b := .append) (xs := #[.tmp 17, .tmp 19]) rfl ?_); at_builtin; refine Kd.R_append_rows k160 (Rr := k160.K w2) (w0 := w2) w.heap.size rfl (.tmp 17) (.tmp 19) 72 160 (.agg #[(.int .i64 0), (.int .i64 0), (.int .i64 0), (.int .i64 0), (.int .i64 0), (.int .i64 0)]) 48 rfl Tryz.underlying72 info160 rfl (by decide) (by omega) u5 acc ys A ys.length c (fun b => b ≠ l.blk) (fun _ => False) rfl rfl HA2.out HROW.out ?aM (fun _ hk => hk.elim) ?aF (Below.refl _ _) HSZ.out ?aL ?_; (case aM => intro x cs hx; have hx2 := k160_open hx; subst hx2; exact k160_mkM _ _ _ x); (case aF => intro k hk he; have := HLT2.out; omega); (case aL => have h1 := HLA.out; have h2 := HLM.out; omega); intro v1 w3 hown3 hb3 hg3 hat3; have HA3 := Aside0.mk hown3; have HG3 := Aside0.mk hg3; clear hown3 hb3 hat3 hg3))
   cases gk with
   | zero => exact absurd HK.out (by omega)
   | succ k1 =>
    go_roundg k1
    case measure => omega
    case rel =>
     have e3 : (ulaS σ' (ulaStep σ').1 (ulaStep σ').2).v 7 = σ'.v 7 + 1 := rfl
     have hk2 := HK.out
     have hne : ∀ b, foot ρ2 (instH (ulaNx σ') ulaH) b → some b ≠ u5.ownBlock := fun b hb he => HA2.out.1 b he.symm ((foot_one (n := 2) hl2 b).1 hb)
     refine ⟨ulaNx σ', ρ2, acc ++ ys, (ulaNx_good hG' hb7).1, Ren.le_trans hle (Ren.le_trans hle1 hle2), ⟨rep_grown HR2.out HG3.out hne⟩, ⟨only_one (n := 2) hl (hle1 0 l hl') (only_one (n := 2) hl hl' HO.out ho1) ho2 |>.trans (Only.of_grown HG3.out) ?_⟩, ⟨by show tt - (ulaS σ' (ulaStep σ').1 (ulaStep σ').2).v 7 ≤ _; rw [e3]; omega⟩, HA3, ⟨?_⟩⟩
     ·intro b hb he
      obtain ⟨inner, ho⟩ := Kd.R_own HA2.out
      have := own_base ho b he.symm
      omega
     ·rw [← HE.out, HYS.out, List.append_assoc]
      congr 1
      have en : (tt - σ'.v 7).toNat = (tt - (ulaNx σ').v 7).toNat + 1 := by
       show _ = (tt - (ulaS σ' (ulaStep σ').1 (ulaStep σ').2).v 7).toNat + 1
       rw [e3]; omega
      rw [en, ulaHist, List.map_append]
      rfl
  ·have hc0 : decide (σ'.v 7 < tt) = false := decide_eq_false hc
   go_wp2_with (first | (go_at_call 112; refine (ula_made hG'.fit ρ' _ l hl' HR.out).mono ?_; rintro e w1 ⟨rfl, ho1, ρ1, hle1, hr1⟩; have hcell := ula_clock (hle1 0 l hl') hr1; have HR1 := Aside0.mk hr1; clear hr1))
   go_ret
   refine ⟨_, rfl, ?_, only_one (n := 2) hl hl' HO.out ho1⟩
   have e0 : (tt - σ'.v 7).toNat = 0 := by omega
   have hE := HE.out
   rw [e0, ulaHist, List.map_nil, List.append_nil] at hE
   rw [← hE]
   exact Kd.R_mono (R_only HA.out ho1 (fun k hk hs => hk ((foot_one (n := 2) hl' _).1 hs))) fun _ _ => trivial
end Go.Sim
end
section
namespace Go.Sim
attribute [local instance] noRO
open Go.Proofs Go.RowKit Go.Proofs.YtdppeaciahdekaaGreatW.PrintWords Go.Proofs.YtdppeaciahdekaaGreatW.PrintLast Go.Proofs.YtdppeaciahdekaaGreatW.PrintMore
theorem ay_clock {σ : Sig} {ρ : Ren} {w : World} {l : Loc} (hl : ρ 0 = some l) (hw : Rep ρ (instH σ ayH) w) : w.cell? ⟨l.blk, l.off + 1, none⟩ = some (.int .i64 (σ.v 1)) :=
 rep_cell hw (i := 0) (r := instR σ (ayP (i64v 1) (i64v 2) (i64v 3) (i64v 4) (.sym .u32 (.v 5)) (i64v 6) (i64v 7))) (g := 0) (hget_inst (b := .cells (ayP (i64v 1) (i64v 2) (i64v 3) (i64v 4) (.sym .u32 (.v 5)) (i64v 6) (i64v 7)) 0 true) rfl) hl (k := 1) (a := .int .i64 (σ.v 1)) rfl (show 1 < 34 by omega) rfl
set_option maxHeartbeats 8000000 in
set_option maxRecDepth 100000 in
theorem ay_run_calls (k : Nat) {σ : Sig} (hV : ayV.fit σ) (tt : Int) (hk : tt - σ.v 1 ≤ k) (hto : tt ≤ 3000) (ρ : Ren) (w : World) (l : Loc) (hl : ρ 0 = some l) (hw : Rep ρ (instH σ ayH) w) :
  Calls Tryz.prog 56 #[.pointer (some ⟨l.blk, l.off, none⟩), .int .i64 tt] w fun e w' => e = .returned (.slice none 0 0) ∧ Only (foot ρ (instH σ ayH)) w w' := by
 have HW := Aside0.mk hw
 clear hw
 go_enter Tryz.func56, Tryz.ntmps56
 go_wp2
 go_loopg [5] k (fun kq v5 w' => ∃ (σ' : Sig) (ρ' : Ren), v5 = .slice none 0 0 ∧ ayV.fit σ' ∧ ρ.le ρ' ∧ Aside0 (Rep ρ' (instH σ' ayH) w') ∧ Aside0 (Only (foot ρ (instH σ ayH)) w w') ∧ Aside0 (tt - σ'.v 1 ≤ kq))
 case atStart => exact ⟨σ, ρ, rfl, hV, ρ.le_refl, HW, ⟨Only.refl _ _⟩, ⟨hk⟩⟩
 case round =>
  obtain ⟨σ', ρ', rfl, hV', hle, HR, HO, HK⟩ := hrel
  have hl' := hle 0 l hl
  by_cases hc : σ'.v 1 < tt
  ·have hc0 : decide (σ'.v 1 < tt) = true := decide_eq_true hc
   go_wp2_with (first | (go_at_call 114; refine (ay_made hV' ρ' _ l hl' HR.out).mono ?_; rintro e w1 ⟨rfl, ho1, ρ1, hle1, hr1⟩; have hcell := ay_clock (hle1 0 l hl') hr1; have HR1 := Aside0.mk hr1; clear hr1))
   obtain ⟨al, hr⟩ := ay_run hV' (by simp only [bigT]; omega)
   refine (hr.tick ρ1 _ l (hle1 0 l hl') HR1.out).mono ?_
   rintro e w2 ⟨rfl, ho2, ρ2, hle2, hr2⟩
   have HR2 := Aside0.mk hr2
   clear hr2
   go_wp2
   cases gk with
   | zero => exact absurd HK.out (by omega)
   | succ k1 =>
    go_roundg k1
    case measure => omega
    case rel =>
     have e3 : (ayS σ' al).v 1 = σ'.v 1 + 1 := hr.v1
     have hk2 := HK.out
     exact ⟨ayS σ' al, ρ2, rfl, hr.fit, Ren.le_trans hle (Ren.le_trans hle1 hle2), HR2, ⟨only_one (n := 1) hl (hle1 0 l hl') (only_one (n := 1) hl hl' HO.out ho1) ho2⟩, ⟨by rw [e3]; omega⟩⟩
  ·have hc0 : decide (σ'.v 1 < tt) = false := decide_eq_false hc
   go_wp2_with (first | (go_at_call 114; refine (ay_made hV' ρ' _ l hl' HR.out).mono ?_; rintro e w1 ⟨rfl, ho1, ρ1, hle1, hr1⟩; have hcell := ay_clock (hle1 0 l hl') hr1; have HR1 := Aside0.mk hr1; clear hr1))
   go_ret
   exact ⟨rfl, only_one (n := 1) hl hl' HO.out ho1⟩
end Go.Sim
end
