/- A part of the proof that LockParts returns true for every input. No condition. -/
import Derived.Test.YtdppeaciahdekaaGreatG08
import Derived.Test.YtdppeaciahdekaaGreatG02
import Derived.Test.YtdppeaciahdekaaGreatG06
import Derived.KernelRfl
import Derived.Test.YtdppeaciahdekaaGreatG09
import Derived.Test.YtdppeaciahdekaaGreatG10
import Derived.Laws.StructEq
import Derived.Test.YtdppeaciahdekaaGreatProg
import Derived.Below
import Derived.Deep.Draws
import Derived.Deep.AppendLies
import Derived.Maps.AppendAt
import Derived.OwnWalk
import Derived.Laws.BytesArg
import Derived.Laws.MakeOwn
import Derived.Laws.OwnMore
import Derived.Deep.OwnRows
import Derived.Tactics
import Derived.Lib.ConvBytes
import Derived.Laws.Slices
import Derived.WalkKit
import Derived.RowKit3
import Derived.Deep.LoopGhost
import Derived.Deep.QuietTactic
import Derived.BigQuiet
import Derived.WideLaws
import Derived.Deep.DeepCutAuto
import Derived.Deep.CutBlock
import Derived.Deep.RegionHeld3
import Derived.Laws.Rows
import Derived.Lib.AppendStr
import Derived.ArgAppend
import Derived.Laws.IdiomCopy
import Derived.OrdersHeld
import Derived.Laws.BitsLemmas
import Derived.RowKit
set_option linter.all false
section
set_option maxRecDepth 1000000
namespace Go.Sim
def i64v (j : Nat) : SVal := .sym .i64 (.v j)
def u8v (j : Nat) : SVal := .sym .u8 (.v j)
def litS (n : Int) : Sx := .lit n
def i64b (o : BinOp) (x y : Sx) : Sx := .bin o .i64 x y
def ltF (a b : Sx) (r : Bool) : Fact := ⟨⟨true, a, b⟩, r⟩
def eqF (a b : Sx) (r : Bool) : Fact := ⟨⟨false, a, b⟩, r⟩
def scrV : List (Int × Int) := [(1, 400), (8, 400), (0, 400), (0, 192), (1, 400), (0, 32), (1, 64)]
def scrF : Facts := [eqF (i64b .rem (.v 1) (litS 4)) (litS 0) true, eqF (i64b .rem (.v 3) (litS 8)) (litS 0) true, eqF (i64b .rem (.v 5) (litS 2)) (litS 0) true,
 ltF (.v 0) (i64b .add (.v 2) (.v 3)) false, ltF (.v 1) (i64b .add (.v 4) (i64b .mul (litS 4) (.v 5))) false, ltF (i64b .mul (.v 0) (.v 1)) (.v 6) false]
def bigT : Int := 16777216
def scrL : List SVal := [i64v 0, i64v 1, i64v 2, i64v 3, i64v 4, i64v 5, i64v 6]
def inRg (V : Vars) (F : Facts) (lo hi : Int) : Option Sx → Bool
 | some e => !(ltI (rng V F e).lo lo) && !(ltI hi (rng V F e).hi)
 | none => false
def evChk (V : Vars) (F : Facts) (J : Nat) (chip : Int) (clock seq : SVal) (v : SVal) (H : SHeap) (sq : SVal) (seq1 : SVal) : Bool := match v with
 | .slice none 0 0 => sveq sq seq
 | .slice (some (j, 0)) 1 1 => (match H.get j with
  | some (.cells (.lst [t, c, s, k, a, b]) 6 true) => Nat.beq j J && sveq t clock && sveq c (.int .i64 chip) && sveq s seq && inRg V F 1 12 (k.num .i64) && inRg V F 0 1048576 (a.num .i64) && inRg V F 0 255 (b.num .i64) && sveq sq seq1
  | _ => false)
 | _ => false
def scall0 (V : Vars) (F : Facts) : SCallF := scall (fun f => LP.ct.find f) (fun _ => false) (fun _ _ _ => .no) ⟨V, F, LP.E⟩ 1000 100
def acall0 : CallF := acall (fun f => LP.ct.find f) (fun _ _ _ => none) LP.E 1000 100
theorem scall0_ok {V : Vars} {F : Facts} {σ : Sig} (hV : V.fit σ) (hF : F.hold σ) : CallSub σ (scall0 V F) acall0 := by
 have := scall_ok (S := ⟨V, F, LP.E⟩) hV hF (C := fun f => LP.ct.find f) (X := fun _ => false) (sext := fun _ _ _ => .no) (ext := fun _ _ _ => none) (fun _ _ _ _ => rfl) (fun _ _ _ _ h => by cases h) (lf := 1000) 100
 exact this
abbrev Tell := Option (Int × Int × Int)
def Tell.n : Tell → Int
 | none => 0
 | some _ => 1
def evCells (clock chip seq : Int) (x : Int × Int × Int) : List AVal := [.int .i64 clock, .int .i64 chip, .int .i64 seq, .int .i64 x.1, .int .i64 x.2.1, .int .i64 x.2.2]
def evVals (clock chip seq : Int) (x : Int × Int × Int) : List Value := [.int .i64 clock, .int .i64 chip, .int .i64 seq, .int .i64 x.1, .int .i64 x.2.1, .int .i64 x.2.2]
def EvA (J : Nat) (v : AVal) (H : AHeap) (clock chip seq : Int) : Tell → Prop
 | none => v = .slice none 0 0
 | some x => v = .slice (some (J, 0)) 1 1 ∧ H.get J = some (.cells (.lst (evCells clock chip seq x)) 6 true)
theorem inRg_sound {V : Vars} {F : Facts} {lo hi : Int} {x : Option Sx} {σ : Sig} (hV : V.fit σ) (hF : F.hold σ) (h : inRg V F lo hi x = true) : ∃ e, x = some e ∧ lo ≤ e.ev σ ∧ e.ev σ ≤ hi := by
 cases x with
 | none => cases h
 | some e =>
  simp only [inRg, ltI_eq, Bool.and_eq_true, Bool.not_eq_true', decide_eq_false_iff_not] at h
  have := rng_sound hV hF e
  exact ⟨e, rfl, by have := this.1; omega, by have := this.2; omega⟩
def Tell.ok : Tell → Prop
 | none => True
 | some x => (1 ≤ x.1 ∧ x.1 ≤ 12) ∧ (0 ≤ x.2.1 ∧ x.2.1 ≤ 1048576) ∧ 0 ≤ x.2.2 ∧ x.2.2 ≤ 255
theorem evChk_sound {V : Vars} {F : Facts} {J : Nat} {chip : Int} {v sq : SVal} {H : SHeap} {c s s1 : Sx} (h : evChk V F J chip (.sym .i64 c) (.sym .i64 s) v H sq (.sym .i64 s1) = true) {σ : Sig} (hV : V.fit σ) (hF : F.hold σ) :
  ∃ e : Tell, e.ok ∧ EvA J (v.inst σ) (instH σ H) (c.ev σ) chip (s.ev σ) e ∧ sq = .sym .i64 (match e with | none => s | some _ => s1) := by
 unfold evChk at h
 split at h
 ·exact ⟨none, trivial, rfl, sveq_sound h⟩
 ·split at h
  ·rename_i j _ t c2 s2 k a b hg
   simp only [Bool.and_eq_true] at h
   obtain ⟨⟨⟨⟨⟨⟨⟨hJ, h1⟩, h2⟩, h3⟩, h4⟩, h5⟩, h6⟩, h7⟩ := h
   have hJ := Nat.eq_of_beq_eq_true hJ
   subst hJ
   obtain ⟨k', hk, k0, k1⟩ := inRg_sound hV hF h4
   obtain ⟨a', ha, a0, a1⟩ := inRg_sound hV hF h5
   obtain ⟨b', hb, b0, b1⟩ := inRg_sound hV hF h6
   refine ⟨some (k'.ev σ, a'.ev σ, b'.ev σ), ⟨⟨k0, k1⟩, ⟨a0, a1⟩, b0, b1⟩, ⟨rfl, ?_⟩, sveq_sound h7⟩
   rw [hget_inst hg, sveq_sound h1, sveq_sound h2, sveq_sound h3]
   simp only [instB, instR, instL, num_inst hk σ, num_inst ha σ, num_inst hb σ, evCells]
   rfl
  ·cases h
 ·cases h
attribute [local instance] noRO
def EvM (v : Value) (w : World) (lo : Nat) (clock chip seq : Int) : Tell → Prop
 | none => v = .slice none 0 0
 | some x => ∃ (ad : Addr) (c : Nat), v = .slice (some ad) 1 (c + 1) ∧ lo ≤ ad.block ∧ ∀ (j : Nat) u, (evVals clock chip seq x)[j]? = some u → w.cell? (ad.add j) = some u
theorem EvA.mem {J : Nat} {v : AVal} {H : AHeap} {clock chip seq : Int} {e : Tell} (h : EvA J v H clock chip seq e) {ρ : Ren} {w : World} (hw : Rep ρ H w) {v' : Value} (hv : VR ρ v v') (lo : Nat) (hlo : ∀ j g x l, H.get j = some (.cells (.lst (evCells clock chip seq x)) g true) → ρ j = some l → lo ≤ l.blk) :
  EvM v' w lo clock chip seq e := by
 cases e with
 | none =>
  have h' : v = .slice none 0 0 := h
  subst h'
  cases hv; rfl
 | some x =>
  obtain ⟨rfl, hg⟩ := h
  cases hv with
  | slice hl =>
   rename_i l
   obtain ⟨cs, t, fr, h1, h2, h3, h4, h5, h6⟩ := WR.row hw hg hl
   refine ⟨_, l.sp, by rw [Nat.add_comm 1 l.sp], hlo _ _ _ _ hg hl, fun i u hu => ?_⟩
   have hi : i < 6 := by
    have := (List.getElem?_eq_some_iff.1 hu).1
    simpa [evVals] using this
   obtain ⟨a, u', g1, g2, g3, g4⟩ := h4 i (by simpa [Rope.size, evCells] using hi)
   have e2 : w.cell? ((⟨l.blk, l.off + 0, none⟩ : Addr).add i) = cs[l.off + i]? := by
    unfold Addr.add
    split
    ·rename_i h0; subst h0; simp [World.cell?, h1]
    ·simp [World.cell?, h1]
   rw [e2, g3]
   have : i = 0 ∨ i = 1 ∨ i = 2 ∨ i = 3 ∨ i = 4 ∨ i = 5 := by omega
   rcases this with rfl | rfl | rfl | rfl | rfl | rfl <;> (simp only [Rope.get, evCells, List.getElem?_cons_zero, List.getElem?_cons_succ, Option.some.injEq] at g1; subst g1; cases g4; simpa [evVals] using hu)
def scS (n o : Nat) : SVal → Bool
 | .bool _ | .int _ _ | .sym _ _ | .sb _ | .str _ | .nilFunc | .nilIface => true
 | .ptr none => true
 | .ptr (some (i, _)) => Nat.blt i n
 | .slice none _ _ => true
 | .slice (some (i, _)) _ _ => Nat.blt i n
 | .osl _ => Nat.ble o n
 | .iface _ v => scS n o v
 | _ => false
def scSR (n o : Nat) : SRope SVal → Bool
 | .lst l => l.all (scS n o)
 | .rep _ a => scS n o a
 | .app _ l r => scSR n o l && scSR n o r
 | .arr _ _ _ => true
theorem scS_sound {V : Vars} {σ : Sig} (hV : V.fit σ) {n : Nat} : ∀ v : SVal, scS n V.o v = true → Sc n (v.inst σ)
 | .bool _, _ => trivial
 | .int _ _, _ => trivial
 | .sym _ _, _ => trivial
 | .sb _, _ => trivial
 | .str _, _ => trivial
 | .nilFunc, _ => trivial
 | .nilIface, _ => trivial
 | .ptr none, _ => trivial
 | .ptr (some (i, _)), h => by simp only [scS, Nat.blt_eq] at h; exact h
 | .slice none _ _, _ => trivial
 | .slice (some (i, _)) _ _, h => by simp only [scS, Nat.blt_eq] at h; exact h
 | .osl j, h => by
  simp only [scS] at h
  have h := Nat.le_of_ble_eq_true h
  have := hV.2.2 j
  simp only [SVal.inst]
  cases e : (σ.o j).1 with
  | none => trivial
  | some p => obtain ⟨i, q⟩ := p; have := this i q e; show i < n; omega
 | .iface _ v, h => scS_sound hV v h
theorem scSR_sound {V : Vars} {σ : Sig} (hV : V.fit σ) {n : Nat} : ∀ r : SRope SVal, scSR n V.o r = true → ScR n (instR σ r) := by
 intro r
 induction r with
 | lst l =>
  intro h
  simp only [scSR, List.all_eq_true] at h
  simp only [instR]
  induction l with
  | nil => trivial
  | cons a l ih => exact ⟨scS_sound hV a (h a (by simp)), ih fun x hx => h x (by simp [hx])⟩
 | rep m a => intro h; exact scS_sound hV a h
 | app m l r ihl ihr => intro h; simp only [scSR, Bool.and_eq_true] at h; exact ⟨ihl h.1, ihr h.2⟩
 | arr m k a =>
  intro _
  simp only [instR]
  show ScL n _
  induction List.range m with
  | nil => trivial
  | cons i l ih => exact ⟨trivial, ih⟩
end Go.Sim
end
section
set_option maxRecDepth 1000000
namespace Go.Sim
def full64 : Int × Int := (-9223372036854775808, 9223372036854775807)
def V7 : Vars := ⟨List.replicate 7 full64, [], 0⟩
def scrIn (F : Facts) : Nat → List (Int × Int) → Bool
 | _, [] => true
 | j, p :: l => inRg V7 F p.1 p.2 (some (.v j)) && scrIn F (j + 1) l
def scrDec (F : Facts) : Facts → Bool
 | [] => true
 | f :: l => (match dec V7 F f.c with | some b => b == f.r | none => false) && scrDec F l
def scrChk (F : Facts) : SRes → Bool
 | .ret (.int .i64 n) _ => bif eqI n 0 then scrIn F 0 scrV && scrDec F scrF else true
 | _ => false
theorem scr_tree : stree (fun F => scall0 V7 F 158 [.agg (.lst scrL)] ⟨0, .leaf⟩) scrChk V7 100 [] = true := by kernel_rfl
end Go.Sim
end
section
set_option maxRecDepth 1000000
namespace Go.Sim
def cpuV : Vars := ⟨scrV ++ [(0, 255)] ++ List.replicate 10 (0, 255) ++ List.replicate 9 (0, 65535) ++ [(0, 1), (0, 2), (0, 1), (0, bigT), (0, bigT)], List.replicate 12 (0, 255), 0⟩
def u16v (j : Nat) : SVal := .sym .u16 (.v j)
def b8 (n : Int) : SVal := .int .u8 n
def cpuP (r late ck sq : SVal) : SRope SVal := .lst (scrL ++ [u8v 7, .ptr (some (1, 0)), u8v 8, u8v 9, u8v 10, u8v 11, u8v 12, u8v 13, u8v 14, u8v 15, u8v 16, r, u16v 18, u16v 19, u16v 20, u16v 21, u16v 22, u16v 23, u16v 24, u16v 25, u16v 26,
 .bool false, .sb (.v 27), i64v 28, .bool true, late, ck, sq, .bool false, .slice none 0 0])
def memP : SRope SVal := .lst [.ptr (some (2, 0)), .ptr (some (3, 0)), .ptr (some (4, 0)), .ptr (some (5, 0)), .ptr (some (6, 0)), .ptr (some (7, 0)), .ptr (some (8, 0)), .ptr (some (9, 0)), .ptr (some (10, 0)), .ptr (some (11, 0)), .ptr (some (12, 0)), .ptr (some (13, 0)),
 .ptr (some (10, 0)), .ptr (some (7, 0)), .ptr (some (4, 0)), .ptr (some (2, 0)), b8 0, b8 0]
def bankP (n : Nat) : SRope SVal := .arr 16384 .u8 (.v n)
def cpuR : List (SRope SVal) := [memP, bankP 0, bankP 1, bankP 2, bankP 3, bankP 4, bankP 5, bankP 6, bankP 7, bankP 8, bankP 9, bankP 10, bankP 11]
def layS : Nat → List (SRope SVal) → Trie SBlk → Trie SBlk
 | _, [], t => t
 | i, r :: l, t => layS (i + 1) l (t.set i (some (.cells r 0 true)))
def cpuB (r late ck sq : SVal) : SHeap := ⟨14, layS 0 (cpuP r late ck sq :: cpuR) .leaf⟩
def cpuH : SHeap := cpuB (u8v 17) (.sb (.v 29)) (i64v 30) (i64v 31)
def lieS (H : SHeap) : Nat → List (SRope SVal) → Bool
 | _, [] => true
 | i, r :: l => (match H.get i with | some (.cells r' 0 true) => sreq r' r | _ => false) && lieS H (i + 1) l
def notBelow (V : Vars) (F : Facts) (j : Nat) : Sx → Bool
 | .v i => Nat.beq i j
 | .bin .add .i64 (.v i) e => Nat.beq i j && inRg V F 0 16 (some e)
 | _ => false
def cpuChk (F : Facts) : SRes × SRes × SRes → Bool
 | (.ret (.tup [.agg q, at1, .bool true]) H1, .ret (.tup [.agg d, e2]) H2, .ret (.tup [.agg d3, e3]) H3) =>
  sreq q (.lst [.int .i64 1, u16v 21, b8 0, .int .i64 4]) && lieS H1 0 (cpuP (u8v 17) (.sb (.v 29)) (i64v 30) (i64v 31) :: cpuR) && Nat.ble H1.next 1000 && Nat.ble H2.next 1000 && sveq e2 (.int .i64 0) && (sreq d3 d && sveq e3 (.int .i64 0) && Nat.ble H3.next 1000 && lieS H3 1 cpuR && (match H2.get 0, H3.get 0 with | some (.cells r 0 true), some (.cells r3 0 true) => sreq r3 r | _, _ => false)) &&
  (match at1.num .i64, d.get 4, d.get 5, H2.get 0 with
  | some t, some a, some b, some (.cells r 0 true) => notBelow cpuV F 30 t && sreq d (.lst [at1, .int .i64 1, i64v 31, .int .i64 1, a, b, .bool true, .int .i64 0, .int .i64 0, b8 0, .bool false]) && inRg cpuV F 0 1048576 (a.num .i64) && inRg cpuV F 0 255 (b.num .i64) &&
   (match r.get 18, r.get 32, r.get 33 with
   | some rr, some late, some ck => sreq r (cpuP rr (.bool false) ck (.sym .i64 (i64b .add (.v 31) (litS 1)))) && sveq late (.bool false) && inRg cpuV F 0 255 (rr.num .u8) && sveq ck (.sym .i64 (i64b .add t (litS 4)))
   | _, _, _ => false) && lieS H2 1 cpuR
  | _, _, _, _ => false)
 | _ => false
def cpuRun (F : Facts) : SR (SRes × SRes × SRes) := (scall0 cpuV F 97 [.ptr (some (0, 0))] cpuH).bind fun a => (scall0 cpuV F 111 [.ptr (some (0, 0)), .int .u8 0] cpuH).bind fun b => (scall0 cpuV F 111 [.ptr (some (0, 0)), .int .u8 255] cpuH).bind fun c => .ok (a, b, c)
end Go.Sim
namespace Go.Sim
def pcQ (n : Int) : Fact := eqF (.bin .shr .u16 (.v 21) (.lit 14)) (.lit n) true
def pkQ (n : Int) : Fact := eqF (.bin .shr .u16 (.bin .add .u16 (.v 21) (.lit 1)) (.lit 14)) (.lit n) true
def cpuF (n m : Int) : Facts := pcQ n :: pkQ m :: scrF
end Go.Sim
end
section
namespace Go.Proofs.YtdppeaciahdekaaGreatW.PrintLast
open Go.Proofs.YtdppeaciahdekaaGreatW.PrintWords (Aside0)
section
variable {md : Region.Mode} {ops : Array Oper} {T : Bool × List (List Nat × List Nat)} {l l' li lj lk : Array Bool} {ds : List Nat} {i j k : Nat}
end
end Go.Proofs.YtdppeaciahdekaaGreatW.PrintLast
end
section
namespace Go.Proofs.YtdppeaciahdekaaGreatW.PrintLast
section
variable {P : Program} {ops : Array Oper} {Q : Exit → Act → World → Prop} {md : Region.Mode} {S : World → Prop} {ds : List Nat} {T : Bool × List (List Nat × List Nat)}
end
end Go.Proofs.YtdppeaciahdekaaGreatW.PrintLast
end
section
namespace Go.Proofs.YtdppeaciahdekaaGreatW.PrintWords
open Go.RowKit
namespace Kd
section
variable {α : Type} {d : Kd α} {e base g o n cap : Nat} {ok okp : Nat → Prop} {w W : World} {v : Value} {xs : List α}
end
section
variable {α : Type} {enc : α → Value} {h1 : ∀ x, (enc x).oneCell' = true} {e base g o n cap : Nat} {ok : Nat → Prop} {W : World} {xs : List α}
end
end Kd
end Go.Proofs.YtdppeaciahdekaaGreatW.PrintWords
end
section
namespace Go.Proofs.YtdppeaciahdekaaGreatW.PrintWords
open Go.RowKit
namespace Kd
def tag {α : Type} (f : Nat → Nat) (d : Kd α) : Kd (α × Nat) where
 sz := d.sz
 E := d.E
 K := fun w x cs => d.K w x.1 cs
 M := fun w base ok x cs => d.M w base (fun k => ok k ∧ f k = x.2) x.1 cs
 K_len := fun h => d.K_len h
 K_one := fun h => d.K_one h
 K_below := fun hb h => d.K_below hb h
 K_of_M := fun h => d.K_of_M h
 M_mono := fun hok h => d.M_mono (fun k hk => ⟨hok k hk.1, hk.2⟩) h
 M_bound := fun h => d.M_mono (fun _ hk => ⟨⟨hk.1.1, hk.2⟩, hk.1.2⟩) (d.M_bound h)
 M_move := fun hm h => d.M_move (fun k hk => hm k hk.1) h
 M_lower := fun hb h => d.M_lower hb h
def raw (sz : Nat) : Kd (List Value) where
 sz := sz
 E := []
 K := fun _ x cs => cs = x ∧ cs.length = sz ∧ ∀ u ∈ cs, u.oneCell' = true
 M := fun _ _ _ x cs => cs = x ∧ cs.length = sz ∧ ∀ u ∈ cs, u.oneCell' = true
 K_len := fun h => h.2.1
 K_one := fun h => h.2.2
 K_below := fun _ h => h
 K_of_M := fun h => h
 M_mono := fun _ h => h
 M_bound := fun h => h
 M_move := fun _ h => h
 M_lower := fun _ h => h
def S {α : Type} (d : Kd α) (e : Nat) (w : World) (base : Nat) (ok : Nat → Prop) (v : Value) (xs : List α) : Prop := ∃ f, (tag f d).R e w base ok v xs.zipIdx
section
variable {α β : Type} {d : Kd α} {d' : Kd β} {e e' : Nat} {w w1 W : World} {base b : Nat} {ok ok' okv oku : Nat → Prop} {u v : Value} {xs : List α} {ys : List β}
end
section
variable {α β : Type} {d : Kd α} {d' : Kd β} {e e' g : Nat} {w w1 W : World} {base b : Nat} {ok ok' okv oku : Nat → Prop} {u v : Value} {xs : List α} {ys : List β}
end
section
variable {P : Program} {ops : Array Oper} {rest : List Oper} {o : Oper} {a : Act} {Q : Exit → Act → World → Prop} {Kc : Act → World → Prop} {α : Type}
end
def gap {α : Type} (f : Nat → Nat) (d : Kd α) (i : Nat) (c : List Value) : Kd (α × Nat) where
 sz := d.sz
 E := d.E
 K := fun w x cs => (x.2 = i → cs = c ∧ cs.length = d.sz ∧ ∀ u ∈ cs, u.oneCell' = true) ∧ (x.2 ≠ i → d.K w x.1 cs)
 M := fun w base ok x cs => (x.2 = i → cs = c ∧ cs.length = d.sz ∧ ∀ u ∈ cs, u.oneCell' = true) ∧ (x.2 ≠ i → d.M w base (fun k => ok k ∧ f k = x.2) x.1 cs)
 K_len := fun {w x cs} h => by
  by_cases hx : x.2 = i
  ·exact (h.1 hx).2.1
  ·exact d.K_len (h.2 hx)
 K_one := fun {w x cs} h => by
  by_cases hx : x.2 = i
  ·exact (h.1 hx).2.2
  ·exact d.K_one (h.2 hx)
 K_below := fun hb h => ⟨h.1, fun hx => d.K_below hb (h.2 hx)⟩
 K_of_M := fun h => ⟨h.1, fun hx => d.K_of_M (h.2 hx)⟩
 M_mono := fun hok h => ⟨h.1, fun hx => d.M_mono (fun k hk => ⟨hok k hk.1, hk.2⟩) (h.2 hx)⟩
 M_bound := fun h => ⟨h.1, fun hx => d.M_mono (fun _ hk => ⟨⟨hk.1.1, hk.2⟩, hk.1.2⟩) (d.M_bound (h.2 hx))⟩
 M_move := fun hm h => ⟨h.1, fun hx => d.M_move (fun k hk => hm k hk.1) (h.2 hx)⟩
 M_lower := fun hb h => ⟨h.1, fun hx => d.M_lower hb (h.2 hx)⟩
def H {α : Type} (d : Kd α) (e : Nat) (w : World) (base : Nat) (ok : Nat → Prop) (v : Value) (xs : List α) (i : Int) (oki : Nat → Prop) (c : List Value) : Prop :=
 (∀ k, oki k → ok k) ∧ ∃ f, (gap f d i.toNat c).R e w base (fun k => ok k ∧ ¬ oki k) v xs.zipIdx
section
variable {α β : Type} {d : Kd α} {e e' g n cap : Nat} {w w1 W : World} {base : Nat} {ok ok' oki okp : Nat → Prop} {u v : Value} {xs : List α} {i : Int} {c : List Value}
end
section
variable {P : Program} {ops : Array Oper} {rest : List Oper} {o : Oper} {a : Act} {Q : Exit → Act → World → Prop} {α : Type}
end
end Kd
end Go.Proofs.YtdppeaciahdekaaGreatW.PrintWords
end
section
namespace Go.Proofs.YtdppeaciahdekaaGreatW.PrintWords
open Go.RowKit
namespace Kd
theorem reps_one {α : Type} {R : α → List Value → Prop} {size : Nat} {ps : List α} {cs : List Value} (h : Reps R size ps cs) (hs0 : 0 < size) (hR : ∀ p c, R p c → ∀ u ∈ c, u.oneCell' = true) : ∀ u ∈ cs, u.oneCell' = true := by
 intro u hu
 obtain ⟨q, hq, rfl⟩ := List.mem_iff_getElem.1 hu
 have hql : q / size < ps.length := by
  rw [Nat.div_lt_iff_lt_mul hs0, ← h.1]
  exact hq
 refine hR _ _ (h.2 (q / size) _ (List.getElem?_eq_getElem hql)) _ ?_
 rw [List.mem_iff_getElem?]
 refine ⟨q % size, ?_⟩
 rw [List.getElem?_take, if_pos (Nat.mod_lt _ hs0), List.getElem?_drop, Nat.mul_comm, Nat.div_add_mod, List.getElem?_eq_getElem hq]
def arr {α : Type} (n : Nat) (d : Kd α) (hs : 0 < d.sz) : Kd (List α) where
 sz := n * d.sz
 E := d.E
 K := fun w xs cs => xs.length = n ∧ Reps (d.K w) d.sz xs cs
 M := fun w base ok xs cs => xs.length = n ∧ Reps (d.M w base ok) d.sz xs cs
 K_len := fun h => by rw [← h.1]; exact h.2.1
 K_one := fun h => reps_one h.2 hs (fun _ _ hk => d.K_one hk)
 K_below := fun hb h => ⟨h.1, h.2.imp_ (fun _ _ hk => d.K_below hb hk)⟩
 K_of_M := fun h => ⟨h.1, h.2.imp_ (fun _ _ hk => d.K_of_M hk)⟩
 M_mono := fun hok h => ⟨h.1, h.2.imp_ (fun _ _ hk => d.M_mono hok hk)⟩
 M_bound := fun h => ⟨h.1, h.2.imp_ (fun _ _ hk => d.M_bound hk)⟩
 M_move := fun hm h => ⟨h.1, h.2.imp_ (fun _ _ hk => d.M_move hm hk)⟩
 M_lower := fun hb h => ⟨h.1, h.2.imp_ (fun _ _ hk => d.M_lower hb hk)⟩
section
variable {α : Type} {n : Nat} {d : Kd α} {hs : 0 < d.sz} {w : World} {base : Nat} {ok : Nat → Prop} {xs : List α} {cs : List Value}
end
section
variable {α : Type} {n : Nat} {enc : α → Value} {h1 : ∀ x, (enc x).oneCell' = true} {hs : 0 < (scalar enc h1).sz} {w : World} {base : Nat} {ok : Nat → Prop} {xs : List α} {cs : List Value}
end
end Kd
end Go.Proofs.YtdppeaciahdekaaGreatW.PrintWords
end
section
namespace Go.Proofs.YtdppeaciahdekaaGreatW.PrintWords
open Go.RowKit
section
variable {P : Program}
end
namespace Kd
section
variable {P : Program} {ops : Array Oper} {rest : List Oper} {o : Oper} {a : Act} {Q : Exit → Act → World → Prop} {Kc : Act → World → Prop} {α : Type}
end
section
variable {α : Type} {d : Kd α} {e : Nat} {w : World} {base : Nat} {ok : Nat → Prop} {v : Value} {xs : List α}
end
section
variable {P : Program} {ops : Array Oper} {rest : List Oper} {o : Oper} {a : Act} {Q : Exit → Act → World → Prop} {Kc : Act → World → Prop} {α : Type}
end
end Kd
end Go.Proofs.YtdppeaciahdekaaGreatW.PrintWords
end
section
namespace Go.Proofs.YtdppeaciahdekaaGreatW.PrintWords
open Go.RowKit
namespace Kd
structure Heap {α : Type} (d : Kd α) : Prop where
 K : ∀ {w w1 : World} {x : α} {cs : List Value}, (∀ k, k < w.heap.size → w1.heap[k]? = w.heap[k]?) → d.K w x cs → d.K w1 x cs
theorem cell_heap {w w1 : World} (hb : ∀ k, k < w.heap.size → w1.heap[k]? = w.heap[k]?) {a : Addr} {v : Value} (h : w.cell? a = some v) : w1.cell? a = some v := by
 have := hb a.block (World.block_lt_of_cell? w a h)
 simpa [World.cell?, this] using h
theorem Heap.C {α : Type} {d : Kd α} (hd : Heap d) {w w1 : World} {A : Option Addr} {n : Nat} {xs : List α} (hb : ∀ k, k < w.heap.size → w1.heap[k]? = w.heap[k]?) (h : d.C w A n xs) : d.C w1 A n xs :=
 ⟨h.1, h.2.1, fun hn => by
  obtain ⟨ad, e, hc⟩ := h.2.2 hn
  refine ⟨ad, e, fun j p hj => ?_⟩
  obtain ⟨c, hs, hr, hcell⟩ := hc j p hj
  exact ⟨c, hs, hd.K hb hr, fun i u hu => cell_heap hb (hcell i u hu)⟩⟩
section
variable {α : Type} {d : Kd α} {e base g n c : Nat} {ok : Nat → Prop} {w w0 W : World} {A : Option Addr} {xs : List α}
end
end Kd
end Go.Proofs.YtdppeaciahdekaaGreatW.PrintWords
end
section
namespace Go.Proofs.YtdppeaciahdekaaGreatW.PrintWords
open Go.RowKit
def Kept (w W : World) (S : Nat → Prop) : Prop := w.heap.size ≤ W.heap.size ∧ ∀ i, i < w.heap.size → ¬ S i → W.heap[i]? = w.heap[i]?
section
variable {w W W2 : World} {S S2 S' : Nat → Prop}
theorem Kept.refl (w : World) (S : Nat → Prop) : Kept w w S := ⟨Nat.le_refl _, fun _ _ _ => rfl⟩
theorem Kept.of_below (h : Below w.heap.size w W) (S : Nat → Prop) : Kept w W S := ⟨h.size, fun i hi _ => h.block i hi⟩
theorem Kept.mono (h : Kept w W S) (hs : ∀ k, S k → S' k) : Kept w W S' := ⟨h.1, fun i hi hn => h.2 i hi (fun hk => hn (hs i hk))⟩
theorem Kept.then_ (h : Kept w W S) (k : Kept W W2 S2) (hs : ∀ k, S2 k → S k ∨ w.heap.size ≤ k) : Kept w W2 S :=
 ⟨Nat.le_trans h.1 k.1, fun i hi hn => (k.2 i (Nat.lt_of_lt_of_le hi h.1) (fun h2 => (hs i h2).elim hn (fun h3 => by omega))).trans (h.2 i hi hn)⟩
theorem Kept.of_grown {row : Option Nat} (hg : W.grownBy W2 row) (h : Kept w W S) (hr : ∀ k, row = some k → S k ∨ w.heap.size ≤ k) : Kept w W2 S :=
 h.then_ (S2 := fun k => row = some k) ⟨hg.size, fun i hi hn => hg.block i hi (fun he => hn he.symm)⟩ hr
theorem Kept.below (h : Kept w W S) (hb : Below W.heap.size W W2) : Kept w W2 S := h.then_ (Kept.of_below hb (fun _ => False)) (fun _ hk => hk.elim)
theorem Kept.alloc (h : Kept w W S) (o : Obj) : Kept w (W.alloc o) S := h.below (below_alloc (Below.refl _ _) o)
theorem Kept.drew (h : Kept w W S) : Kept w W.drew S := h
theorem Kept.drewN (h : Kept w W S) (m : Nat) : Kept w (W.drewN m) S := h
theorem Kept.setCell (h : Kept w W S) {p : Addr} (hp : S p.block ∨ w.heap.size ≤ p.block) (u : Value) : Kept w (W.setCell p u) S :=
 h.then_ (S2 := fun k => k = p.block) ⟨by simp [World.setCell], fun i _ hn => Below.heap_setCell W p u i hn⟩ (fun k hk => by rw [hk]; exact hp)
theorem Kept.keep {g : Nat} (h : KeepBut w W g none) (k : Kept W W2 S2) (hs : ∀ k, S2 k → w.heap.size ≤ k) : KeepBut w W2 g none :=
 ⟨Nat.le_trans h.1 k.1, fun i hi hg hr => (k.2 i (Nat.lt_of_lt_of_le hi h.1) (fun h2 => by have := hs i h2; omega)).trans (h.2 i hi hg hr)⟩
end
namespace Kd
section
variable {α : Type} {d : Kd α} {e base n c : Nat} {ok oki S S2 : Nat → Prop} {w w0 W W1 W2 : World} {v : Value} {A : Option Addr} {xs : List α} {i : Int} {cs : List Value}
end
end Kd
end Go.Proofs.YtdppeaciahdekaaGreatW.PrintWords
end
section
namespace Go.Proofs.YtdppeaciahdekaaGreatW.PrintWords
open Go.RowKit
def Foot (P : World → Prop) (W : World) (ok : Nat → Prop) : Prop := ∀ W' : World, (∀ k, ok k → k < W.heap.size → W'.heap[k]? = W.heap[k]?) → P W'
theorem heap_lt {W W1 : World} {k : Nat} (h : W1.heap[k]? = W.heap[k]?) (hlt : k < W.heap.size) : k < W1.heap.size := by
 rw [Array.getElem?_eq_getElem hlt] at h
 exact (Array.getElem?_eq_some_iff.1 h).1
namespace Foot
variable {P Q : World → Prop} {W W1 : World} {ok ok' : Nat → Prop}
theorem mono (h : Foot P W ok) (hok : ∀ k, ok k → ok' k) : Foot P W ok' := fun W' hW => h W' (fun k hk hlt => hW k (hok k hk) hlt)
theorem bound (h : Foot P W ok) : Foot P W (fun k => ok k ∧ k < W.heap.size) := fun W' hW => h W' (fun k hk hlt => hW k ⟨hk, hlt⟩ hlt)
theorem step (h : Foot P W ok) (hm : ∀ k, ok k → k < W.heap.size → W1.heap[k]? = W.heap[k]?) : Foot P W1 ok := fun W' hW => h W' (fun k hk hlt => (hW k hk (heap_lt (hm k hk hlt) hlt)).trans (hm k hk hlt))
theorem old (h : Foot P W ok) (hb : Below W.heap.size W W1) : Foot P W1 (fun k => ok k ∧ k < W.heap.size) := (h.bound).step (fun k _ hlt => hb.block k hlt)
end Foot
namespace Kd
def F {α : Type} (d : Kd α) (W : World) (ok : Nat → Prop) (A : Option Addr) (n : Nat) (xs : List α) : Prop := Foot (fun W => d.C W A n xs) W ok
def FK {α : Type} (d : Kd α) (W : World) (ok : Nat → Prop) (x : α) (c : List Value) : Prop := Foot (fun W => d.K W x c) W ok
section
variable {α β : Type} {d : Kd α} {e base n n' cc g N : Nat} {ok ok' okp S : Nat → Prop} {w w0 w1 W W1 : World} {A A' : Option Addr} {u v v1 : Value} {xs : List α} {xs' : List β} {d' : Kd β} {x : α} {c : List Value}
end
end Kd
end Go.Proofs.YtdppeaciahdekaaGreatW.PrintWords
end
section
namespace Go.Proofs.YtdppeaciahdekaaGreatW.PrintWords
open Go.RowKit
namespace Kd
section
variable {α : Type} {d : Kd α} {e base n cc g : Nat} {ok ok' okp S : Nat → Prop} {w w1 W W1 : World} {A : Option Addr} {u v v1 : Value} {xs : List α} {x : α} {c : List Value}
def N {α : Type} (d : Kd α) (e : Nat) (w : World) (base : Nat) (ok : Nat → Prop) (v : Value) (xs : List α) : Prop :=
 (∀ k, v.ownBlock = some k → ok k) ∧ ∃ rows : List (List Value), rows.length = xs.length ∧ (raw d.sz).R e w base (fun k => some k = v.ownBlock) v rows ∧ ∀ (j : Nat) (x : α) (c : List Value), xs[j]? = some x → rows[j]? = some c → FK d w (fun k => ok k ∧ some k ≠ v.ownBlock) x c
end
end Kd
end Go.Proofs.YtdppeaciahdekaaGreatW.PrintWords
end
section
namespace Go.Proofs.YtdppeaciahdekaaGreatW.PrintWords
open Go.RowKit
namespace Kd
section
variable {α : Type} {d : Kd α} {W : World} {g n : Nat} {S ok : Nat → Prop} {A : Option Addr} {ad : Addr} {xs : List α}
end
end Kd
end Go.Proofs.YtdppeaciahdekaaGreatW.PrintWords
end
section
namespace Go.Proofs.YtdppeaciahdekaaGreatW.PrintWords
open Go.RowKit
section
variable {w w' u : World} {m B g : Nat} {o : Obj} {row : Option Nat} {S : Nat → Prop} {a : Addr} {v : Value}
end
namespace Kd
section
variable {α : Type} {d : Kd α} {e base n m : Nat} {ok : Nat → Prop} {w w' : World} {v : Value} {A : Option Addr} {xs : List α}
end
end Kd
end Go.Proofs.YtdppeaciahdekaaGreatW.PrintWords
end
section
namespace Go.Proofs.YtdppeaciahdekaaGreatW.PrintWords
open Go.RowKit
section
variable {P : Program} {d : Nat} {xs ys : Array Value} {f : Field} {fs : List Field} {a b : Value} {r s : Bool} {w : World}
theorem eqf_last (hn : (f.name == "_") = false) (ha : (part f.type xs f.offset).run P w = .ok a w) (hb : (part f.type ys f.offset).run P w = .ok b w) (he : (Op.equalIn d f.type a b).run P w = .ok r w) : (Op.eqFields d xs ys [f]).run P w = .ok r w := by
 have hn' : f.name ≠ "_" := by simpa using hn
 simp only [Op.eqFields, if_pos hn', Sem.run_bind, ha, hb, he, Result.andThen_ok]
 cases r <;> simp
theorem eqf_cons (hn : (f.name == "_") = false) (ha : (part f.type xs f.offset).run P w = .ok a w) (hb : (part f.type ys f.offset).run P w = .ok b w) (he : (Op.equalIn d f.type a b).run P w = .ok r w) (hr : (Op.eqFields d xs ys fs).run P w = .ok s w) : (Op.eqFields d xs ys (f :: fs)).run P w = .ok (r && s) w := by
 have hn' : f.name ≠ "_" := by simpa using hn
 rw [Op.eqFields]
 simp only [if_pos hn', Sem.run_bind, ha, hb, he, Result.andThen_ok]
 cases r
 ·simp
 ·simpa using hr
theorem eqA_of {t : TypeId} {fs : Array Field} (hu : P.underlying t = some (.struct fs)) (hp : P.stoodInHeld t = false) (h : (Op.eqFields d xs ys fs.toList).run P w = .ok r w) : (Op.equalIn (d + 1) t (.agg xs) (.agg ys)).run P w = .ok r w := by
 have hf : P.fieldsOf t = fs := by simp [Program.fieldsOf, hu]
 rw [run_equalIn_struct (P := P) w d t xs ys (by rw [hf]; exact hu) hp, hf]
 exact h
end
end Go.Proofs.YtdppeaciahdekaaGreatW.PrintWords
end
section
namespace Go.Proofs.YtdppeaciahdekaaGreatW.PrintWords
theorem Reps.one {α : Type} {R : α → List Value → Prop} {ps : List α} {cs : List Value} {p : α} {v : Value} (hp : R p [v]) (h : Reps R 1 ps cs) : Reps R 1 (p :: ps) (v :: cs) := by
 refine ⟨by simp [h.1], fun j q hq => ?_⟩
 cases j with
 | zero =>
  simp only [List.getElem?_cons_zero, Option.some.injEq] at hq
  subst hq
  simpa using hp
 | succ j =>
  simp only [List.getElem?_cons_succ] at hq
  have h1 := h.2 j q hq
  simpa [Nat.mul_one] using h1
theorem Reps.front {α : Type} {R : α → List Value → Prop} {size : Nat} {ps : List α} {cs c all : List Value} {p : α} (hp : R p c) (hc : c.length = size) (h : Reps R size ps cs) (ha : c ++ cs = all) : Reps R size (p :: ps) all := by
 subst ha
 refine ⟨by rw [List.length_append, hc, h.1, List.length_cons, Nat.succ_mul, Nat.add_comm], fun j q hq => ?_⟩
 cases j with
 | zero =>
  simp only [List.getElem?_cons_zero, Option.some.injEq] at hq
  subst hq
  rw [Nat.zero_mul, List.drop_zero, List.take_append_of_le_length (by omega), List.take_of_length_le (by omega)]
  exact hp
 | succ j =>
  simp only [List.getElem?_cons_succ] at hq
  have h1 := h.2 j q hq
  rw [Nat.succ_mul, List.drop_append, List.drop_of_length_le (by rw [hc]; exact Nat.le_add_left _ _), List.nil_append, hc, Nat.add_sub_cancel]
  exact h1
theorem Reps.c2 {α : Type} {R : α → List Value → Prop} {ps : List α} {cs : List Value} {p : α} {va vb : Value} (hp : R p [va, vb]) (h : Reps R 2 ps cs) : Reps R 2 (p :: ps) (va :: vb :: cs) := Reps.front hp rfl h rfl
theorem Reps.c3 {α : Type} {R : α → List Value → Prop} {ps : List α} {cs : List Value} {p : α} {va vb vc : Value} (hp : R p [va, vb, vc]) (h : Reps R 3 ps cs) : Reps R 3 (p :: ps) (va :: vb :: vc :: cs) := Reps.front hp rfl h rfl
theorem Reps.c4 {α : Type} {R : α → List Value → Prop} {ps : List α} {cs : List Value} {p : α} {va vb vc vd : Value} (hp : R p [va, vb, vc, vd]) (h : Reps R 4 ps cs) : Reps R 4 (p :: ps) (va :: vb :: vc :: vd :: cs) := Reps.front hp rfl h rfl
theorem Reps.c5 {α : Type} {R : α → List Value → Prop} {ps : List α} {cs : List Value} {p : α} {va vb vc vd ve : Value} (hp : R p [va, vb, vc, vd, ve]) (h : Reps R 5 ps cs) : Reps R 5 (p :: ps) (va :: vb :: vc :: vd :: ve :: cs) := Reps.front hp rfl h rfl
theorem Reps.c6 {α : Type} {R : α → List Value → Prop} {ps : List α} {cs : List Value} {p : α} {va vb vc vd ve vf : Value} (hp : R p [va, vb, vc, vd, ve, vf]) (h : Reps R 6 ps cs) : Reps R 6 (p :: ps) (va :: vb :: vc :: vd :: ve :: vf :: cs) := Reps.front hp rfl h rfl
theorem Reps.c7 {α : Type} {R : α → List Value → Prop} {ps : List α} {cs : List Value} {p : α} {va vb vc vd ve vf vg : Value} (hp : R p [va, vb, vc, vd, ve, vf, vg]) (h : Reps R 7 ps cs) : Reps R 7 (p :: ps) (va :: vb :: vc :: vd :: ve :: vf :: vg :: cs) := Reps.front hp rfl h rfl
theorem Reps.c8 {α : Type} {R : α → List Value → Prop} {ps : List α} {cs : List Value} {p : α} {va vb vc vd ve vf vg vh : Value} (hp : R p [va, vb, vc, vd, ve, vf, vg, vh]) (h : Reps R 8 ps cs) : Reps R 8 (p :: ps) (va :: vb :: vc :: vd :: ve :: vf :: vg :: vh :: cs) := Reps.front hp rfl h rfl
theorem Reps.c9 {α : Type} {R : α → List Value → Prop} {ps : List α} {cs : List Value} {p : α} {va vb vc vd ve vf vg vh vi : Value} (hp : R p [va, vb, vc, vd, ve, vf, vg, vh, vi]) (h : Reps R 9 ps cs) : Reps R 9 (p :: ps) (va :: vb :: vc :: vd :: ve :: vf :: vg :: vh :: vi :: cs) := Reps.front hp rfl h rfl
theorem Reps.c10 {α : Type} {R : α → List Value → Prop} {ps : List α} {cs : List Value} {p : α} {va vb vc vd ve vf vg vh vi vj : Value} (hp : R p [va, vb, vc, vd, ve, vf, vg, vh, vi, vj]) (h : Reps R 10 ps cs) : Reps R 10 (p :: ps) (va :: vb :: vc :: vd :: ve :: vf :: vg :: vh :: vi :: vj :: cs) := Reps.front hp rfl h rfl
end Go.Proofs.YtdppeaciahdekaaGreatW.PrintWords
end
section
namespace Go.Proofs.YtdppeaciahdekaaGreatW.PrintLast
section
variable {P : Program} {ops : Array Oper} {Q : Exit → Act → World → Prop} {md : Region.Mode} {T : Bool × List (List Nat × List Nat)} {B : List Nat} {O : List Nat} {b : Nat → Bool} {i j n : Nat}
def Closed (T : List (List Nat × List Nat)) (O : List Nat) (b : Nat → Bool) : Prop := ∀ d r, T[d]? = some r → O.contains d = true → b d = true → ∀ n ∈ r.1, O.contains n = true → b n = true
end
end Go.Proofs.YtdppeaciahdekaaGreatW.PrintLast
end
section
namespace Go.Proofs.YtdppeaciahdekaaGreatW.PrintWords
open Go.RowKit
end Go.Proofs.YtdppeaciahdekaaGreatW.PrintWords
namespace Go.Proofs.YtdppeaciahdekaaGreatW.PrintLast
section
variable {ops : Array Oper} {a : Act} {o og : Oper} {g : Nat} {t : Tmp} {u : Bool}
end
end Go.Proofs.YtdppeaciahdekaaGreatW.PrintLast
end
section
namespace Go.Proofs.YtdppeaciahdekaaGreatW.PrintWords
open Go.RowKit
section
variable {P : Program} {ops : Array Oper} {rest : List Oper} {o : Oper} {a : Act} {Q : Exit → Act → World → Prop} {W : World}
end
end Go.Proofs.YtdppeaciahdekaaGreatW.PrintWords
end
section
namespace Go.Proofs.YtdppeaciahdekaaGreatW.PrintWords
open Go.RowKit
namespace Kd
section
variable {α : Type} {d : Kd α} {e base n cap g : Nat} {ok ok' okp : Nat → Prop} {w w1 W : World} {v v1 : Value} {xs ys : List α}
end
section
variable {P : Program} {ops : Array Oper} {rest : List Oper} {o : Oper} {a : Act} {Q : Exit → Act → World → Prop} {Kc : Act → World → Prop} {α : Type}
end
end Kd
end Go.Proofs.YtdppeaciahdekaaGreatW.PrintWords
end
section
namespace Go.Proofs.YtdppeaciahdekaaGreatW.PrintMore
open Go.RowKit Go.Proofs.YtdppeaciahdekaaGreatW.PrintWords
namespace Kd
open Go.Proofs.YtdppeaciahdekaaGreatW.PrintWords.Kd
end Kd
namespace Kd
open Go.Proofs.YtdppeaciahdekaaGreatW.PrintWords.Kd
section
variable {α : Type} {d : Kd α} {e base g N : Nat} {ok : Nat → Prop} {W w1 : World} {u v : Value} {xs : List α}
end
end Kd
theorem max2_int (k k' : IntKind) (x y : Int) : Builtin.max2 (.int k x) (.int k' y) = pure (.int k (if x < y then y else x)) := by simp only [Builtin.max2, gt_iff_lt]
theorem min2_int (k k' : IntKind) (x y : Int) : Builtin.min2 (.int k x) (.int k' y) = pure (.int k (if y < x then y else x)) := by simp only [Builtin.min2]
theorem max_two (ats : Array TypeId) (ty : TypeId) (a b : Value) : Builtin.max_ ats ty #[a, b] = (Builtin.max2 a b >>= fun s => pure s) := by simp only [Builtin.max_, List.foldlM_cons, List.foldlM_nil]
theorem min_two (ats : Array TypeId) (ty : TypeId) (a b : Value) : Builtin.min_ ats ty #[a, b] = (Builtin.min2 a b >>= fun s => pure s) := by simp only [Builtin.min_, List.foldlM_cons, List.foldlM_nil]
theorem max_three (ats : Array TypeId) (ty : TypeId) (a b c : Value) : Builtin.max_ ats ty #[a, b, c] = (Builtin.max2 a b >>= fun s => Builtin.max2 s c >>= fun s => pure s) := by simp only [Builtin.max_, List.foldlM_cons, List.foldlM_nil]
theorem min_three (ats : Array TypeId) (ty : TypeId) (a b c : Value) : Builtin.min_ ats ty #[a, b, c] = (Builtin.min2 a b >>= fun s => Builtin.min2 s c >>= fun s => pure s) := by simp only [Builtin.min_, List.foldlM_cons, List.foldlM_nil]
theorem max_four (ats : Array TypeId) (ty : TypeId) (a b c d : Value) : Builtin.max_ ats ty #[a, b, c, d] = (Builtin.max2 a b >>= fun s => Builtin.max2 s c >>= fun s => Builtin.max2 s d >>= fun s => pure s) := by simp only [Builtin.max_, List.foldlM_cons, List.foldlM_nil]
theorem min_four (ats : Array TypeId) (ty : TypeId) (a b c d : Value) : Builtin.min_ ats ty #[a, b, c, d] = (Builtin.min2 a b >>= fun s => Builtin.min2 s c >>= fun s => Builtin.min2 s d >>= fun s => pure s) := by simp only [Builtin.min_, List.foldlM_cons, List.foldlM_nil]
end Go.Proofs.YtdppeaciahdekaaGreatW.PrintMore
namespace Go.Proofs.YtdppeaciahdekaaGreatW.PrintWords
open Go.RowKit
section
variable {P : Program} {ops : Array Oper} {rest : List Oper} {o : Oper} {a : Act} {Q : Exit → Act → World → Prop} {W : World}
theorem gate_builtin {b : Builtin} {xs : Array Operand} {ts : Array TypeId} (_ho : o.op = .call { callee := .builtin b, args := xs, argTypes := ts }) (h : wpList P ops Q (o :: rest) a W) : wpList P ops Q (o :: rest) a W := h
end
def mx (a b : Int) : Int := if a < b then b else a
def shl (k : IntKind) (x y : Int) : Int := k.wrap (x * 2 ^ min y.toNat k.bits)
def shr (k : IntKind) (x y : Int) : Int := x / 2 ^ min y.toNat k.bits
theorem shl_small {k : IntKind} {x y j : Int} (h : shl k x y = j) (hy : y ≤ k.bits) : k.wrap (x * 2 ^ y.toNat) = j := by rw [← h]; unfold shl; rw [Nat.min_eq_left (by omega)]
namespace Kd
section
variable {α : Type} {d : Kd α} {e base : Nat} {ok : Nat → Prop} {W w1 : World} {v : Value} {xs : List α}
end
section
variable {α : Type} {d : Kd α} {e base g n cap : Nat} {ok oki okp : Nat → Prop} {W : World} {xs : List α} {i : Int} {c : List Value}
end
section
variable {α : Type} {d : Kd α} {e base b b' g N : Nat} {ok ok1 : Nat → Prop} {W W2 w1 : World} {u v : Value} {xs ys : List α} {S : Nat → Prop}
end
end Kd
end Go.Proofs.YtdppeaciahdekaaGreatW.PrintWords
namespace Go.Proofs.YtdppeaciahdekaaGreatW.PrintWords
open Go.RowKit
namespace Kd
def V {α : Type} (d : Kd α) (_e : Nat) (W : World) (_base : Nat) (ok : Nat → Prop) (v : Value) (xs : List α) : Prop := ∃ A c, v = .slice A xs.length c ∧ xs.length ≤ c ∧ F d W ok A xs.length xs
section
variable {α β : Type} {d : Kd α} {e base base' n m c g N' lo hi : Nat} {ok ok' S : Nat → Prop} {w W w1 : World} {A : Option Addr} {ad : Addr} {u v v1 : Value} {xs : List α}
end
end Kd
end Go.Proofs.YtdppeaciahdekaaGreatW.PrintWords
end
section
namespace Go.Proofs.YtdppeaciahdekaaGreat.PLockParts
open Go.RowKit Go.Proofs.YtdppeaciahdekaaGreatW.PrintWords Go.Proofs.YtdppeaciahdekaaGreatW.PrintLast Go.Proofs.YtdppeaciahdekaaGreatW.PrintMore
attribute [local go_sem] max2_int min2_int max_two min_two max_three min_three max_four min_four   -- for this text's walks alone
theorem info160 : (Tryz.prog.info? 160).map (fun i => (i.zero, i.size, i.bytes)) = some (some (.agg #[(.int .i64 0), (.int .i64 0), (.int .i64 0), (.int .i64 0), (.int .i64 0), (.int .i64 0)]), 6, 48) := by kernel_rfl
structure S127 where
 f0 : Int
 f1 : Int
 f2 : (List Int)
def z127 : S127 := ⟨(0 : Int), (0 : Int), ([] : List Int)⟩
def k127 : Kd S127 := Kd.iso (Kd.pair (Kd.int .i64) (Kd.pair (Kd.int .i64) (Kd.slice 5 (Kd.int .u8)))) (fun x : S127 => (x.f0, x.f1, x.f2))
theorem k127_open {w : World} {x : S127} {cs : List Value} (h : k127.K w x cs) : ∃ A2 c2, cs = [.int .i64 x.f0, .int .i64 x.f1, .slice A2 x.f2.length c2] ∧ x.f2.length ≤ c2 ∧ (Kd.int .u8).C w A2 x.f2.length x.f2 := by
 obtain ⟨_, _, rfl, rfl, ⟨_, _, rfl, rfl, ⟨A2, c2, rfl, l2, g2⟩⟩⟩ := h
 exact ⟨A2, c2, rfl, l2, g2⟩
theorem k127_mk (w : World) (x : S127) {A2 : Option Addr} {c2 : Nat} (l2 : x.f2.length ≤ c2) (g2 : (Kd.int .u8).C w A2 x.f2.length x.f2) : k127.K w x [.int .i64 x.f0, .int .i64 x.f1, .slice A2 x.f2.length c2] := ⟨[.int .i64 x.f0], [.int .i64 x.f1, .slice A2 x.f2.length c2], rfl, rfl, ⟨[.int .i64 x.f1], [.slice A2 x.f2.length c2], rfl, rfl, ⟨A2, c2, rfl, l2, g2⟩⟩⟩
def rd_T127 (xs : List S127) (i : Int) : S127 := xs.getD i.toNat z127
theorem at_T127 {w : World} {A : Option Addr} {n : Nat} {xs : List S127} (h : Kd.C k127 w A n xs) (i : Int) (h0 : 0 ≤ i) (h1 : i < n) : ∃ ad A2 c2, A = some ad ∧ w.cell? (ad.add (i.toNat * 3)) = some (.int .i64 (rd_T127 xs i).f0) ∧ w.cell? ⟨(ad.add (i.toNat * 3)).block, (ad.add (i.toNat * 3)).off + 1, none⟩ = some (.int .i64 (rd_T127 xs i).f1) ∧ w.cell? ⟨(ad.add (i.toNat * 3)).block, (ad.add (i.toNat * 3)).off + 2, none⟩ = some (.slice A2 (rd_T127 xs i).f2.length c2) ∧ (rd_T127 xs i).f2.length ≤ c2 ∧ (Kd.int .u8).C w A2 (rd_T127 xs i).f2.length (rd_T127 xs i).f2 := by
 obtain ⟨ad, c, e, _, hK, hc0⟩ := Kd.C_get h z127 i h0 h1
 have hc : ∀ j u, c[j]? = some u → w.cell? (ad.add (i.toNat * 3 + j)) = some u := hc0
 obtain ⟨A2, c2, rfl, l2, g2⟩ := k127_open hK
 exact ⟨ad, A2, c2, e, hc 0 _ rfl, by rw [← add_field _ _ 1 (by omega)]; exact hc 1 _ rfl, by rw [← add_field _ _ 2 (by omega)]; exact hc 2 _ rfl, l2, g2⟩
structure S218 where
 f0 : Int
 f1 : Int
 f2 : Int
 f3 : Int
 f4 : Int
 f5 : Int
 f6 : (List Int)
def z218 : S218 := ⟨(0 : Int), (0 : Int), (0 : Int), (0 : Int), (0 : Int), (0 : Int), ([] : List Int)⟩
def k218 : Kd S218 := Kd.iso (Kd.pair (Kd.int .u8) (Kd.pair (Kd.int .u8) (Kd.pair (Kd.int .u8) (Kd.pair (Kd.int .u8) (Kd.pair (Kd.int .u8) (Kd.pair (Kd.int .u8) (Kd.slice 5 (Kd.int .u8)))))))) (fun x : S218 => (x.f0, x.f1, x.f2, x.f3, x.f4, x.f5, x.f6))
theorem k218_open {w : World} {x : S218} {cs : List Value} (h : k218.K w x cs) : ∃ A6 c6, cs = [.int .u8 x.f0, .int .u8 x.f1, .int .u8 x.f2, .int .u8 x.f3, .int .u8 x.f4, .int .u8 x.f5, .slice A6 x.f6.length c6] ∧ x.f6.length ≤ c6 ∧ (Kd.int .u8).C w A6 x.f6.length x.f6 := by
 obtain ⟨_, _, rfl, rfl, ⟨_, _, rfl, rfl, ⟨_, _, rfl, rfl, ⟨_, _, rfl, rfl, ⟨_, _, rfl, rfl, ⟨_, _, rfl, rfl, ⟨A6, c6, rfl, l6, g6⟩⟩⟩⟩⟩⟩⟩ := h
 exact ⟨A6, c6, rfl, l6, g6⟩
theorem k218_mk (w : World) (x : S218) {A6 : Option Addr} {c6 : Nat} (l6 : x.f6.length ≤ c6) (g6 : (Kd.int .u8).C w A6 x.f6.length x.f6) : k218.K w x [.int .u8 x.f0, .int .u8 x.f1, .int .u8 x.f2, .int .u8 x.f3, .int .u8 x.f4, .int .u8 x.f5, .slice A6 x.f6.length c6] := ⟨[.int .u8 x.f0], [.int .u8 x.f1, .int .u8 x.f2, .int .u8 x.f3, .int .u8 x.f4, .int .u8 x.f5, .slice A6 x.f6.length c6], rfl, rfl, ⟨[.int .u8 x.f1], [.int .u8 x.f2, .int .u8 x.f3, .int .u8 x.f4, .int .u8 x.f5, .slice A6 x.f6.length c6], rfl, rfl, ⟨[.int .u8 x.f2], [.int .u8 x.f3, .int .u8 x.f4, .int .u8 x.f5, .slice A6 x.f6.length c6], rfl, rfl, ⟨[.int .u8 x.f3], [.int .u8 x.f4, .int .u8 x.f5, .slice A6 x.f6.length c6], rfl, rfl, ⟨[.int .u8 x.f4], [.int .u8 x.f5, .slice A6 x.f6.length c6], rfl, rfl, ⟨[.int .u8 x.f5], [.slice A6 x.f6.length c6], rfl, rfl, ⟨A6, c6, rfl, l6, g6⟩⟩⟩⟩⟩⟩⟩
def rd_T218 (xs : List S218) (i : Int) : S218 := xs.getD i.toNat z218
theorem at_T218 {w : World} {A : Option Addr} {n : Nat} {xs : List S218} (h : Kd.C k218 w A n xs) (i : Int) (h0 : 0 ≤ i) (h1 : i < n) : ∃ ad A6 c6, A = some ad ∧ w.cell? (ad.add (i.toNat * 7)) = some (.int .u8 (rd_T218 xs i).f0) ∧ w.cell? ⟨(ad.add (i.toNat * 7)).block, (ad.add (i.toNat * 7)).off + 1, none⟩ = some (.int .u8 (rd_T218 xs i).f1) ∧ w.cell? ⟨(ad.add (i.toNat * 7)).block, (ad.add (i.toNat * 7)).off + 2, none⟩ = some (.int .u8 (rd_T218 xs i).f2) ∧ w.cell? ⟨(ad.add (i.toNat * 7)).block, (ad.add (i.toNat * 7)).off + 3, none⟩ = some (.int .u8 (rd_T218 xs i).f3) ∧ w.cell? ⟨(ad.add (i.toNat * 7)).block, (ad.add (i.toNat * 7)).off + 4, none⟩ = some (.int .u8 (rd_T218 xs i).f4) ∧ w.cell? ⟨(ad.add (i.toNat * 7)).block, (ad.add (i.toNat * 7)).off + 5, none⟩ = some (.int .u8 (rd_T218 xs i).f5) ∧ w.cell? ⟨(ad.add (i.toNat * 7)).block, (ad.add (i.toNat * 7)).off + 6, none⟩ = some (.slice A6 (rd_T218 xs i).f6.length c6) ∧ (rd_T218 xs i).f6.length ≤ c6 ∧ (Kd.int .u8).C w A6 (rd_T218 xs i).f6.length (rd_T218 xs i).f6 := by
 obtain ⟨ad, c, e, _, hK, hc0⟩ := Kd.C_get h z218 i h0 h1
 have hc : ∀ j u, c[j]? = some u → w.cell? (ad.add (i.toNat * 7 + j)) = some u := hc0
 obtain ⟨A6, c6, rfl, l6, g6⟩ := k218_open hK
 exact ⟨ad, A6, c6, e, hc 0 _ rfl, by rw [← add_field _ _ 1 (by omega)]; exact hc 1 _ rfl, by rw [← add_field _ _ 2 (by omega)]; exact hc 2 _ rfl, by rw [← add_field _ _ 3 (by omega)]; exact hc 3 _ rfl, by rw [← add_field _ _ 4 (by omega)]; exact hc 4 _ rfl, by rw [← add_field _ _ 5 (by omega)]; exact hc 5 _ rfl, by rw [← add_field _ _ 6 (by omega)]; exact hc 6 _ rfl, l6, g6⟩
def rd_L5 (xs : List (List S218)) (i : Int) : (List S218) := xs.getD i.toNat ([] : List S218)
theorem at_L5 {w : World} {A : Option Addr} {n : Nat} {xs : List (List S218)} (h : Kd.C (Kd.slice 218 k218) w A n xs) (i : Int) (h0 : 0 ≤ i) (h1 : i < n) : ∃ ad A0 c0, A = some ad ∧ w.cell? (ad.add i.toNat) = some (.slice A0 (rd_L5 xs i).length c0) ∧ (rd_L5 xs i).length ≤ c0 ∧ k218.C w A0 (rd_L5 xs i).length (rd_L5 xs i) := by
 obtain ⟨ad, c, e, _, hK, hc0⟩ := Kd.C_get h ([] : List S218) i h0 h1
 have hc : ∀ j u, c[j]? = some u → w.cell? (ad.add (i.toNat * 1 + j)) = some u := hc0
 obtain ⟨A0, c0, rfl, l0, g0⟩ := hK
 exact ⟨ad, A0, c0, e, by have hq := hc 0 _ rfl; rwa [Nat.mul_one, Nat.add_zero] at hq, l0, g0⟩
structure S184 where
 f0 : Int
 f1 : Int
 f2 : Int
 f3 : Bool
def z184 : S184 := ⟨(0 : Int), (0 : Int), (0 : Int), false⟩
def k184 : Kd S184 := Kd.iso (Kd.pair (Kd.int .i64) (Kd.pair (Kd.int .i64) (Kd.pair (Kd.int .i64) Kd.bool))) (fun x : S184 => (x.f0, x.f1, x.f2, x.f3))
theorem k184_open {w : World} {x : S184} {cs : List Value} (h : k184.K w x cs) : cs = [.int .i64 x.f0, .int .i64 x.f1, .int .i64 x.f2, .bool x.f3] := by
 obtain ⟨_, _, rfl, rfl, ⟨_, _, rfl, rfl, ⟨_, _, rfl, rfl, rfl⟩⟩⟩ := h
 exact rfl
theorem k184_mk (w : World) (x : S184)  : k184.K w x [.int .i64 x.f0, .int .i64 x.f1, .int .i64 x.f2, .bool x.f3] := ⟨[.int .i64 x.f0], [.int .i64 x.f1, .int .i64 x.f2, .bool x.f3], rfl, rfl, ⟨[.int .i64 x.f1], [.int .i64 x.f2, .bool x.f3], rfl, rfl, ⟨[.int .i64 x.f2], [.bool x.f3], rfl, rfl, rfl⟩⟩⟩
theorem k184_mkM (w : World) (base : Nat) (ok : Nat → Prop) (x : S184)  : k184.M w base ok x [.int .i64 x.f0, .int .i64 x.f1, .int .i64 x.f2, .bool x.f3] := ⟨[.int .i64 x.f0], [.int .i64 x.f1, .int .i64 x.f2, .bool x.f3], rfl, rfl, ⟨[.int .i64 x.f1], [.int .i64 x.f2, .bool x.f3], rfl, rfl, ⟨[.int .i64 x.f2], [.bool x.f3], rfl, rfl, rfl⟩⟩⟩
def rd_T184 (xs : List S184) (i : Int) : S184 := xs.getD i.toNat z184
theorem at_T184 {w : World} {A : Option Addr} {n : Nat} {xs : List S184} (h : Kd.C k184 w A n xs) (i : Int) (h0 : 0 ≤ i) (h1 : i < n) : ∃ ad , A = some ad ∧ w.cell? (ad.add (i.toNat * 4)) = some (.int .i64 (rd_T184 xs i).f0) ∧ w.cell? ⟨(ad.add (i.toNat * 4)).block, (ad.add (i.toNat * 4)).off + 1, none⟩ = some (.int .i64 (rd_T184 xs i).f1) ∧ w.cell? ⟨(ad.add (i.toNat * 4)).block, (ad.add (i.toNat * 4)).off + 2, none⟩ = some (.int .i64 (rd_T184 xs i).f2) ∧ w.cell? ⟨(ad.add (i.toNat * 4)).block, (ad.add (i.toNat * 4)).off + 3, none⟩ = some (.bool (rd_T184 xs i).f3) := by
 obtain ⟨ad, c, e, _, hK, hc0⟩ := Kd.C_get h z184 i h0 h1
 have hc : ∀ j u, c[j]? = some u → w.cell? (ad.add (i.toNat * 4 + j)) = some u := hc0
 obtain rfl := k184_open hK
 exact ⟨ad, e, hc 0 _ rfl, by rw [← add_field _ _ 1 (by omega)]; exact hc 1 _ rfl, by rw [← add_field _ _ 2 (by omega)]; exact hc 2 _ rfl, by rw [← add_field _ _ 3 (by omega)]; exact hc 3 _ rfl⟩
structure S160 where
 f0 : Int
 f1 : Int
 f2 : Int
 f3 : Int
 f4 : Int
 f5 : Int
def z160 : S160 := ⟨(0 : Int), (0 : Int), (0 : Int), (0 : Int), (0 : Int), (0 : Int)⟩
def k160 : Kd S160 := Kd.iso (Kd.pair (Kd.int .i64) (Kd.pair (Kd.int .i64) (Kd.pair (Kd.int .i64) (Kd.pair (Kd.int .i64) (Kd.pair (Kd.int .i64) (Kd.int .i64)))))) (fun x : S160 => (x.f0, x.f1, x.f2, x.f3, x.f4, x.f5))
theorem k160_open {w : World} {x : S160} {cs : List Value} (h : k160.K w x cs) : cs = [.int .i64 x.f0, .int .i64 x.f1, .int .i64 x.f2, .int .i64 x.f3, .int .i64 x.f4, .int .i64 x.f5] := by
 obtain ⟨_, _, rfl, rfl, ⟨_, _, rfl, rfl, ⟨_, _, rfl, rfl, ⟨_, _, rfl, rfl, ⟨_, _, rfl, rfl, rfl⟩⟩⟩⟩⟩ := h
 exact rfl
theorem k160_mk (w : World) (x : S160)  : k160.K w x [.int .i64 x.f0, .int .i64 x.f1, .int .i64 x.f2, .int .i64 x.f3, .int .i64 x.f4, .int .i64 x.f5] := ⟨[.int .i64 x.f0], [.int .i64 x.f1, .int .i64 x.f2, .int .i64 x.f3, .int .i64 x.f4, .int .i64 x.f5], rfl, rfl, ⟨[.int .i64 x.f1], [.int .i64 x.f2, .int .i64 x.f3, .int .i64 x.f4, .int .i64 x.f5], rfl, rfl, ⟨[.int .i64 x.f2], [.int .i64 x.f3, .int .i64 x.f4, .int .i64 x.f5], rfl, rfl, ⟨[.int .i64 x.f3], [.int .i64 x.f4, .int .i64 x.f5], rfl, rfl, ⟨[.int .i64 x.f4], [.int .i64 x.f5], rfl, rfl, rfl⟩⟩⟩⟩⟩
theorem k160_mkM (w : World) (base : Nat) (ok : Nat → Prop) (x : S160)  : k160.M w base ok x [.int .i64 x.f0, .int .i64 x.f1, .int .i64 x.f2, .int .i64 x.f3, .int .i64 x.f4, .int .i64 x.f5] := ⟨[.int .i64 x.f0], [.int .i64 x.f1, .int .i64 x.f2, .int .i64 x.f3, .int .i64 x.f4, .int .i64 x.f5], rfl, rfl, ⟨[.int .i64 x.f1], [.int .i64 x.f2, .int .i64 x.f3, .int .i64 x.f4, .int .i64 x.f5], rfl, rfl, ⟨[.int .i64 x.f2], [.int .i64 x.f3, .int .i64 x.f4, .int .i64 x.f5], rfl, rfl, ⟨[.int .i64 x.f3], [.int .i64 x.f4, .int .i64 x.f5], rfl, rfl, ⟨[.int .i64 x.f4], [.int .i64 x.f5], rfl, rfl, rfl⟩⟩⟩⟩⟩
def rd_T160 (xs : List S160) (i : Int) : S160 := xs.getD i.toNat z160
theorem at_T160 {w : World} {A : Option Addr} {n : Nat} {xs : List S160} (h : Kd.C k160 w A n xs) (i : Int) (h0 : 0 ≤ i) (h1 : i < n) : ∃ ad , A = some ad ∧ w.cell? (ad.add (i.toNat * 6)) = some (.int .i64 (rd_T160 xs i).f0) ∧ w.cell? ⟨(ad.add (i.toNat * 6)).block, (ad.add (i.toNat * 6)).off + 1, none⟩ = some (.int .i64 (rd_T160 xs i).f1) ∧ w.cell? ⟨(ad.add (i.toNat * 6)).block, (ad.add (i.toNat * 6)).off + 2, none⟩ = some (.int .i64 (rd_T160 xs i).f2) ∧ w.cell? ⟨(ad.add (i.toNat * 6)).block, (ad.add (i.toNat * 6)).off + 3, none⟩ = some (.int .i64 (rd_T160 xs i).f3) ∧ w.cell? ⟨(ad.add (i.toNat * 6)).block, (ad.add (i.toNat * 6)).off + 4, none⟩ = some (.int .i64 (rd_T160 xs i).f4) ∧ w.cell? ⟨(ad.add (i.toNat * 6)).block, (ad.add (i.toNat * 6)).off + 5, none⟩ = some (.int .i64 (rd_T160 xs i).f5) := by
 obtain ⟨ad, c, e, _, hK, hc0⟩ := Kd.C_get h z160 i h0 h1
 have hc : ∀ j u, c[j]? = some u → w.cell? (ad.add (i.toNat * 6 + j)) = some u := hc0
 obtain rfl := k160_open hK
 exact ⟨ad, e, hc 0 _ rfl, by rw [← add_field _ _ 1 (by omega)]; exact hc 1 _ rfl, by rw [← add_field _ _ 2 (by omega)]; exact hc 2 _ rfl, by rw [← add_field _ _ 3 (by omega)]; exact hc 3 _ rfl, by rw [← add_field _ _ 4 (by omega)]; exact hc 4 _ rfl, by rw [← add_field _ _ 5 (by omega)]; exact hc 5 _ rfl⟩
end Go.Proofs.YtdppeaciahdekaaGreat.PLockParts
end
section
namespace Go.Proofs.YtdppeaciahdekaaGreat.PLockParts
open Go.RowKit Go.Proofs.YtdppeaciahdekaaGreatW.PrintWords Go.Proofs.YtdppeaciahdekaaGreatW.PrintLast Go.Proofs.YtdppeaciahdekaaGreatW.PrintMore
def regs_Check.f (a0_0 : Int) (a0_1 : Int) (a0_2 : Int) (a0_3 : Int) (a0_4 : Int) (a0_5 : Int) (a0_6 : Int) (a0_7 : Int) (a0_8 : Int) (a0_9 : Int) (a0_10 : Int) (a0_11 : Int) (a0_12 : Int) (a0_13 : Int) (a0_14 : Int) (a0_15 : Int) (a0_16 : Int) (a0_17 : Int) (a0_18 : Int) (a0_19 : Bool) (a0_20 : Bool) (a0_21 : Int) (a0_22 : Bool) (a0_23 : Bool) : Option (Int) := if a0_21 < 0 then (some 2) else (if a0_21 > 2 then (some 2) else (some 0))
set_option maxHeartbeats 8000000 in
set_option maxRecDepth 100000 in
theorem regs_Check.calls (a0_0 : Int) (a0_1 : Int) (a0_2 : Int) (a0_3 : Int) (a0_4 : Int) (a0_5 : Int) (a0_6 : Int) (a0_7 : Int) (a0_8 : Int) (a0_9 : Int) (a0_10 : Int) (a0_11 : Int) (a0_12 : Int) (a0_13 : Int) (a0_14 : Int) (a0_15 : Int) (a0_16 : Int) (a0_17 : Int) (a0_18 : Int) (a0_19 : Bool) (a0_20 : Bool) (a0_21 : Int) (a0_22 : Bool) (a0_23 : Bool) (r : Int) (w : World) (h : regs_Check.f a0_0 a0_1 a0_2 a0_3 a0_4 a0_5 a0_6 a0_7 a0_8 a0_9 a0_10 a0_11 a0_12 a0_13 a0_14 a0_15 a0_16 a0_17 a0_18 a0_19 a0_20 a0_21 a0_22 a0_23 = some r) :
  Calls Tryz.prog 159 #[.agg #[.int .u8 a0_0, .int .u8 a0_1, .int .u8 a0_2, .int .u8 a0_3, .int .u8 a0_4, .int .u8 a0_5, .int .u8 a0_6, .int .u8 a0_7, .int .u8 a0_8, .int .u8 a0_9, .int .u16 a0_10, .int .u16 a0_11, .int .u16 a0_12, .int .u16 a0_13, .int .u16 a0_14, .int .u16 a0_15, .int .u16 a0_16, .int .u16 a0_17, .int .u16 a0_18, .bool a0_19, .bool a0_20, .int .i64 a0_21, .bool a0_22, .bool a0_23]] w fun e w' => e = .returned (.int .i64 r) ∧ Below w.heap.size w w' := by
 have HB1 := Aside0.mk (below_alloc (Below.refl w.heap.size w) (Obj.cells #[.int .u8 a0_0, .int .u8 a0_1, .int .u8 a0_2, .int .u8 a0_3, .int .u8 a0_4, .int .u8 a0_5, .int .u8 a0_6, .int .u8 a0_7, .int .u8 a0_8, .int .u8 a0_9, .int .u16 a0_10, .int .u16 a0_11, .int .u16 a0_12, .int .u16 a0_13, .int .u16 a0_14, .int .u16 a0_15, .int .u16 a0_16, .int .u16 a0_17, .int .u16 a0_18, .bool a0_19, .bool a0_20, .int .i64 a0_21, .bool a0_22, .bool a0_23] 30))
 unfold regs_Check.f at h
 by_cases c0 : a0_21 < 0
 ·rw [if_pos c0] at h
  have d0 : decide (a0_21 < 0) = true := decide_eq_true (by omega)
  obtain rfl := Option.some.inj h
  go_enter Tryz.func159, Tryz.ntmps159
  go_wp2
  go_ret
  exact ⟨rfl, HB1.out⟩
 rw [if_neg c0] at h
 have d0 : decide (a0_21 < 0) = false := decide_eq_false (by omega)
 by_cases c1 : a0_21 > 2
 ·rw [if_pos c1] at h
  have d1 : decide (2 < a0_21) = true := decide_eq_true (by omega)
  obtain rfl := Option.some.inj h
  go_enter Tryz.func159, Tryz.ntmps159
  go_wp2
  go_ret
  exact ⟨rfl, HB1.out⟩
 rw [if_neg c1] at h
 have d1 : decide (2 < a0_21) = false := decide_eq_false (by omega)
 obtain rfl := Option.some.inj h
 go_enter Tryz.func159, Tryz.ntmps159
 go_wp2
 go_ret
 exact ⟨rfl, HB1.out⟩
def bank_CheckPatch.f (a0_0 : Int) (a0_1 : Int) (l0_2 : List Int) : Option (Int) := if a0_0 < 0 then (some 2) else (if a0_0 ≥ 12 then (some 2) else (if a0_1 < 0 then (some 2) else (if a0_1 > 16384 then (some 2) else (if (l0_2.length : Int) > (wrap64 (16384 - a0_1)) then (some 2) else (some 0)))))
set_option maxHeartbeats 8000000 in
set_option maxRecDepth 100000 in
theorem bank_CheckPatch.calls (a0_0 : Int) (a0_1 : Int) (A0_2 : Option Addr) (c0_2 : Nat) (l0_2 : List Int) (r : Int) (w : World) (hr0_2 : Kd.C (Kd.int .u8) w A0_2 l0_2.length l0_2) (hc0_2 : l0_2.length ≤ c0_2) (h : bank_CheckPatch.f a0_0 a0_1 l0_2 = some r) :
  Calls Tryz.prog 160 #[.agg #[.int .i64 a0_0, .int .i64 a0_1, .slice A0_2 l0_2.length c0_2]] w fun e w' => e = .returned (.int .i64 r) ∧ Below w.heap.size w w' := by
 have HB1 := Aside0.mk (below_alloc (Below.refl w.heap.size w) (Obj.cells #[.int .i64 a0_0, .int .i64 a0_1, .slice A0_2 l0_2.length c0_2] 127))
 unfold bank_CheckPatch.f at h
 by_cases c0 : a0_0 < 0
 ·rw [if_pos c0] at h
  have d0 : decide (a0_0 < 0) = true := decide_eq_true (by omega)
  obtain rfl := Option.some.inj h
  go_enter Tryz.func160, Tryz.ntmps160
  go_wp2
  go_ret
  exact ⟨rfl, HB1.out⟩
 rw [if_neg c0] at h
 have d0 : decide (a0_0 < 0) = false := decide_eq_false (by omega)
 by_cases c1 : a0_0 ≥ 12
 ·rw [if_pos c1] at h
  have d1 : decide (12 ≤ a0_0) = true := decide_eq_true (by omega)
  obtain rfl := Option.some.inj h
  go_enter Tryz.func160, Tryz.ntmps160
  go_wp2
  go_ret
  exact ⟨rfl, HB1.out⟩
 rw [if_neg c1] at h
 have d1 : decide (12 ≤ a0_0) = false := decide_eq_false (by omega)
 by_cases c2 : a0_1 < 0
 ·rw [if_pos c2] at h
  have d2 : decide (a0_1 < 0) = true := decide_eq_true (by omega)
  obtain rfl := Option.some.inj h
  go_enter Tryz.func160, Tryz.ntmps160
  go_wp2
  go_ret
  exact ⟨rfl, HB1.out⟩
 rw [if_neg c2] at h
 have d2 : decide (a0_1 < 0) = false := decide_eq_false (by omega)
 by_cases c3 : a0_1 > 16384
 ·rw [if_pos c3] at h
  have d3 : decide (16384 < a0_1) = true := decide_eq_true (by omega)
  obtain rfl := Option.some.inj h
  go_enter Tryz.func160, Tryz.ntmps160
  go_wp2
  go_ret
  exact ⟨rfl, HB1.out⟩
 rw [if_neg c3] at h
 have d3 : decide (16384 < a0_1) = false := decide_eq_false (by omega)
 rw [show wrap64 (16384 - a0_1) = 16384 - a0_1 by unfold wrap64; omega] at h
 by_cases c4 : (l0_2.length : Int) > 16384 - a0_1
 ·rw [if_pos c4] at h
  have d4 : decide (16384 - a0_1 < (l0_2.length : Int)) = true := decide_eq_true (by omega)
  obtain rfl := Option.some.inj h
  go_enter Tryz.func160, Tryz.ntmps160
  go_wp2
  go_ret
  exact ⟨rfl, HB1.out⟩
 rw [if_neg c4] at h
 have d4 : decide (16384 - a0_1 < (l0_2.length : Int)) = false := decide_eq_false (by omega)
 obtain rfl := Option.some.inj h
 go_enter Tryz.func160, Tryz.ntmps160
 go_wp2
 go_ret
 exact ⟨rfl, HB1.out⟩
def ay_CheckSetup.f (a0_0 : Int) : Option (Int) := if a0_0 < 1 then (some 2) else (if a0_0 > 65536 then (some 2) else (some 0))
set_option maxHeartbeats 8000000 in
set_option maxRecDepth 100000 in
theorem ay_CheckSetup.calls (a0_0 : Int) (r : Int) (w : World) (h : ay_CheckSetup.f a0_0 = some r) :
  Calls Tryz.prog 107 #[.agg #[.int .i64 a0_0]] w fun e w' => e = .returned (.int .i64 r) ∧ Below w.heap.size w w' := by
 have HB1 := Aside0.mk (below_alloc (Below.refl w.heap.size w) (Obj.cells #[.int .i64 a0_0] 36))
 unfold ay_CheckSetup.f at h
 by_cases c0 : a0_0 < 1
 ·rw [if_pos c0] at h
  have d0 : decide (a0_0 < 1) = true := decide_eq_true (by omega)
  obtain rfl := Option.some.inj h
  go_enter Tryz.func107, Tryz.ntmps107
  go_wp2
  go_ret
  exact ⟨rfl, HB1.out⟩
 rw [if_neg c0] at h
 have d0 : decide (a0_0 < 1) = false := decide_eq_false (by omega)
 by_cases c1 : a0_0 > 65536
 ·rw [if_pos c1] at h
  have d1 : decide (65536 < a0_0) = true := decide_eq_true (by omega)
  obtain rfl := Option.some.inj h
  go_enter Tryz.func107, Tryz.ntmps107
  go_wp2
  go_ret
  exact ⟨rfl, HB1.out⟩
 rw [if_neg c1] at h
 have d1 : decide (65536 < a0_0) = false := decide_eq_false (by omega)
 obtain rfl := Option.some.inj h
 go_enter Tryz.func107, Tryz.ntmps107
 go_wp2
 go_ret
 exact ⟨rfl, HB1.out⟩
def image_Size.f (a0 : Int) : Option (Int) := if a0 > 3 then (some 0) else (if 0 ≤ a0 then (some (shl .i64 128 a0)) else (none))
set_option maxHeartbeats 8000000 in
set_option maxRecDepth 100000 in
theorem image_Size.calls (a0 : Int) (r : Int) (w : World) (h : image_Size.f a0 = some r) :
  Calls Tryz.prog 240 #[.int .u8 a0] w fun e w' => e = .returned (.int .i64 r) ∧ Drawn0 w w' := by
 have H : (if a0 > 3 then (some 0) else (if 0 ≤ a0 then (some (shl .i64 128 a0)) else (none))) = some r := h
 clear h
 by_cases c2 : a0 > 3
 ·rw [if_pos c2] at H
  have c2b0 : decide (3 < a0) = true := decide_eq_true c2
  clear c2
  obtain rfl := Option.some.inj H
  go_enter Tryz.func240, Tryz.ntmps240
  go_wp2
  go_ret
  exact ⟨by first | rfl | (simp; done) | (simp [*]; done), by repeat (first | exact Drawn0.refl _ | apply Drawn0.step)⟩
 ·rw [if_neg c2] at H
  have c2b0 : decide (3 < a0) = false := decide_eq_false c2
  clear c2
  by_cases c3 : 0 ≤ a0
  ·rw [if_pos c3] at H
   have c3b0 := eq_true c3
   have c3b1 : decide (0 ≤ a0) = true := decide_eq_true c3
   clear c3
   obtain ⟨ji4, hji4⟩ : ∃ j_ : Int, (shl .i64 128 a0) = j_ := ⟨_, rfl⟩
   replace H : (some ji4) = some r := by first | (rw [hji4] at H; exact H) | (simp only [hji4] at H ⊢; exact H)
   have hji4_ : (IntKind.i64.wrap (128 * 2 ^ min a0.toNat 64)) = ji4 := hji4
   have hji4z : a0 ≤ 64 → (IntKind.i64.wrap (128 * 2 ^ a0.toNat)) = ji4 := shl_small hji4
   have hji4y : (wrap64 (128 * 2 ^ min a0.toNat 64)) = ji4 := (i64_w _).symm.trans hji4_
   have hji4x : a0 ≤ 64 → (wrap64 (128 * 2 ^ a0.toNat)) = ji4 := fun h_ => (i64_w _).symm.trans (hji4z h_)
   obtain rfl := Option.some.inj H
   go_enter Tryz.func240, Tryz.ntmps240
   go_wp2
   go_ret
   exact ⟨by first | rfl | (simp; done) | (simp only [← hji4] <;> (first | rfl | simp)) | (simp [*]; done), by repeat (first | exact Drawn0.refl _ | apply Drawn0.step)⟩
  ·rw [if_neg c3] at H
   exact absurd H (by simp)
end Go.Proofs.YtdppeaciahdekaaGreat.PLockParts
end
