import Derived.Test.YtdppeaciahdekaaGreatChecked
import Derived.WalkKit
import Derived.ProofKit
import Derived.RegionTactic
import Derived.BigRegion
import Derived.ChangeAlike
import Derived.Test.YtdppeaciahdekaaGreatSimMore
namespace Go.Proofs.Tryz.banksL
open Go
theorem alloc_set (w : World) (es : Array MapEntry) (c : Nat) (o' : Obj) : (setObj w.heap.size o').run Tryz.prog (w.alloc (.map es c)) = .ok () (w.alloc o') := by
  have h : (w.alloc (.map es c)).heap[w.heap.size]? = some (.map es c) := heap_alloc_new w _
  have h2 : (w.heap.push (.map es c)).setIfInBounds w.heap.size o' = w.heap.push o' := by
    apply Array.ext
    · simp
    · intro i h1 h2
      rw [Array.getElem_setIfInBounds (by simpa using h1), Array.getElem_push, Array.getElem_push]
      by_cases e : w.heap.size = i
      · subst e; simp
      · simp only [e, if_false]
        have : i < w.heap.size := by simp at h1; omega
        simp [this]
  have h3 : ∀ W : World, W.heap[w.heap.size]? = some (.map es c) → (setObj w.heap.size o').run Tryz.prog W = .ok () { W with heap := W.heap.setIfInBounds w.heap.size o' } := by
    intro W hW
    simp only [setObj, Sem.run, hW]
  rw [h3 _ h]
  show Result.ok () { (w.alloc (.map es c)) with heap := (w.heap.push (.map es c)).setIfInBounds w.heap.size o' } = _
  rw [h2]; rfl
theorem ins (w : World) (es : Array MapEntry) (c : Nat) (k : Int) (v : Value) (h : Instr.findNow (.int .i64) (.int .i64 k) es.toList 0 = some none) :
    (Instr.mapUpdate 189 (.map (some w.heap.size)) (.int .i64 k) v).run Tryz.prog (w.alloc (.map es c)) = .ok () (w.alloc (.map (es.push { key := .int .i64 k, val := v, born := c }) (c + 1))) := by
  have hobj : (getObj w.heap.size).run Tryz.prog (w.alloc (.map es c)) = .ok (.map es c) (w.alloc (.map es c)) := by
    have h : (w.alloc (.map es c)).heap[w.heap.size]? = some (.map es c) := heap_alloc_new w _
    simp only [getObj, Sem.run, h]
  simp only [Instr.mapUpdate, Sem.run_bind, Go.Sim.run_und Tryz.underlying189, Result.andThen_ok, hobj, Go.Sim.run_checkKey_int Tryz.underlying3, Go.Sim.run_findKey_int Tryz.underlying3 h, alloc_set]

def m5 (b o c : Nat) : MapEntry := { key := .int .i64 5, val := .pointer (some ⟨b, o + 8, none⟩), born := c }
def m7 (b o c : Nat) : MapEntry := { key := .int .i64 7, val := .pointer (some ⟨b, o + 16392, none⟩), born := c }
def Q (w : World) (b o : Nat) (e : Ending) (w' : World) : Prop := e = .returned (.map (some w.heap.size)) ∧ ∃ es, (es = #[m5 b o 0, m7 b o 1] ∨ es = #[m7 b o 0, m5 b o 1]) ∧ w' = (w.alloc (.map es 2)).drew
set_option maxRecDepth 100000
set_option maxHeartbeats 1000000 in
theorem banks_any (b o : Nat) (w : World) : Calls Tryz.prog 106 #[.pointer (some ⟨b, o, none⟩)] w (Q w b o) := by
  have hm : ∀ t W, (Instr.makeMap t none).run Tryz.prog W = .ok (.map (some W.heap.size)) (W.alloc (.map #[] 0)) := fun _ _ => rfl
  have i5 : ∀ (w : World) (v : Value), (Instr.mapUpdate 189 (.map (some w.heap.size)) (.int .i64 5) v).run Tryz.prog (w.alloc (.map #[] 0)).drew = .ok () (w.alloc (.map #[{ key := .int .i64 5, val := v, born := 0 }] 1)).drew := fun w v => ins w.drew _ _ 5 v (by rfl)
  have i7 : ∀ (w : World) (v : Value), (Instr.mapUpdate 189 (.map (some w.heap.size)) (.int .i64 7) v).run Tryz.prog (w.alloc (.map #[] 0)).drew = .ok () (w.alloc (.map #[{ key := .int .i64 7, val := v, born := 0 }] 1)).drew := fun w v => ins w.drew _ _ 7 v (by rfl)
  have i57 : ∀ (w : World) (v u : Value), (Instr.mapUpdate 189 (.map (some w.heap.size)) (.int .i64 7) v).run Tryz.prog (w.alloc (.map #[{ key := .int .i64 5, val := u, born := 0 }] 1)).drew = .ok () (w.alloc (.map #[{ key := .int .i64 5, val := u, born := 0 }, { key := .int .i64 7, val := v, born := 1 }] 2)).drew := fun w v u => ins w.drew _ _ 7 v (by rfl)
  have i75 : ∀ (w : World) (v u : Value), (Instr.mapUpdate 189 (.map (some w.heap.size)) (.int .i64 5) v).run Tryz.prog (w.alloc (.map #[{ key := .int .i64 7, val := u, born := 0 }] 1)).drew = .ok () (w.alloc (.map #[{ key := .int .i64 7, val := u, born := 0 }, { key := .int .i64 5, val := v, born := 1 }] 2)).drew := fun w v u => ins w.drew _ _ 5 v (by rfl)
  go_enter Tryz.func106, Tryz.ntmps106
  go_wp2
  go_region
  · go_wp2
    go_ret
    exact ⟨rfl, _, .inl rfl, rfl⟩
  · go_wp2
    go_ret
    exact ⟨rfl, _, .inr rfl, rfl⟩
end Go.Proofs.Tryz.banksL
namespace Go.Sim
open Go.Proofs.Tryz.banksL
/-- The map of the picture's banks, as the evaluator knows it. -/
def banksExt : CallF := fun f l H => match l with
  | [.ptr (some (i, o))] => bif Nat.beq f 106 then some (.ret (.mapv (some H.next)) (H.new (.pmap [(.int .i64 5, .ptr (some (i, o + 8))), (.int .i64 7, .ptr (some (i, o + 16392)))]))) else none
  | _ => none

theorem banksExt_ok (E : EnvD) : CallOK Go.Proofs.Tryz.prog E banksExt := by
  intro f l H r hr _ K ρ w l' hl hw
  unfold banksExt at hr
  split at hr
  · rename_i i o
    cases e : Nat.beq f 106 with
    | false => rw [e] at hr; cases hr
    | true =>
      rw [e] at hr
      simp only [cond_true, Option.some.injEq] at hr
      subst hr
      have := Nat.eq_of_beq_eq_true e
      subst this
      obtain ⟨hs, hv⟩ := hl
      obtain ⟨v, rfl⟩ : ∃ v, l' = #[v] := by
        have : l'.size = 1 := by simpa using hs
        refine ⟨l'[0], ?_⟩
        apply Array.ext
        · simp [this]
        · intro j h1 h2
          have : j = 0 := by omega
          subst this; rfl
      have h0 := hv 0 _ v rfl rfl
      cases h0 with
      | ptr hρ =>
        rename_i l
        refine (banks_any l.blk (l.off + o) w).mono fun e w' hq => ?_
        obtain ⟨rfl, es, hes, rfl⟩ := hq
        have hw' : WR K ρ H w.drew := hw.of_heap rfl
        have hb : BR ρ ⟨w.heap.size, 0, 0⟩ (.pmap [(.int .i64 5, .ptr (some (i, o + 8))), (.int .i64 7, .ptr (some (i, o + 16392)))]) (.map es 2) := by
          rcases hes with rfl | rfl
          · refine .pmap (m := [m5 l.blk (l.off + o) 0, m7 l.blk (l.off + o) 1]) (List.Perm.refl _) rfl ?_
            intro k e e' h1 h2
            match k with
            | 0 => simp at h1 h2; subst h1 h2; exact ⟨.int _ _, by rw [m5, Nat.add_assoc]; exact .ptr hρ⟩
            | 1 => simp at h1 h2; subst h1 h2; exact ⟨.int _ _, by rw [m7, Nat.add_assoc]; exact .ptr hρ⟩
            | k + 2 => simp at h1
          · refine .pmap (m := [m5 l.blk (l.off + o) 1, m7 l.blk (l.off + o) 0]) (List.Perm.swap _ _ _) rfl ?_
            intro k e e' h1 h2
            match k with
            | 0 => simp at h1 h2; subst h1 h2; exact ⟨.int _ _, by rw [m5, Nat.add_assoc]; exact .ptr hρ⟩
            | 1 => simp at h1 h2; subst h1 h2; exact ⟨.int _ _, by rw [m7, Nat.add_assoc]; exact .ptr hρ⟩
            | k + 2 => simp at h1
        have hp := hw'.new _ _ _ rfl hb
        refine ⟨fun i => if i = H.next then some ⟨w.heap.size, 0, 0⟩ else ρ i, _, rfl, .map (l := ⟨w.heap.size, 0, 0⟩) (by simp), ?_⟩
        exact ⟨hp.le, hp.wr, hp.keep, ⟨hp.size.size, hp.size.os, hp.size.out, hp.size.frz⟩⟩
  · cases hr
end Go.Sim

