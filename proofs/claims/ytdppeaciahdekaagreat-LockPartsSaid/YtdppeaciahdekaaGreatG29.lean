/- A part of the proof that LockParts returns true for every input. No condition. -/
import Derived.Test.YtdppeaciahdekaaGreatG28
import Derived.Deep.Slices
import Derived.ChangeArms
set_option linter.all false
set_option maxRecDepth 100000
namespace Go.Sim
attribute [local instance] noRO
open Go.Proofs Go.RowKit Go.Proofs.YtdppeaciahdekaaGreatW.PrintWords Go.Proofs.YtdppeaciahdekaaGreatW.PrintLast Go.Proofs.YtdppeaciahdekaaGreatW.PrintMore
open Go.Proofs.YtdppeaciahdekaaGreat.PLockParts
def Dec {α : Type} (e : TypeId) (d : Go.Proofs.YtdppeaciahdekaaGreatW.PrintWords.Kd α) (good : α → Prop) : Prop := ∀ (H : Type) (enc : TypeId × Value → H) (w : World) (fuel : Nat) (cs : List Value) (x : DataW H × List MemPlace), DataW.trod enc Tryz.prog w 0 (fun _ => true) true fuel e cs = some x → ∃ a : α, d.K w a cs ∧ good a
theorem list_of {α : Type} {p : Nat → α → Prop} : ∀ n, (∀ i, i < n → ∃ a, p i a) → ∃ xs : List α, xs.length = n ∧ ∀ i a, xs[i]? = some a → p i a
 | 0, _ => ⟨[], rfl, fun i a h => by simp at h⟩
 | n + 1, h => by
  obtain ⟨xs, hl, hp⟩ := list_of n fun i hi => h i (by omega)
  obtain ⟨a, ha⟩ := h n (by omega)
  refine ⟨xs ++ [a], by simp [hl], fun i b hb => ?_⟩
  by_cases hi : i < n
  ·rw [List.getElem?_append_left (by omega)] at hb
   exact hp i b hb
  ·rw [List.getElem?_append_right (by omega)] at hb
   have : i - xs.length = 0 := by
    have := (List.getElem?_eq_some_iff.1 hb).1
    simp at this; omega
   rw [this] at hb
   cases hb
   rw [show i = n by omega]; exact ha
theorem slice_C {α : Type} {t e : TypeId} {d : Go.Proofs.YtdppeaciahdekaaGreatW.PrintWords.Kd α} {good : α → Prop} (ht : Tryz.prog.underlying t = some (.slice e)) (hsz : Tryz.prog.cellsOf e = d.sz) (hd : Dec e d good) {H : Type} {enc : TypeId × Value → H} {w : World} {fuel : Nat} {cs : List Value} {x : DataW H × List MemPlace} (h : DataW.trod enc Tryz.prog w 0 (fun _ => true) true fuel t cs = some x) :
  ∃ (A : Option Addr) (c : Nat) (xs : List α), cs = [.slice A xs.length c] ∧ (A = none → xs = [] ∧ c = 0) ∧ xs.length ≤ c ∧ d.C w A xs.length xs ∧ ∀ a ∈ xs, good a := by
 rcases Go.Deep.open_slice ht h with ⟨rfl, _⟩ | ⟨a, len, cap, m, n, D, Pl, rfl, hb, hl, hm, hmm, _, hx⟩
 ·exact ⟨none, 0, [], rfl, fun _ => ⟨rfl, rfl⟩, Nat.le_refl _, Kd.C_nil _ _, fun a h => by cases h⟩
 ·have hlm : len ≤ m := by rw [hmm]; simpa using hl
  obtain ⟨xs, hxl, hxs⟩ := list_of (p := fun i (b : α) => (∃ c, w.cells? 0 (a.add (i * Tryz.prog.cellsOf e)) (Tryz.prog.cellsOf e) = some c ∧ d.K w b c) ∧ good b) len fun i hi => by
   obtain ⟨cs', h1, h2⟩ := hx i (by omega)
   obtain ⟨b, hk, hg⟩ := hd H enc w n cs' _ h2
   exact ⟨b, ⟨cs', h1, hk⟩, hg⟩
  subst hxl
  refine ⟨some a, cap, xs, rfl, (fun h => by cases h), hl, ⟨rfl, ?_, fun _ => ⟨a, rfl, fun j p hj => ?_⟩⟩, fun b hb => ?_⟩
  ·have : maxLen ≤ 9223372036854775807 := by unfold maxLen; omega
   omega
  ·obtain ⟨⟨c, hc, hk⟩, _⟩ := hxs j p hj
   obtain ⟨_, hcl, hci⟩ := World.cells?_some hc
   refine ⟨c, d.K_len hk, hk, fun i u hu => ?_⟩
   have hi : i < c.length := (List.getElem?_eq_some_iff.1 hu).1
   have := hci i (by omega)
   rw [add_add, hsz] at this
   rw [this, hu]
  ·obtain ⟨j, hj⟩ := List.getElem?_of_mem hb
   exact (hxs j b hj).2
theorem dec_int {e : TypeId} {k : IntKind} (he : Tryz.prog.underlying e = some (.int k)) : Dec e (Go.Proofs.YtdppeaciahdekaaGreatW.PrintWords.Kd.int k) (fun n => k.has n) := by
 intro H enc w fuel cs x h
 obtain ⟨n, rfl, _, hw⟩ := DataW.trod_int he h
 refine ⟨n, rfl, ?_⟩
 simp only [Lit.wf, Bool.and_eq_true, decide_eq_true_eq] at hw
 exact hw
theorem dec_slice {α : Type} {t e : TypeId} {d : Go.Proofs.YtdppeaciahdekaaGreatW.PrintWords.Kd α} {good : α → Prop} (ht : Tryz.prog.underlying t = some (.slice e)) (hsz : Tryz.prog.cellsOf e = d.sz) (hd : Dec e d good) : Dec t (Go.Proofs.YtdppeaciahdekaaGreatW.PrintWords.Kd.slice e d) (fun xs => ∀ a ∈ xs, good a) := by
 intro H enc w fuel cs x h
 obtain ⟨A, c, xs, rfl, _, hl, hc, hg⟩ := slice_C ht hsz hd h
 exact ⟨xs, ⟨A, c, rfl, hl, hc⟩, hg⟩
theorem field_trod {t : TypeId} {fs : Array Field} (i ft off : Nat) (ht : Tryz.prog.underlying t = some (.struct fs)) (hf : fs[i]?.map (fun f => (f.type, f.offset)) = some (ft, off)) {H : Type} {enc : TypeId × Value → H} {w : World} {fuel : Nat} {cs : List Value} {x : DataW H × List MemPlace} (h : DataW.trod enc Tryz.prog w 0 (fun _ => true) true fuel t cs = some x) :
  cs.length = Tryz.prog.cellsOf t ∧ ∃ n y, DataW.trod enc Tryz.prog w 0 (fun _ => true) true n ft ((cs.drop off).take (Tryz.prog.cellsOf ft)) = some y := by
 obtain ⟨f, hff, he⟩ := Option.map_eq_some_iff.1 hf
 cases he
 obtain ⟨xs, n, _, _, hl, hxl, hx⟩ := DataW.trod_struct ht h
 have h1 := hx i f hff
 have hi : i < fs.size := (Array.getElem?_eq_some_iff.1 hff).1
 rw [List.getElem?_eq_getElem (by omega)] at h1
 exact ⟨hl, n, _, h1⟩
theorem one_cell {l : List Value} {k : Nat} (h : k < l.length) : (l.drop k).take 1 = [l[k]] := by
 rw [List.drop_eq_getElem_cons h]; rfl
theorem seg_in (l : List Value) (a n b : Nat) (h : b < n) : ((((l.drop a).take n).drop b).take 1) = (l.drop (a + b)).take 1 := by
 rw [List.drop_take, List.take_take, List.drop_drop, Nat.min_eq_left (by omega)]
theorem len3 {l : List Value} (h : l.length = 3) : ∃ a b c, l = [a, b, c] := by
 match l, h with
 | [a, b, c], _ => exact ⟨a, b, c, rfl⟩
theorem len4 {l : List Value} (h : l.length = 4) : ∃ a b c d, l = [a, b, c, d] := by
 match l, h with
 | [a, b, c, d], _ => exact ⟨a, b, c, d, rfl⟩
theorem len7 {l : List Value} (h : l.length = 7) : ∃ a b c d e f g, l = [a, b, c, d, e, f, g] := by
 match l, h with
 | [a, b, c, d, e, f, g], _ => exact ⟨a, b, c, d, e, f, g, rfl⟩
theorem sz5 : Tryz.prog.cellsOf 5 = 1 := by kernel_rfl
theorem dec127 : Dec 127 k127 (fun p => ∀ x ∈ p.f2, (0 : Int) ≤ x ∧ x ≤ 255) := by
 intro H enc w fuel cs x h
 obtain ⟨hl, n0, y0, h0⟩ := field_trod 0 3 0 Tryz.underlying127 rfl h
 obtain ⟨_, n1, y1, h1⟩ := field_trod 1 3 1 Tryz.underlying127 rfl h
 obtain ⟨_, n2, y2, h2⟩ := field_trod 2 124 2 Tryz.underlying127 rfl h
 rw [show Tryz.prog.cellsOf 127 = 3 by kernel_rfl] at hl
 ·obtain ⟨a, b, c, rfl⟩ := len3 hl
  rw [show Tryz.prog.cellsOf 3 = 1 by kernel_rfl] at h0 h1
  rw [show Tryz.prog.cellsOf 124 = 1 by kernel_rfl] at h2
  obtain ⟨p, hp, _⟩ := DataW.trod_int Tryz.underlying3 h0
  obtain ⟨q, hq, _⟩ := DataW.trod_int Tryz.underlying3 h1
  obtain ⟨A, cc, xs, hs, _, hlen, hC, hg⟩ := slice_C Tryz.underlying124 sz5 (dec_int Tryz.underlying5) h2
  cases hp
  cases hq
  cases hs
  exact ⟨⟨p, q, xs⟩, k127_mk w ⟨p, q, xs⟩ hlen hC, hg⟩
theorem dec184 : Dec 184 k184 (fun _ => True) := by
 intro H enc w fuel cs x h
 obtain ⟨hl, n0, y0, h0⟩ := field_trod 0 2 0 Tryz.underlying184 rfl h
 obtain ⟨_, n1, y1, h1⟩ := field_trod 1 3 1 Tryz.underlying184 rfl h
 obtain ⟨_, n2, y2, h2⟩ := field_trod 2 3 2 Tryz.underlying184 rfl h
 obtain ⟨_, n3, y3, h3⟩ := field_trod 3 4 3 Tryz.underlying184 rfl h
 rw [show Tryz.prog.cellsOf 184 = 4 by kernel_rfl] at hl
 ·obtain ⟨a, b, c, d, rfl⟩ := len4 hl
  rw [show Tryz.prog.cellsOf 2 = 1 by kernel_rfl] at h0
  rw [show Tryz.prog.cellsOf 3 = 1 by kernel_rfl] at h1 h2
  rw [show Tryz.prog.cellsOf 4 = 1 by kernel_rfl] at h3
  obtain ⟨p, hp, _⟩ := DataW.trod_int Tryz.underlying2 h0
  obtain ⟨q, hq, _⟩ := DataW.trod_int Tryz.underlying3 h1
  obtain ⟨r, hr, _⟩ := DataW.trod_int Tryz.underlying3 h2
  obtain ⟨s, hs, _⟩ := DataW.trod_bool Tryz.underlying4 h3
  cases hp
  cases hq
  cases hr
  cases hs
  exact ⟨⟨p, q, r, s⟩, k184_mk w ⟨p, q, r, s⟩, trivial⟩
theorem dec218 : Dec 218 k218 (fun s => (0 : Int) ≤ s.f3) := by
 intro H enc w fuel cs x h
 obtain ⟨hl, n0, y0, h0⟩ := field_trod 0 5 0 Tryz.underlying218 rfl h
 obtain ⟨_, n1, y1, h1⟩ := field_trod 1 5 1 Tryz.underlying218 rfl h
 obtain ⟨_, n2, y2, h2⟩ := field_trod 2 5 2 Tryz.underlying218 rfl h
 obtain ⟨_, n3, y3, h3⟩ := field_trod 3 5 3 Tryz.underlying218 rfl h
 obtain ⟨_, n4, y4, h4⟩ := field_trod 4 5 4 Tryz.underlying218 rfl h
 obtain ⟨_, n5, y5, h5⟩ := field_trod 5 5 5 Tryz.underlying218 rfl h
 obtain ⟨_, n6, y6, h6⟩ := field_trod 6 124 6 Tryz.underlying218 rfl h
 rw [show Tryz.prog.cellsOf 218 = 7 by kernel_rfl] at hl
 ·obtain ⟨a0, a1, a2, a3, a4, a5, a6, rfl⟩ := len7 hl
  rw [sz5] at h0 h1 h2 h3 h4 h5
  rw [show Tryz.prog.cellsOf 124 = 1 by kernel_rfl] at h6
  obtain ⟨p0, e0, _⟩ := DataW.trod_int Tryz.underlying5 h0
  obtain ⟨p1, e1, _⟩ := DataW.trod_int Tryz.underlying5 h1
  obtain ⟨p2, e2, _⟩ := DataW.trod_int Tryz.underlying5 h2
  obtain ⟨p3, e3, _, hw3⟩ := DataW.trod_int Tryz.underlying5 h3
  obtain ⟨p4, e4, _⟩ := DataW.trod_int Tryz.underlying5 h4
  obtain ⟨p5, e5, _⟩ := DataW.trod_int Tryz.underlying5 h5
  obtain ⟨A, cc, xs, e6, _, hlen, hC, hg⟩ := slice_C Tryz.underlying124 sz5 (dec_int Tryz.underlying5) h6
  cases e0
  cases e1
  cases e2
  cases e3
  cases e4
  cases e5
  cases e6
  refine ⟨⟨p0, p1, p2, p3, p4, p5, xs⟩, k218_mk w ⟨p0, p1, p2, p3, p4, p5, xs⟩ hlen hC, ?_⟩
  simp only [Lit.wf, Bool.and_eq_true, decide_eq_true_eq] at hw3
  exact hw3.1
def kindIs (c : Nat) (v : Value) : Prop := match c with
 | 0 => ∃ n, v = .int .i64 n ∧ IntKind.i64.has n
 | 1 => ∃ n, v = .int .u8 n ∧ IntKind.u8.has n
 | 2 => ∃ n, v = .int .u16 n ∧ IntKind.u16.has n
 | 3 => ∃ b, v = .bool b
 | _ => True
def kOK (c : Nat) (d : Option TypeDesc) : Bool := match c, d with
 | 0, some (.int k) => decide (k = .i64)
 | 1, some (.int k) => decide (k = .u8)
 | 2, some (.int k) => decide (k = .u16)
 | 3, some .bool => true
 | 4, _ => true
 | _, _ => false
def codes43 : List Nat := [0, 0, 0, 0, 0, 0, 0, 1, 1, 1, 1, 1, 1, 1, 1, 1, 1, 1, 2, 2, 2, 2, 2, 2, 2, 2, 2, 3, 3, 0, 3, 3, 4, 4, 0, 0, 0, 3, 4, 0]
theorem code1 (j : Nat) (h7 : 7 ≤ j) (h18 : j < 18) : codes43[j]? = some 1 := by
 obtain ⟨i, rfl⟩ : ∃ i, j = i + 7 := ⟨j - 7, by omega⟩
 match i, h18 with
 | 0, _ | 1, _ | 2, _ | 3, _ | 4, _ | 5, _ | 6, _ | 7, _ | 8, _ | 9, _ | 10, _ => rfl
 | n + 11, h => exact absurd h (by omega)
theorem code2 (j : Nat) (h7 : 18 ≤ j) (h18 : j < 27) : codes43[j]? = some 2 := by
 obtain ⟨i, rfl⟩ : ∃ i, j = i + 18 := ⟨j - 18, by omega⟩
 match i, h18 with
 | 0, _ | 1, _ | 2, _ | 3, _ | 4, _ | 5, _ | 6, _ | 7, _ | 8, _ => rfl
 | n + 9, h => exact absurd h (by omega)
theorem kinds43 : (match Tryz.prog.cellTypes Tryz.prog.depth 43 with | some ts => decide (ts.length = 40) && (List.range 40).all fun i => kOK (codes43.getD i 9) (Tryz.prog.underlying (ts.getD i 0)) | none => false) = true := by kernel_rfl
theorem cell_int {w : World} {r : Reach} {b : Nat} {u : TypeId} {v : Value} {k : IntKind} (hu : Tryz.prog.underlying u = some (.int k)) (h : Cell.okWide Tryz.prog w r b u v) : ∃ n, v = .int k n ∧ k.has n := by
 unfold Cell.okWide at h
 rw [hu] at h
 cases v <;> simp only [] at h <;> (unfold Cell.ok at h; rw [hu] at h; simp only [] at h)
 obtain ⟨rfl, h⟩ := h
 exact ⟨_, rfl, h⟩
theorem cell_bool {w : World} {r : Reach} {b : Nat} {u : TypeId} {v : Value} (hu : Tryz.prog.underlying u = some .bool) (h : Cell.okWide Tryz.prog w r b u v) : ∃ n, v = .bool n := by
 unfold Cell.okWide at h
 rw [hu] at h
 cases v <;> simp only [] at h <;> (unfold Cell.ok at h; rw [hu] at h; simp only [] at h)
 exact ⟨_, rfl⟩
theorem cell_is {w : World} {r : Reach} {b c : Nat} {u : TypeId} {v : Value} (h : kOK c (Tryz.prog.underlying u) = true) (hv : Cell.okWide Tryz.prog w r b u v) : kindIs c v := by
 cases hu : Tryz.prog.underlying u with
 | none => rw [hu] at h; unfold kOK at h; split at h <;> first | trivial | (rename_i e; cases e) | cases h
 | some d =>
  rw [hu] at h
  unfold kOK at h
  split at h
  ·rename_i e; cases e; have := of_decide_eq_true h; subst this; exact cell_int hu hv
  ·rename_i e; cases e; have := of_decide_eq_true h; subst this; exact cell_int hu hv
  ·rename_i e; cases e; have := of_decide_eq_true h; subst this; exact cell_int hu hv
  ·rename_i e; cases e; exact cell_bool hu hv
  ·trivial
  ·cases h
def numV : Value → Int
 | .int _ n => n
 | _ => 0
def boolV : Value → Bool
 | .bool b => b
 | _ => false
theorem num0 {v : Value} (h : kindIs 0 v) : v = .int .i64 (numV v) := by obtain ⟨n, rfl, _⟩ := h; rfl
theorem num1 {v : Value} (h : kindIs 1 v) : v = .int .u8 (numV v) := by obtain ⟨n, rfl, _⟩ := h; rfl
theorem num2 {v : Value} (h : kindIs 2 v) : v = .int .u16 (numV v) := by obtain ⟨n, rfl, _⟩ := h; rfl
theorem num3 {v : Value} (h : kindIs 3 v) : v = .bool (boolV v) := by obtain ⟨n, rfl⟩ := h; rfl
theorem has0 {v : Value} (h : kindIs 0 v) : -9223372036854775808 ≤ numV v ∧ numV v ≤ 9223372036854775807 := by obtain ⟨n, rfl, h⟩ := h; exact h
theorem has1 {v : Value} (h : kindIs 1 v) : 0 ≤ numV v ∧ numV v ≤ 255 := by obtain ⟨n, rfl, h⟩ := h; exact h
theorem has2 {v : Value} (h : kindIs 2 v) : 0 ≤ numV v ∧ numV v ≤ 65535 := by obtain ⟨n, rfl, h⟩ := h; exact h
def inpOf (g : Nat → Value) (A : Option Addr) (c : Nat) (ps : List S127) (t : Tch) (k : Dsk) : Inp :=
 ⟨⟨fun j => if j < 7 then numV (g j) else 0, fun _ _ => 0, fun _ => (none, 0, 0), fun _ => default, fun _ => (none, 0, 0)⟩, fun j => numV (g j), boolV (g 27), boolV (g 28), boolV (g 30), boolV (g 31), A, c, ps, t, numV (g 34), numV (g 35), numV (g 36), boolV (g 37), k, numV (g 39)⟩
set_option maxRecDepth 100000 in
theorem open_inp {H : Type} {enc : TypeId × Value → H} {w : World} {b : Nat} {v : Value} {d : DataW H} {p : List MemPlace} (hval : Value.okWide Tryz.prog w .any b 43 v) (hd : DataW.Trod enc Tryz.prog w 0 (fun _ => true) true 43 v d p) : ∃ x : Inp, v = x.all ∧ x.typed ∧ x.lies0 w := by
 unfold Value.okWide at hval
 rw [Tryz.underlying43] at hval
 obtain ⟨cs, rfl, hsz, ts, hts, _, hcell⟩ := hval
 rw [show Tryz.prog.cellsOf 43 = 40 by kernel_rfl] at hsz
 have hk := kinds43
 rw [hts] at hk
 simp only [Bool.and_eq_true, decide_eq_true_eq, List.all_eq_true] at hk
 obtain ⟨htl, hko⟩ := hk
 obtain ⟨g, hg⟩ : ∃ g : Nat → Value, ∀ i, i < 40 → cs[i]? = some (g i) := ⟨fun i => cs.getD i undef, fun i hi => by
  have hi : i < cs.size := by omega
  simp [Array.getD, hi]⟩
 have h : ∀ i c, codes43.getD i 9 = c → i < 40 → kindIs c (g i) := fun i c hc hi => by
  obtain ⟨u, hu, hv⟩ := hcell i (g i) (hg i hi)
  rw [htl, Nat.mod_eq_of_lt hi] at hu
  have h1 := hko i (List.mem_range.2 hi)
  rw [hc, List.getD_eq_getElem?_getD, hu] at h1
  exact cell_is h1 hv
 replace h : ∀ i c, codes43[i]? = some c → kindIs c (g i) := fun i c hc => h i c (by rw [List.getD_eq_getElem?_getD, hc]; rfl) (by have := (List.getElem?_eq_some_iff.1 hc).1; exact this)
 obtain ⟨fuel, hf⟩ := hd
 have hcl : (Value.agg cs).cells.toList = cs.toList := rfl
 rw [hcl] at hf
 have hl40 : cs.toList.length = 40 := by simpa using hsz
 have hgl : ∀ i (hi : i < 40), cs.toList[i]'(by omega) = g i := fun i hi => by
  have := hg i hi
  rw [Array.getElem?_eq_some_iff] at this
  obtain ⟨_, e⟩ := this
  simpa using e
 -- the slices
 obtain ⟨_, n0, y0, h0⟩ := field_trod 0 33 0 Tryz.underlying43 rfl hf
 obtain ⟨_, n1, y1, h1⟩ := field_trod 1 34 33 Tryz.underlying43 rfl hf
 obtain ⟨_, n3, y3, h3⟩ := field_trod 3 41 35 Tryz.underlying43 rfl hf
 obtain ⟨_, n4, y4, h4⟩ := field_trod 3 31 32 Tryz.underlying33 rfl h0
 obtain ⟨_, n5, y5, h5⟩ := field_trod 3 39 3 Tryz.underlying41 rfl h3
 obtain ⟨_, n6, y6, h6⟩ := field_trod 0 37 0 Tryz.underlying39 rfl h5
 rw [show Tryz.prog.cellsOf 34 = 1 by kernel_rfl, one_cell (by omega), hgl 33 (by omega)] at h1
 rw [show Tryz.prog.cellsOf 33 = 33 by kernel_rfl, show Tryz.prog.cellsOf 31 = 1 by kernel_rfl, seg_in _ 0 33 32 (by omega), one_cell (by omega), hgl 32 (by omega)] at h4
 rw [show Tryz.prog.cellsOf 41 = 4 by kernel_rfl, show Tryz.prog.cellsOf 39 = 1 by kernel_rfl, show Tryz.prog.cellsOf 37 = 1 by kernel_rfl, seg_in _ 35 4 3 (by omega), List.drop_zero, List.take_take, Nat.min_self, one_cell (by omega), hgl 38 (by omega)] at h6
 have h6 : DataW.trod enc Tryz.prog w 0 (fun _ => true) true n6 37 [g 38] = some y6 := h6
 obtain ⟨A1, c1, ts1, e33, nl1, l1, C1, g1⟩ := slice_C Tryz.underlying34 (by kernel_rfl) dec184 h1
 obtain ⟨A0, c0, ps, e32, _, l0, C0, g0⟩ := slice_C Tryz.underlying31 (by kernel_rfl) dec127 h4
 obtain ⟨A2, c2, ds, e38, _, l2, C2, g2⟩ := slice_C Tryz.underlying37 (by kernel_rfl) (dec_slice Tryz.underlying216 (by kernel_rfl) dec218) h6
 have e33 := (List.cons.inj e33).1
 have e32 := (List.cons.inj e32).1
 have e38 := (List.cons.inj e38).1
 refine ⟨inpOf g A0 c0 ps ⟨A1, c1, ts1⟩ ⟨A2, c2, ds⟩, ?_, ⟨⟨fun j => ?_, fun j i => ⟨Int.le_refl _, Int.le_refl _⟩, fun j i p e => by cases e⟩, fun j h7 h18 => ?_, fun j h18 h27 => ?_, g0⟩, ⟨C0, l0, C1, nl1, l1, C2, l2, g2⟩⟩
 ·show Value.agg cs = Value.agg _
  congr 1
  refine Array.ext_getElem? fun i => ?_
  by_cases hi : i < 40
  ·rw [hg i hi]
   match i, hi with
   | 0, _ => exact congrArg some (num0 (h 0 0 rfl))
   | 1, _ => exact congrArg some (num0 (h 1 0 rfl))
   | 2, _ => exact congrArg some (num0 (h 2 0 rfl))
   | 3, _ => exact congrArg some (num0 (h 3 0 rfl))
   | 4, _ => exact congrArg some (num0 (h 4 0 rfl))
   | 5, _ => exact congrArg some (num0 (h 5 0 rfl))
   | 6, _ => exact congrArg some (num0 (h 6 0 rfl))
   | 7, _ => exact congrArg some (num1 (h 7 1 rfl))
   | 8, _ => exact congrArg some (num1 (h 8 1 rfl))
   | 9, _ => exact congrArg some (num1 (h 9 1 rfl))
   | 10, _ => exact congrArg some (num1 (h 10 1 rfl))
   | 11, _ => exact congrArg some (num1 (h 11 1 rfl))
   | 12, _ => exact congrArg some (num1 (h 12 1 rfl))
   | 13, _ => exact congrArg some (num1 (h 13 1 rfl))
   | 14, _ => exact congrArg some (num1 (h 14 1 rfl))
   | 15, _ => exact congrArg some (num1 (h 15 1 rfl))
   | 16, _ => exact congrArg some (num1 (h 16 1 rfl))
   | 17, _ => exact congrArg some (num1 (h 17 1 rfl))
   | 18, _ => exact congrArg some (num2 (h 18 2 rfl))
   | 19, _ => exact congrArg some (num2 (h 19 2 rfl))
   | 20, _ => exact congrArg some (num2 (h 20 2 rfl))
   | 21, _ => exact congrArg some (num2 (h 21 2 rfl))
   | 22, _ => exact congrArg some (num2 (h 22 2 rfl))
   | 23, _ => exact congrArg some (num2 (h 23 2 rfl))
   | 24, _ => exact congrArg some (num2 (h 24 2 rfl))
   | 25, _ => exact congrArg some (num2 (h 25 2 rfl))
   | 26, _ => exact congrArg some (num2 (h 26 2 rfl))
   | 27, _ => exact congrArg some (num3 (h 27 3 rfl))
   | 28, _ => exact congrArg some (num3 (h 28 3 rfl))
   | 29, _ => exact congrArg some (num0 (h 29 0 rfl))
   | 30, _ => exact congrArg some (num3 (h 30 3 rfl))
   | 31, _ => exact congrArg some (num3 (h 31 3 rfl))
   | 32, _ => exact congrArg some e32
   | 33, _ => exact congrArg some e33
   | 34, _ => exact congrArg some (num0 (h 34 0 rfl))
   | 35, _ => exact congrArg some (num0 (h 35 0 rfl))
   | 36, _ => exact congrArg some (num0 (h 36 0 rfl))
   | 37, _ => exact congrArg some (num3 (h 37 3 rfl))
   | 38, _ => exact congrArg some e38
   | 39, _ => exact congrArg some (num0 (h 39 0 rfl))
   | n + 40, h => exact absurd h (by omega)
  ·have e1 : cs[i]? = none := Array.getElem?_eq_none (by omega)
   have e2 : (inpOf g A0 c0 ps ⟨A1, c1, ts1⟩ ⟨A2, c2, ds⟩).cells[i]? = none := Array.getElem?_eq_none (by show 40 ≤ i; omega)
   rw [e1, e2]
 ·match j with
  | 0 => exact has0 (h 0 0 rfl)
  | 1 => exact has0 (h 1 0 rfl)
  | 2 => exact has0 (h 2 0 rfl)
  | 3 => exact has0 (h 3 0 rfl)
  | 4 => exact has0 (h 4 0 rfl)
  | 5 => exact has0 (h 5 0 rfl)
  | 6 => exact has0 (h 6 0 rfl)
  | n + 7 => exact ⟨Int.le_refl _, Int.le_refl _⟩
 ·exact has1 (h j 1 (code1 j h7 h18))
 ·exact has2 (h j 2 (code2 j h18 h27))
end Go.Sim
