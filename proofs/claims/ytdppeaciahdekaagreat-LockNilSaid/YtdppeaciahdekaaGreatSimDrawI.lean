/- Regions that draw their order: out of the evaluator's run. -/
import Derived.Test.YtdppeaciahdekaaGreatSimDrawH
set_option linter.unusedSimpArgs false
namespace Go.Sim
open Classical

def tsOf : List DRow → Tmps → Nat → Tmps
  | [], T, _ => T
  | r :: _, _, 0 => r.T
  | _ :: rs, T, k + 1 => tsOf rs T k
def hrOf : List DRow → AHeap → Nat → AHeap
  | [], H, _ => H
  | r :: _, _, 0 => r.H
  | _ :: rs, H, k + 1 => hrOf rs H k
def vlOf : List DRow → Nat → AVal
  | [], _ => AVal.undef
  | r :: _, 0 => r.val
  | _ :: rs, k + 1 => vlOf rs k

/-- Row by row. -/
def GChain (call : CallF) (E : EnvD) (n : Nat) (lvd : DItem → Bool) : List DItem → Tmps → AHeap → List DRow → Tmps → AHeap → Prop
  | [], T, H, [], T', H' => T' = T ∧ H' = H
  | d :: l, T, H, r :: rs, T', H' => r.T = T ∧ r.H = H ∧
      ((lvd d = true ∧ wchk d T H = true ∧ ∃ H1 T1, dstep call E T H d.it = some (.val r.val H1) ∧ achk d H H1 = true ∧ tput n d.it.dst r.val T = some T1 ∧ GChain call E n lvd l T1 H1 rs T' H') ∨
       (lvd d = false ∧ GChain call E n lvd l T H rs T' H'))
  | _, _, _, _, _, _ => False

section
variable {call : CallF} {E : EnvD} {n : Nat} {lvd : DItem → Bool}

theorem gchain_len : ∀ {l : List DItem} {T : Tmps} {H : AHeap} {rs : List DRow} {T' : Tmps} {H' : AHeap}, GChain call E n lvd l T H rs T' H' → rs.length = l.length
  | [], _, _, [], _, _, _ => rfl
  | [], _, _, _ :: _, _, _, h => h.elim
  | _ :: _, _, _, [], _, _, h => h.elim
  | d :: l, T, H, r :: rs, T', H', h => by
    obtain ⟨_, _, h | h⟩ := h
    · obtain ⟨_, _, H1, T1, _, _, _, h⟩ := h
      simp [gchain_len h]
    · simp [gchain_len h.2]

theorem gchain_zero : ∀ {l : List DItem} {T : Tmps} {H : AHeap} {rs : List DRow} {T' : Tmps} {H' : AHeap}, GChain call E n lvd l T H rs T' H' → tsOf rs T' 0 = T ∧ hrOf rs H' 0 = H
  | [], _, _, [], _, _, h => ⟨h.1, h.2⟩
  | [], _, _, _ :: _, _, _, h => h.elim
  | _ :: _, _, _, [], _, _, h => h.elim
  | _ :: _, _, _, _ :: _, _, _, h => ⟨h.1, h.2.1⟩

theorem gchain_get : ∀ {l : List DItem} {T : Tmps} {H : AHeap} {rs : List DRow} {T' : Tmps} {H' : AHeap}, GChain call E n lvd l T H rs T' H' → ∀ (k : Nat) (d : DItem), l[k]? = some d →
    (lvd d = true ∧ wchk d (tsOf rs T' k) (hrOf rs H' k) = true ∧ dstep call E (tsOf rs T' k) (hrOf rs H' k) d.it = some (.val (vlOf rs k) (hrOf rs H' (k + 1))) ∧ achk d (hrOf rs H' k) (hrOf rs H' (k + 1)) = true ∧
      tput n d.it.dst (vlOf rs k) (tsOf rs T' k) = some (tsOf rs T' (k + 1))) ∨
    (lvd d = false ∧ tsOf rs T' (k + 1) = tsOf rs T' k ∧ hrOf rs H' (k + 1) = hrOf rs H' k)
  | [], _, _, [], _, _, _, k, d, hd => by simp at hd
  | [], _, _, _ :: _, _, _, h, _, _, _ => h.elim
  | _ :: _, _, _, [], _, _, h, _, _, _ => h.elim
  | d :: l, T, H, r :: rs, T', H', h, k, d', hd => by
    obtain ⟨h1, h2, h⟩ := h
    cases k with
    | zero =>
      simp only [List.getElem?_cons_zero, Option.some.injEq] at hd; subst hd
      rcases h with ⟨h3, h4, H1, T1, h5, h6, h7, h8⟩ | ⟨h3, h4⟩
      · obtain ⟨z1, z2⟩ := gchain_zero h8
        refine .inl ⟨h3, ?_, ?_, ?_, ?_⟩
        · show wchk d r.T r.H = true; rw [h1, h2]; exact h4
        · show dstep call E r.T r.H d.it = some (.val r.val (hrOf rs H' 0)); rw [h1, h2, z2]; exact h5
        · show achk d r.H (hrOf rs H' 0) = true; rw [h2, z2]; exact h6
        · show tput n d.it.dst r.val r.T = some (tsOf rs T' 0); rw [h1, z1]; exact h7
      · obtain ⟨z1, z2⟩ := gchain_zero h4
        refine .inr ⟨h3, ?_, ?_⟩
        · show tsOf rs T' 0 = r.T; rw [z1, h1]
        · show hrOf rs H' 0 = r.H; rw [z2, h2]
    | succ k =>
      rcases h with ⟨h3, h4, H1, T1, h5, h6, h7, h8⟩ | ⟨h3, h4⟩
      · exact gchain_get h8 k d' (by simpa using hd)
      · exact gchain_get h4 k d' (by simpa using hd)

theorem hrOf_ge : ∀ (rs : List DRow) (H : AHeap) (k : Nat), rs.length ≤ k → hrOf rs H k = H
  | [], _, _, _ => rfl
  | _ :: rs, H, 0, h => by simp at h
  | _ :: rs, H, k + 1, h => hrOf_ge rs H k (by simpa using h)

theorem hrOf_list : ∀ (rs : List DRow) (H : AHeap) (k : Nat), k ≤ rs.length → (rs.map (·.H) ++ [H])[k]? = some (hrOf rs H k)
  | [], H, 0, _ => rfl
  | [], _, k + 1, h => by simp at h
  | r :: rs, H, 0, _ => rfl
  | r :: rs, H, k + 1, h => by
    simp only [List.map_cons, List.cons_append, List.getElem?_cons_succ]
    exact hrOf_list rs H k (by simpa using h)

theorem make_shape {ao : AOp} {T : Tmps} {H H' : AHeap} {out : AOut} (hq : makeOp ao = true) (h : aop E T H ao = some (out, H')) : ∃ v c, out = .val v ∧ H' = H.new (.cells c 0 true) := by
  cases ao <;> simp only [makeOp, Bool.false_eq_true] at hq <;> simp only [aop, ret] at h
  · simp only [Option.some.injEq, Prod.mk.injEq] at h
    obtain ⟨rfl, rfl⟩ := h
    exact ⟨_, _, rfl, rfl⟩
  · split at h
    · split at h
      · simp only [Option.some.injEq, Prod.mk.injEq] at h
        obtain ⟨rfl, rfl⟩ := h
        exact ⟨_, _, rfl, rfl⟩
      · cases h
    · cases h
  · split at h
    · simp only [Option.some.injEq, Prod.mk.injEq] at h
      obtain ⟨rfl, rfl⟩ := h
      exact ⟨_, _, rfl, rfl⟩
    · cases h

/-- A step of a class that does not call is a step without calls. -/
theorem istep_of_dstep {T : Tmps} {H H' : AHeap} {it : AItem} {v : AVal} (hq : quietOp it.op = true ∨ readOp it.op = true ∨ makeOp it.op = true) (h : dstep call E T H it = some (.val v H')) : istep E T H it = some (v, H') := by
  unfold dstep at h
  unfold istep
  split at h
  · cases h
  · rename_i hw
    rw [hw]
    simp only
    split at h
    · rename_i u H1 hop
      simp only [Option.some.injEq, DRes.val.injEq] at h
      obtain ⟨rfl, rfl⟩ := h
      rw [hop]
    · rename_i f args H1 hop
      exfalso
      rcases hq with hq | hq | hq
      · obtain ⟨_, ⟨u, e⟩, _⟩ := quiet_any hq hop; cases e
      · obtain ⟨_, ⟨u, e⟩, _⟩ := read_next hq hop; cases e
      · obtain ⟨u, c, e, _⟩ := make_shape hq hop; cases e
    · cases h
  · rename_i hw
    rw [hw]
    simp only [Option.some.injEq, DRes.val.injEq] at h
    simp [h.1, h.2]

theorem istep_quiet {T : Tmps} {H H' : AHeap} {it : AItem} {v : AVal} (hq : quietOp it.op = true ∨ readOp it.op = true) (h : istep E T H it = some (v, H')) : H' = H := by
  unfold istep at h
  split at h
  · split at h
    · rename_i u H1 hop
      simp only [Option.some.injEq, Prod.mk.injEq] at h
      obtain ⟨rfl, rfl⟩ := h
      rcases hq with hq | hq
      · exact (quiet_any hq hop).1
      · exact (read_next hq hop).1
    · cases h
  · simp only [Option.some.injEq, Prod.mk.injEq] at h; exact h.2.symm
  · cases h

theorem rcheck_mem {Hs : List AHeap} {d : DItem} {r : DRow} {most : Nat} : ∀ {l : List Nat}, rcheck E Hs d r most l = true → ∀ k ∈ l, k ≤ most → ∃ H, Hs[k]? = some H ∧ (wantedA r.T d.it.guard = some true → ∃ H', aop E r.T H d.it.op = some (.val r.val, H'))
  | [], _, k, hk, _ => by cases hk
  | x :: l, h, k, hk, hle => by
    simp only [rcheck, Bool.and_eq_true] at h
    cases hk with
    | head =>
      have h1 := h.1
      rw [if_pos hle] at h1
      split at h1
      · rename_i H hH
        refine ⟨H, hH, fun hw => ?_⟩
        rw [hw] at h1
        simp only at h1
        split at h1
        · rename_i v H' hop
          rw [beqV_sound depth v r.val h1] at hop
          exact ⟨H', hop⟩
        · cases h1
      · cases h1
    | tail _ hk => exact rcheck_mem h.2 k hk hle

theorem rchecks_get {Hs : List AHeap} {most : Nat} {skip : DItem → Bool} : ∀ {l : List DItem} {rs : List DRow}, rchecks E Hs most skip l rs = true → ∀ (k : Nat) (d : DItem) (r : DRow), l[k]? = some d → rs[k]? = some r → d.cls = .R → skip d = false →
    rcheck E Hs d r most d.cand = true
  | [], _, _, k, d, r, hd, _, _, _ => by simp at hd
  | _ :: _, [], _, k, d, r, _, hr, _, _ => by simp at hr
  | d :: l, r :: rs, h, k, d', r', hd, hr, hc, hsk => by
    simp only [rchecks, Bool.and_eq_true] at h
    cases k with
    | zero =>
      simp only [List.getElem?_cons_zero, Option.some.injEq] at hd hr; subst hd hr
      have h1 := h.1
      rw [hc] at h1
      simpa [hsk] using h1
    | succ k => exact rchecks_get h.2 k d' r' (by simpa using hd) (by simpa using hr) hc hsk

theorem row_get : ∀ (rs : List DRow) (T : Tmps) (H : AHeap) (k : Nat), k < rs.length → ∃ r, rs[k]? = some r ∧ r.T = tsOf rs T k ∧ r.H = hrOf rs H k ∧ r.val = vlOf rs k
  | [], _, _, k, h => by simp at h
  | r :: rs, _, _, 0, _ => ⟨r, rfl, rfl, rfl, rfl⟩
  | r :: rs, T, H, k + 1, h => by
    obtain ⟨r', h1, h2⟩ := row_get rs T H k (by simpa using h)
    exact ⟨r', by simpa using h1, h2⟩

theorem tput_get {d : Option Nat} {v : AVal} {T T' : Tmps} (h : tput n d v T = some T') (t : Nat) : tget T' t = if d = some t then v else tget T t := by
  unfold tput at h
  split at h
  · simp only [Option.some.injEq] at h; subst h; simp
  · rename_i x
    split at h
    · simp only [Option.some.injEq] at h; subst h
      unfold tget
      rw [Trie.get_set]
      by_cases e : x = t
      · subst e; simp
      · simp [e]
    · cases h

theorem tput_lt {x : Nat} {v : AVal} {T T' : Tmps} (h : tput n (some x) v T = some T') : x < n := by
  unfold tput at h
  simp only at h
  split at h
  · assumption
  · cases h

/-- Out of the rows, what is asked of a run. -/
theorem run_of_chain {P : Program} {ops : Array Oper} {its : List DItem} (hd : DOK P E ops its) {T T' : Tmps} {H H' : AHeap} {rs : List DRow} (hg : GChain call E n lvd its T H rs T' H') {most : Nat} {live : Nat → Bool}
    (hlive : ∀ (k : Nat) (d : DItem), its[k]? = some d → live k = lvd d) (hml : most ≤ its.length) (hsmall : ∀ k, k < most → live k = true) (hW : ∀ (k : Nat) (d : DItem), its[k]? = some d → live k = true → d.cls = .W → k < most)
    {Hs : List AHeap} (hHs : ∀ k, k ≤ most → Hs[k]? = some (hrOf rs H' k)) {skip : DItem → Bool} (hskip : ∀ d, lvd d = true → skip d = false) (hrc : rchecks E Hs most skip its rs = true) :
    RunOK call E n its (tsOf rs T') (hrOf rs H') (vlOf rs) most live := by
  have hlen := gchain_len hg
  have hclsq : ∀ (k : Nat) (d : DItem), its[k]? = some d → wcls d.cls = false → quietOp d.it.op = true ∨ readOp d.it.op = true := by
    intro k d hk hc
    have hcl := hd.cls k d hk
    cases e : d.cls with
    | P => rw [e] at hcl; exact .inl hcl
    | R => rw [e] at hcl; simp only [clsOK, Bool.or_eq_true] at hcl; exact hcl
    | A => rw [e] at hc; cases hc
    | W => rw [e] at hc; cases hc
  have hany : ∀ {op : AOp}, quietOp op = true ∨ readOp op = true → quietOp op = true ∨ readOp op = true ∨ makeOp op = true := fun h => h.elim .inl fun h => .inr (.inl h)
  have hstay : ∀ (k : Nat) (d : DItem), its[k]? = some d → wcls d.cls = false → hrOf rs H' (k + 1) = hrOf rs H' k := by
    intro k d hk hc
    rcases gchain_get hg k d hk with ⟨_, _, h3, _⟩ | ⟨_, _, h3⟩
    · exact istep_quiet (hclsq k d hk hc) (istep_of_dstep (hany (hclsq k d hk hc)) h3)
    · exact h3
  have hA : ∀ (k : Nat) (d : DItem), its[k]? = some d → live k = true → d.cls = .A → istep E (tsOf rs T' k) (hrOf rs H' k) d.it = some (vlOf rs k, hrOf rs H' (k + 1)) ∧ achk d (hrOf rs H' k) (hrOf rs H' (k + 1)) = true := by
    intro k d hk hl hc
    rcases gchain_get hg k d hk with ⟨_, _, h3, h4, _⟩ | ⟨h1, _⟩
    · have hmk : makeOp d.it.op = true := by have := hd.cls k d hk; rw [hc] at this; exact this
      exact ⟨istep_of_dstep (.inr (.inr hmk)) h3, h4⟩
    · rw [hlive k d hk, h1] at hl; cases hl
  have hanew : ∀ (k : Nat) (d : DItem), its[k]? = some d → live k = true → d.cls = .A → hrOf rs H' (k + 1) = hrOf rs H' k ∨ ∃ c, hrOf rs H' (k + 1) = (hrOf rs H' k).new (.cells c 0 true) := by
    intro k d hk hl hc
    obtain ⟨h1, _⟩ := hA k d hk hl hc
    have hmk : makeOp d.it.op = true := by have := hd.cls k d hk; rw [hc] at this; exact this
    unfold istep at h1
    split at h1
    · split at h1
      · rename_i v H1 hop
        simp only [Option.some.injEq, Prod.mk.injEq] at h1
        obtain ⟨u, c, _, e⟩ := make_shape hmk hop
        exact .inr ⟨c, by rw [← h1.2, e]⟩
      · cases h1
    · simp only [Option.some.injEq, Prod.mk.injEq] at h1
      exact .inl h1.2.symm
    · cases h1
  refine ⟨hml, ?_, ?_, ?_, ?_, hA, ?_, hanew, hstay, ?_, hsmall⟩
  · -- the slots
    have key : ∀ k, k ≤ its.length → ∀ t, tget (tsOf rs T' k) t = lastw its (vlOf rs) (tsOf rs T' 0) live t k := by
      intro k
      induction k with
      | zero => intro _ t; rfl
      | succ k ih =>
        intro hk t
        have hkd : its[k]? = some its[k] := List.getElem?_eq_getElem (by omega)
        generalize its[k] = d at hkd
        simp only [lastw, hkd]
        rcases gchain_get hg k d hkd with ⟨h1, _, _, _, h5⟩ | ⟨h1, h2, _⟩
        · rw [tput_get h5 t, hlive k d hkd, h1]
          by_cases e : d.it.dst = some t
          · simp [e]
          · simp only [e, if_false, and_false]
            exact ih (by omega) t
        · rw [h2, hlive k d hkd, h1]
          simp only [Bool.false_eq_true, false_and, if_false]
          exact ih (by omega) t
    intro k d hk _ t
    exact key k (Nat.le_of_lt (List.getElem?_eq_some_iff.1 hk).1) t
  · intro k d x hk hl hx
    rcases gchain_get hg k d hk with ⟨_, _, _, _, h5⟩ | ⟨h1, _⟩
    · rw [hx] at h5; exact tput_lt h5
    · rw [hlive k d hk, h1] at hl; cases hl
  · intro k d hk hl hc
    have hq := hclsq k d hk (by rw [hc]; rfl)
    rcases gchain_get hg k d hk with ⟨_, _, h3, _⟩ | ⟨h1, _⟩
    · have h := istep_of_dstep (hany hq) h3
      rw [istep_quiet hq h] at h; exact h
    · rw [hlive k d hk, h1] at hl; cases hl
  · intro k d j hk hl hc hj hjm
    have hq := hclsq k d hk (by rw [hc]; rfl)
    have hkl : k < rs.length := by rw [hlen]; exact (List.getElem?_eq_some_iff.1 hk).1
    obtain ⟨r, r1, r2, r3, r4⟩ := row_get rs T' H' k hkl
    have hlv : lvd d = true := by rw [← hlive k d hk]; exact hl
    obtain ⟨Hj, e1, e2⟩ := rcheck_mem (rchecks_get hrc k d r hk r1 hc (hskip d hlv)) j hj hjm
    rw [hHs j hjm] at e1; cases e1
    rw [r2, r4] at e2
    rcases gchain_get hg k d hk with ⟨_, _, h3, _⟩ | ⟨h1, _⟩
    · have h := istep_of_dstep (hany hq) h3
      unfold istep at h ⊢
      split at h
      · rename_i hw
        obtain ⟨H1, e3⟩ := e2 hw
        simp only [hw, e3]
        have : H1 = hrOf rs H' j := by
          rcases hq with hq | hq
          · exact (quiet_any hq e3).1
          · exact (read_next hq e3).1
        rw [this]
      · rename_i hw
        simp only [Option.some.injEq, Prod.mk.injEq] at h
        simp only [hw, h.1]
      · cases h
    · rw [hlive k d hk, h1] at hl; cases hl
  · intro k d hk hl hc
    rcases gchain_get hg k d hk with ⟨_, h2, h3, _⟩ | ⟨h1, _⟩
    · exact ⟨hW k d hk hl hc, h3, h2⟩
    · rw [hlive k d hk, h1] at hl; cases hl
  · intro k
    rcases Nat.lt_or_ge k its.length with hk | hk
    · have hkd : its[k]? = some its[k] := List.getElem?_eq_getElem hk
      generalize its[k] = d at hkd
      cases hc : d.cls with
      | P => rw [hstay k d hkd (by rw [hc]; rfl)]; exact Nat.le_refl _
      | R => rw [hstay k d hkd (by rw [hc]; rfl)]; exact Nat.le_refl _
      | A =>
        cases hl : live k with
        | true =>
          rcases hanew k d hkd hl hc with e | ⟨c, e⟩
          · rw [e]; exact Nat.le_refl _
          · rw [e]; exact Nat.le_succ _
        | false =>
          rcases gchain_get hg k d hkd with ⟨h1, _⟩ | ⟨_, _, h3⟩
          · rw [hlive k d hkd, h1] at hl; cases hl
          · rw [h3]; exact Nat.le_refl _
      | W =>
        rcases gchain_get hg k d hkd with ⟨_, _, _, h4, _⟩ | ⟨_, _, h3⟩
        · unfold achk at h4
          rw [hc] at h4
          exact Nat.le_of_ble_eq_true h4
        · rw [h3]; exact Nat.le_refl _
    · rw [hrOf_ge rs H' k (by omega), hrOf_ge rs H' (k + 1) (by omega)]; exact Nat.le_refl _
end
end Go.Sim
