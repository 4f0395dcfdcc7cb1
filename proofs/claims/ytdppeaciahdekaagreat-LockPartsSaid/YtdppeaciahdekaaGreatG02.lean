/- A part of the proof that LockParts returns true for every input. No condition. -/
import Derived.Test.YtdppeaciahdekaaGreatG01
import Derived.Test.YtdppeaciahdekaaGreatG00
import Derived.Calls
set_option linter.all false
section
namespace Go.Sim
section
variable {S : SEnv} {σ : Sig} (hV : S.V.fit σ) (hF : S.F.hold σ)
include hV hF
omit hV hF in
theorem smallB_ok {n : Nat} (h : smallB n = true) : n ≤ 2 ^ 40 := Nat.le_of_ble_eq_true h
theorem sop_ok {T : STmps} {H H' : SHeap} {op : AOp} {out : SOut} (h : sop S T H op = .ok (out, H')) : aop S.E (instT σ T) (instH σ H) op = some (instO σ out, instH σ H') := by
 have ev := fun {x : Operand} {v : SVal} (h : sev S T x = .ok v) => sev_ok (T := T) hV hF h
 have evs := fun {x : List Operand} {v : List SVal} (h : sevs S T x = .ok v) => sevs_ok (T := T) hV hF h
 have rt : ∀ {v : SVal} {H1 : SHeap}, sret v H1 = .ok (out, H') → ret (v.inst σ) (instH σ H1) = some (instO σ out, instH σ H') := by
  intro v H1 h
  simp only [sret, SR.ok.injEq, Prod.mk.injEq] at h
  obtain ⟨rfl, rfl⟩ := h
  rfl
 have rtn : ∀ {v : SVal} {b : SBlk}, sret v (H.new b) = .ok (out, H') → ret (v.inst σ) ((instH σ H).new (instB σ b)) = some (instO σ out, instH σ H') := by
  intro v b h
  rw [hnew_inst]; exact rt h
 cases op with
 | mov x =>
  simp only [sop] at h
  replace h := SR.bind_ok h; obtain ⟨v, hv, h⟩ := h
  simp only [aop, ev hv]; exact rt h
 | pick c a b =>
  simp only [sop] at h
  replace h := SR.bind_ok h; obtain ⟨v, hv, h⟩ := h
  split at h
  ·replace h := SR.bind_ok h; obtain ⟨x, hx, h⟩ := h
   replace h := SR.bind_ok h; obtain ⟨y, hy, h⟩ := h
   simp only [aop, ev hv, ev hx, ev hy, SVal.inst]; exact rt h
  ·replace h := SR.bind_ok h; obtain ⟨x, hx, h⟩ := h
   replace h := SR.bind_ok h; obtain ⟨y, hy, h⟩ := h
   simp only [aop, ev hv, ev hx, ev hy, SVal.inst]; exact rt h
  ·cases h
 | new z =>
  simp only [sop] at h
  replace h := SR.bind_ok h; obtain ⟨r, hr, h⟩ := h
  have := rtn h
  simp only [instB, embR_inst σ _ _ (SR.of_ok hr)] at this
  exact this
 | box x =>
  simp only [sop] at h
  replace h := SR.bind_ok h; obtain ⟨v, hv, h⟩ := h
  replace h := SR.bind_ok h; obtain ⟨c, hc, h⟩ := h
  simp only [aop, ev hv, cells_inst (SR.of_ok hc)]
  exact rtn h
 | build z ps =>
  simp only [sop] at h
  replace h := SR.bind_ok h; obtain ⟨r, hr, h⟩ := h
  replace h := SR.bind_ok h; obtain ⟨c, hc, h⟩ := h
  have := fillS_ok hV hF hc
  rw [embR_inst σ _ _ (SR.of_ok hr)] at this
  simp only [aop, this]
  exact rt h
 | bsl n z ps =>
  simp only [sop] at h
  replace h := SR.bind_ok h; obtain ⟨r, hr, h⟩ := h
  replace h := SR.bind_ok h; obtain ⟨c, hc, h⟩ := h
  have := fillS_ok hV hF hc
  rw [embR_inst σ _ _ (SR.of_ok hr)] at this
  simp only [aop, this]
  exact rtn h
 | ldc x =>
  simp only [sop] at h
  replace h := SR.bind_ok h; obtain ⟨v, hv, h⟩ := h
  split at h
  ·replace h := SR.bind_ok h; obtain ⟨c, hc, h⟩ := h
   simp only [aop, ev hv, SVal.inst, load1_ok (SR.of_ok hc)]
   exact rt h
  ·rename_i i o s e
   replace h := SR.guard_ok h; obtain ⟨hs, h⟩ := h
   have := Nat.eq_of_beq_eq_true hs; subst this
   split at h
   ·rename_i r g w hb
    replace h := SR.bind_ok h; obtain ⟨⟨n, k, a⟩, ha, h⟩ := h
    replace h := SR.bind_ok h; obtain ⟨b, hw, h⟩ := h
    replace h := SR.guard_ok h; obtain ⟨rfl, h⟩ := h
    obtain ⟨j, hj, hn⟩ := within_ok hV hF hw
    have := arrAt_ok (σ := σ) r o n k a (SR.of_ok ha) j hn
    have h2 := rt h
    simp only [aop, ev hv, SVal.inst, hj, Nat.mul_one, Int.toNat_natCast, hload1, hget_inst hb, instB, this]
    simp only [SVal.inst, Sx.ev, hj] at h2
    exact h2
   ·cases h
  ·cases h
 | ldr n x =>
  simp only [sop] at h
  replace h := SR.bind_ok h; obtain ⟨v, hv, h⟩ := h
  split at h
  ·replace h := SR.bind_ok h; obtain ⟨c, hc, h⟩ := h
   simp only [aop, ev hv, SVal.inst, loadN_ok (SR.of_ok hc)]
   exact rt h
  ·cases h
 | sto n a v =>
  simp only [sop] at h
  replace h := SR.bind_ok h; obtain ⟨p, hp, h⟩ := h
  replace h := SR.bind_ok h; obtain ⟨x, hx, h⟩ := h
  split at h
  ·replace h := SR.bind_ok h; obtain ⟨c, hc, h⟩ := h
   replace h := SR.guard_ok h; obtain ⟨hn, h⟩ := h
   replace h := SR.bind_ok h; obtain ⟨H1, hs, h⟩ := h
   simp only [aop, ev hp, ev hx, SVal.inst, cells_inst (SR.of_ok hc), SRope.size_inst, Nat.eq_of_beq_eq_true hn, if_true, store_ok (SR.of_ok hs)]
   exact rt h
  ·rename_i i o s e
   replace h := SR.guard_ok h; obtain ⟨hs, h⟩ := h
   simp only [Bool.and_eq_true] at hs
   have h1 := Nat.eq_of_beq_eq_true hs.1; subst h1
   have h2 := Nat.eq_of_beq_eq_true hs.2; subst h2
   split at h
   ·rename_i r g hb
    replace h := SR.bind_ok h; obtain ⟨⟨m, k, a⟩, ha, h⟩ := h
    replace h := SR.bind_ok h; obtain ⟨b, hw, h⟩ := h
    replace h := SR.guard_ok h; obtain ⟨rfl, h⟩ := h
    simp only at h
    split at h
    ·rename_i k' y hy
     replace h := SR.guard_ok h; obtain ⟨hk, h⟩ := h
     simp only [Bool.and_eq_true, Bool.not_eq_true'] at hk
     obtain ⟨hk, h1⟩ := hk
     have := of_decide_eq_true hk; subst this
     replace h := SR.bind_ok h; obtain ⟨r', hr, h⟩ := h
     obtain ⟨j, hj, hn⟩ := within_ok hV hF hw
     have g1 := arrPut_ok (σ := σ) r r' o m k a e y (SR.of_ok ha) (SR.of_ok hr) j hj hn
     have g2 := arrAt_ok (σ := σ) r o m k a (SR.of_ok ha) j hn
     have g3 := Rope.get_lt g2
     rw [SRope.size_inst] at g3
     have g4 : ¬ (1 == r.size) = true := by
      intro hc
      have : r.size = 1 := by simpa using (beq_iff_eq.1 hc).symm
      rw [this] at h1; simp at h1
     simp only [aop, ev hp, ev hx, SVal.inst, numOf_inst hy, AVal.cells, Rope.size, List.length_cons, List.length_nil, Nat.zero_add, if_true, hstore, hget_inst hb, instB, hj, Int.toNat_natCast, Nat.mul_one]
     rw [SRope.size_inst, if_pos (by omega)]
     have g5 : putAll (instR σ r) (o + j) (.lst [AVal.int k (y.ev σ)]) = instR σ r' := by
      unfold putAll
      rw [if_neg]
      ·simp only [Rope.size, List.length_cons, List.length_nil, Nat.zero_add, over, Rope.get, List.getElem?_cons_zero, Nat.add_zero]
       exact g1
      ·intro hc
       simp only [Bool.and_eq_true, decide_eq_true_eq, SRope.size_inst] at hc
       exact g4 hc.2
     rw [g5]
     have := rt h
     rw [← hput_inst] at this
     exact this
    ·cases h
   ·cases h
  ·cases h
 | nilc x =>
  simp only [sop] at h
  replace h := SR.bind_ok h; obtain ⟨v, hv, h⟩ := h
  split at h
  ·simp only [aop, ev hv, SVal.inst]; exact rt h
  ·simp only [aop, ev hv, SVal.inst]; exact rt h
  ·simp only [aop, ev hv, SVal.inst]; exact rt h
  ·simp only [aop, ev hv, SVal.inst]; exact rt h
  ·cases h
 | bin op k c x y =>
  simp only [sop] at h
  replace h := SR.bind_ok h; obtain ⟨a, ha, h⟩ := h
  replace h := SR.bind_ok h; obtain ⟨b, hb, h⟩ := h
  replace h := SR.bind_ok h; obtain ⟨v, hv, h⟩ := h
  simp only [aop, ev ha, ev hb, sbin_ok hV hF hv]; exact rt h
 | una op x =>
  simp only [sop] at h
  replace h := SR.bind_ok h; obtain ⟨a, ha, h⟩ := h
  replace h := SR.bind_ok h; obtain ⟨v, hv, h⟩ := h
  simp only [aop, ev ha, sun_ok hv]; exact rt h
 | cvt k x =>
  simp only [sop] at h
  replace h := SR.bind_ok h; obtain ⟨v, hv, h⟩ := h
  split at h
  ·simp only [aop, ev hv, SVal.inst]; exact rt h
  ·simp only [aop, ev hv, SVal.inst]; exact rt h
  ·cases h
 | mki t x =>
  simp only [sop] at h
  replace h := SR.bind_ok h; obtain ⟨v, hv, h⟩ := h
  simp only [aop, ev hv]; exact rt h
 | mkf fn a b =>
  simp only [sop] at h
  replace h := SR.bind_ok h; obtain ⟨x, hx, h⟩ := h
  replace h := SR.bind_ok h; obtain ⟨y, hy, h⟩ := h
  simp only [aop, evs hx, evs hy]; exact rt h
 | mkm =>
  simp only [sop] at h
  exact rtn h
 | mks bytes z l c =>
  simp only [sop] at h
  replace h := SR.bind_ok h; obtain ⟨x, hx, h⟩ := h
  replace h := SR.bind_ok h; obtain ⟨y, hy, h⟩ := h
  split at h
  ·rename_i a b
   replace h := SR.guard_ok h; obtain ⟨hg, h⟩ := h
   simp only [Bool.and_eq_true] at hg
   obtain ⟨h1, h2, h3⟩ := hg
   have h1 := Nat.le_of_ble_eq_true h1
   have h2 : bytes * b ≤ 2 ^ 40 := smallB_ok h2
   have h3 : b ≤ 2 ^ 40 := smallB_ok h3
   replace h := SR.bind_ok h; obtain ⟨z', hz, h⟩ := h
   replace h := SR.bind_ok h; obtain ⟨r, hr, h⟩ := h
   have g := stileN_ok (σ := σ) (SR.of_ok hr)
   rw [embR_inst σ _ _ (SR.of_ok hz)] at g
   have g2 := rtn h
   simp only [aop, ev hx, ev hy, SVal.inst]
   rw [if_pos]
   ·simp only [Int.ofNat_eq_natCast, Int.toNat_natCast, g]; exact g2
   ·simp only [Int.ofNat_eq_natCast, Int.toNat_natCast, Bool.and_eq_true, decide_eq_true_eq]
    exact ⟨⟨⟨by omega, by omega⟩, h2⟩, h3⟩
  ·cases h
 | sls s x lo hi =>
  simp only [sop] at h
  replace h := SR.bind_ok h; obtain ⟨v, hv, h⟩ := h
  split at h
  ·rename_i p n c
   replace h := SR.bind_ok h; obtain ⟨hh, h1, h⟩ := h
   replace h := SR.bind_ok h; obtain ⟨l, h2, h⟩ := h
   replace h := SR.guard_ok h; obtain ⟨hg, h⟩ := h
   simp only [Bool.and_eq_true] at hg
   have g1 := Nat.le_of_ble_eq_true hg.1
   have g2 := Nat.le_of_ble_eq_true hg.2
   simp only [aop, ev hv, SVal.inst, sbound_ok hV hF h1, sbound_ok hV hF h2]
   rw [if_pos (by simp [g1, g2])]
   split at h
   ·exact rt h
   ·cases e0 : Nat.beq l 0 with
    | true =>
     simp only [e0, cond_true] at h
     show (if l = 0 then _ else _) = _
     rw [if_pos (Nat.eq_of_beq_eq_true e0)]
     exact rt h
    | false =>
    simp only [e0, cond_false] at h
    show (if l = 0 then _ else _) = _
    rw [if_neg (Nat.ne_of_beq_eq_false e0)]
    split at h
    ·rename_i r g w hb
     simp only [hget_inst hb, instB]
     cases e1 : Nat.blt l c with
     | true =>
      simp only [e1, cond_true] at h
      rw [if_pos (by simpa [Nat.blt_eq] using e1)]
      exact rt h
     | false =>
      simp only [e1, cond_false] at h
      rw [if_neg (blt_false e1)]
      cases e2 : Nat.beq g 0 with
      | true =>
       simp only [e2, cond_true] at h
       rw [if_pos (Nat.eq_of_beq_eq_true e2)]
       exact rt h
      | false =>
       simp only [e2, cond_false] at h
       rw [if_neg (Nat.ne_of_beq_eq_false e2)]
       cases e3 : Nat.beq l 0 with
       | true => rw [e3] at e0; cases e0
       | false => simp [e3] at h
    ·cases h
  ·cases h
 | sla n s x lo hi =>
  simp only [sop] at h
  replace h := SR.bind_ok h; obtain ⟨v, hv, h⟩ := h
  split at h
  ·rename_i i o
   split at h
   ·rename_i r g w hb
    replace h := SR.guard_ok h; obtain ⟨hg, h⟩ := h
    have := Nat.eq_of_beq_eq_true hg; subst this
    replace h := SR.bind_ok h; obtain ⟨hh, h1, h⟩ := h
    replace h := SR.bind_ok h; obtain ⟨l, h2, h⟩ := h
    replace h := SR.guard_ok h; obtain ⟨hg, h⟩ := h
    simp only [Bool.and_eq_true] at hg
    have g1 := Nat.le_of_ble_eq_true hg.1
    have g2 := Nat.le_of_ble_eq_true hg.2
    simp only [aop, ev hv, SVal.inst, hget_inst hb, instB, sbound_ok hV hF h1, sbound_ok hV hF h2]
    rw [if_pos (by simp [g1, g2])]
    have := rt h
    cases e : Nat.beq n l with
    | true =>
     simp only [e, cond_true] at this
     rw [if_pos (Nat.eq_of_beq_eq_true e)]
     exact this
    | false =>
     simp only [e, cond_false] at this
     rw [if_neg (Nat.ne_of_beq_eq_false e)]
     exact this
   ·cases h
  ·cases h
 | fa off x =>
  simp only [sop] at h
  replace h := SR.bind_ok h; obtain ⟨v, hv, h⟩ := h
  split at h
  ·simp only [aop, ev hv, SVal.inst]; exact rt h
  ·cases h
 | fld agg off s x =>
  simp only [sop] at h
  replace h := SR.bind_ok h; obtain ⟨v, hv, h⟩ := h
  split at h
  ·rename_i r
   simp only [aop, ev hv, SVal.inst]
   cases agg with
   | true =>
    simp only [cond_true] at h
    replace h := SR.guard_ok h; obtain ⟨hg, h⟩ := h
    replace h := SR.bind_ok h; obtain ⟨c, hc, h⟩ := h
    rw [if_pos rfl, SRope.size_inst, if_pos (Nat.le_of_ble_eq_true hg), SRope.ext_inst σ _ _ _ _ (SR.of_ok hc)]
    exact rt h
   | false =>
    simp only [cond_false] at h
    replace h := SR.bind_ok h; obtain ⟨c, hc, h⟩ := h
    rw [if_neg (by simp), SRope.get_inst σ _ _ _ (SR.of_ok hc)]
    exact rt h
  ·cases h
 | iaa n s x i =>
  simp only [sop] at h
  replace h := SR.bind_ok h; obtain ⟨v, hv, h⟩ := h
  replace h := SR.bind_ok h; obtain ⟨j, hj, h⟩ := h
  split at h
  ·replace h := SR.bind_ok h; obtain ⟨u, hu, h⟩ := h
   obtain ⟨m, g1, g2, g3⟩ := sptr_ok hV hF hu
   simp only [aop, ev hv, ev hj, SVal.inst, g1, g2, if_true]
   rw [← g3]; exact rt h
  ·cases h
 | ias s x i =>
  simp only [sop] at h
  replace h := SR.bind_ok h; obtain ⟨v, hv, h⟩ := h
  replace h := SR.bind_ok h; obtain ⟨j, hj, h⟩ := h
  split at h
  ·replace h := SR.bind_ok h; obtain ⟨u, hu, h⟩ := h
   obtain ⟨m, g1, g2, g3⟩ := sptr_ok hV hF hu
   simp only [aop, ev hv, ev hj, SVal.inst, g1, g2, if_true]
   rw [← g3]; exact rt h
  ·cases h
 | ixa n agg s x i =>
  simp only [sop] at h
  replace h := SR.bind_ok h; obtain ⟨v, hv, h⟩ := h
  replace h := SR.bind_ok h; obtain ⟨j, hj, h⟩ := h
  split at h
  ·rename_i r
   replace h := SR.bind_ok h; obtain ⟨m, hm, h⟩ := h
   obtain ⟨g1, g2⟩ := sidx_ok hV hF hm
   simp only [aop, ev hv, ev hj, SVal.inst, g1, g2, if_true]
   cases agg with
   | true =>
    simp only [cond_true] at h
    replace h := SR.guard_ok h; obtain ⟨hg, h⟩ := h
    replace h := SR.bind_ok h; obtain ⟨c, hc, h⟩ := h
    rw [if_pos rfl, SRope.size_inst, if_pos (Nat.le_of_ble_eq_true hg), SRope.ext_inst σ _ _ _ _ (SR.of_ok hc)]
    exact rt h
   | false =>
    simp only [cond_false] at h
    replace h := SR.bind_ok h; obtain ⟨c, hc, h⟩ := h
    rw [if_neg (by simp), SRope.get_inst σ _ _ _ (SR.of_ok hc)]
    exact rt h
  ·cases h
 | ixs x i => cases h
 | lkp k z ok x i =>
  simp only [sop] at h
  replace h := SR.bind_ok h; obtain ⟨m, hm, h⟩ := h
  replace h := SR.bind_ok h; obtain ⟨j, hj, h⟩ := h
  split at h
  ·rename_i m k' e he
   replace h := SR.guard_ok h; obtain ⟨hk, h⟩ := h
   have := of_decide_eq_true hk; subst this
   replace h := SR.bind_ok h; obtain ⟨r, hr, h⟩ := h
   simp only [aop, ev hm, ev hj, SVal.inst, numOf_inst he, aint, if_true, hfind_ok hV hF hr]
   split at h
   ·have := rt h
    cases ok <;> exact this
   ·replace h := SR.bind_ok h; obtain ⟨z', hz, h⟩ := h
    have := rt h
    have hz := emb_inst σ _ _ (SR.of_ok hz)
    subst hz
    cases ok <;> exact this
  ·cases h
 | mup k m i v =>
  simp only [sop] at h
  replace h := SR.bind_ok h; obtain ⟨m', hm, h⟩ := h
  replace h := SR.bind_ok h; obtain ⟨j, hj, h⟩ := h
  replace h := SR.bind_ok h; obtain ⟨x, hx, h⟩ := h
  split at h
  ·rename_i b k' e he
   replace h := SR.guard_ok h; obtain ⟨hk, h⟩ := h
   have := of_decide_eq_true hk; subst this
   split at h
   ·rename_i es hb
    replace h := SR.bind_ok h; obtain ⟨es', hs, h⟩ := h
    have g := sputm_ok (v := x) hV hF (numOf_inst (σ := σ) he) hs
    simp only [aop, ev hm, ev hj, ev hx, SVal.inst, numOf_inst he, aint, if_true, hget_inst hb, instB, g]
    have := rt h
    rw [← hput_inst] at this
    exact this
   ·cases h
  ·cases h
 | tas t ok z x =>
  simp only [sop] at h
  replace h := SR.bind_ok h; obtain ⟨v, hv, h⟩ := h
  split at h
  ·rename_i u w
   cases e : Nat.beq u t with
   | true =>
    simp only [e, cond_true] at h
    simp only [aop, ev hv, SVal.inst, Nat.eq_of_beq_eq_true e, if_true]
    have := rt h
    cases ok <;> exact this
   | false =>
    simp only [e, cond_false] at h
    have hne := Nat.ne_of_beq_eq_false e
    cases ok with
    | true =>
     simp only [if_true] at h
     replace h := SR.bind_ok h; obtain ⟨z', hz, h⟩ := h
     have hz := emb_inst σ _ _ (SR.of_ok hz)
     subst hz
     simp only [aop, ev hv, SVal.inst, hne, if_false, if_true]
     exact rt h
    | false => simp at h
  ·cases ok with
   | true =>
    simp only [if_true] at h
    replace h := SR.bind_ok h; obtain ⟨z', hz, h⟩ := h
    have hz := emb_inst σ _ _ (SR.of_ok hz)
    subst hz
    simp only [aop, ev hv, SVal.inst, if_true]
    exact rt h
   | false => simp at h
  ·cases h
 | ext x i =>
  simp only [sop] at h
  replace h := SR.bind_ok h; obtain ⟨v, hv, h⟩ := h
  split at h
  ·rename_i l
   replace h := SR.bind_ok h; obtain ⟨u, hu, h⟩ := h
   have hu := SR.of_ok hu
   simp only [aop, ev hv, SVal.inst, instL_map, List.getElem?_map, hu, Option.map_some]
   exact rt h
  ·cases h
 | call f args =>
  simp only [sop] at h
  replace h := SR.bind_ok h; obtain ⟨l, hl, h⟩ := h
  replace h := SR.guard_ok h; obtain ⟨hf, h⟩ := h
  simp only [SR.ok.injEq, Prod.mk.injEq] at h
  obtain ⟨rfl, rfl⟩ := h
  simp only [aop, evs hl, hf, if_true, instO]
 | clv f args =>
  simp only [sop] at h
  replace h := SR.bind_ok h; obtain ⟨g, hg, h⟩ := h
  replace h := SR.bind_ok h; obtain ⟨l, hl, h⟩ := h
  replace h := SR.bind_ok h; obtain ⟨⟨f', l'⟩, hc, h⟩ := h
  simp only [SR.ok.injEq, Prod.mk.injEq] at h
  obtain ⟨rfl, rfl⟩ := h
  simp only [aop, ev hg, evs hl, scallee_ok (SR.of_ok hc), instO]
 | inv name r args =>
  simp only [sop] at h
  replace h := SR.bind_ok h; obtain ⟨g, hg, h⟩ := h
  replace h := SR.bind_ok h; obtain ⟨l, hl, h⟩ := h
  split at h
  ·replace h := SR.bind_ok h; obtain ⟨f', hc, h⟩ := h
   simp only [SR.ok.injEq, Prod.mk.injEq] at h
   obtain ⟨rfl, rfl⟩ := h
   simp only [aop, ev hg, evs hl, SVal.inst, SR.of_ok hc, instO, instL]
  ·cases h
 | len k x =>
  simp only [sop] at h
  replace h := SR.bind_ok h; obtain ⟨v, hv, h⟩ := h
  split at h
  ·simp only [aop, ev hv]; exact rt h
  ·split at h
   ·simp only [aop, ev hv, SVal.inst]; exact rt h
   ·cases h
  ·split at h
   ·simp only [aop, ev hv, SVal.inst]; exact rt h
   ·cases h
 | app s bytes x y =>
  simp only [sop] at h
  replace h := SR.bind_ok h; obtain ⟨u, hu, h⟩ := h
  replace h := SR.bind_ok h; obtain ⟨v, hv, h⟩ := h
  split at h
  ·rename_i p n c q m c'
   replace h := SR.bind_ok h; obtain ⟨new, hn, h⟩ := h
   simp only [aop, ev hu, ev hv, SVal.inst, hsrc_ok (SR.of_ok hn)]
   cases e0 : Nat.beq m 0 with
   | true =>
    simp only [e0, cond_true] at h
    replace h := SR.guard_ok h; obtain ⟨hg, h⟩ := h
    rw [if_pos (Nat.eq_of_beq_eq_true e0), if_pos (Nat.le_of_ble_eq_true hg)]
    exact rt h
   | false =>
    simp only [e0, cond_false] at h
    rw [if_neg (Nat.ne_of_beq_eq_false e0)]
    replace h := SR.guard_ok h; obtain ⟨hg, h⟩ := h
    simp only [Bool.and_eq_true, Bool.not_eq_true'] at hg
    obtain ⟨g1, g2, g3, g4⟩ := hg
    have g1 := smallB_ok g1
    have g2 := smallB_ok g2
    have g3 := Nat.le_of_ble_eq_true g3
    have g4 := Nat.ne_of_beq_eq_false g4
    rw [if_pos (by simp [g1, g2, g3, g4])]
    split at h
    ·exact rtn h
    ·split at h
     ·rename_i i o r g w hb
      simp only [hget_inst hb, instB]
      cases e1 : Nat.ble (n + m) c with
      | true =>
       simp only [e1, cond_true] at h
       replace h := SR.bind_ok h; obtain ⟨H1, hs, h⟩ := h
       rw [if_pos (Nat.le_of_ble_eq_true e1), store_ok (SR.of_ok hs)]
       exact rt h
      | false =>
       simp only [e1, cond_false] at h
       replace h := SR.bind_ok h; obtain ⟨old, ho, h⟩ := h
       replace h := SR.bind_ok h; obtain ⟨both, hbo, h⟩ := h
       rw [if_neg (ble_false e1), loadN_ok (SR.of_ok ho)]
       simp only [SRope.cat_inst σ _ _ _ (SR.of_ok hbo)]
       cases e2 : Nat.beq g 0 with
       | true =>
        simp only [e2, cond_true] at h
        rw [if_pos (Nat.eq_of_beq_eq_true e2)]
        exact rtn h
       | false =>
        simp only [e2, cond_false] at h
        rw [if_neg (Nat.ne_of_beq_eq_false e2)]
        replace h := SR.guard_ok h; obtain ⟨hg, h⟩ := h
        simp only [Bool.and_eq_true] at hg
        obtain ⟨k1, k2, k3, k4⟩ := hg
        rw [if_pos (by simp [k1, Nat.eq_of_beq_eq_true k2, SRope.size_inst, ← Nat.eq_of_beq_eq_true k3, Nat.eq_of_beq_eq_true k4])]
        have := rt h
        rw [← hnew_inst, ← hkill_inst] at this
        exact this
     ·cases h
  ·cases h
 | cpy s x y =>
  simp only [sop] at h
  replace h := SR.bind_ok h; obtain ⟨u, hu, h⟩ := h
  replace h := SR.bind_ok h; obtain ⟨v, hv, h⟩ := h
  split at h
  ·rename_i p n c q m c'
   replace h := SR.bind_ok h; obtain ⟨new, hn, h⟩ := h
   have hn := hsrc_ok (σ := σ) (SR.of_ok hn)
   simp only [aop, ev hu, ev hv, SVal.inst]
   have e : Nat.min m n = min m n := rfl
   rw [e] at hn
   simp only [hn]
   split at h
   ·exact rt h
   ·replace h := SR.bind_ok h; obtain ⟨H1, hs, h⟩ := h
    simp only [store_ok (SR.of_ok hs)]
    exact rt h
  ·cases h
 | mnx isMax x y =>
  simp only [sop] at h
  replace h := SR.bind_ok h; obtain ⟨u, hu, h⟩ := h
  replace h := SR.bind_ok h; obtain ⟨v, hv, h⟩ := h
  split at h
  ·rename_i k a k' b h1 h2
   replace h := SR.guard_ok h; obtain ⟨hk, h⟩ := h
   have := of_decide_eq_true hk; subst this
   simp only [aop, ev hu, ev hv, numOf_inst h1, numOf_inst h2, if_true]
   exact rt h
  ·rename_i k a k' b _ h1 h2
   replace h := SR.guard_ok h; obtain ⟨hk, h⟩ := h
   have := of_decide_eq_true hk; subst this
   simp only [aop, ev hu, ev hv, numOf_inst h1, numOf_inst h2, if_true]
   exact rt h
  ·cases h
 | del _ _ _ => cases h
 | dfr f args =>
  simp only [sop] at h
  replace h := SR.bind_ok h; obtain ⟨g, hg, h⟩ := h
  replace h := SR.bind_ok h; obtain ⟨l, hl, h⟩ := h
  replace h := SR.bind_ok h; obtain ⟨⟨f', l'⟩, hc, h⟩ := h
  simp only [SR.ok.injEq, Prod.mk.injEq] at h
  obtain ⟨rfl, rfl⟩ := h
  simp only [aop, ev hg, evs hl, scallee_ok (SR.of_ok hc), instO]
 | pnc x =>
  simp only [sop] at h
  replace h := SR.bind_ok h; obtain ⟨v, hv, h⟩ := h
  split at h
  ·simp only [SR.ok.injEq, Prod.mk.injEq] at h
   obtain ⟨rfl, rfl⟩ := h
   simp only [aop, ev hv, SVal.inst, instO]
  ·cases h
 | rcv =>
  simp only [sop, SR.ok.injEq, Prod.mk.injEq] at h
  obtain ⟨rfl, rfl⟩ := h
  rfl
 | bad => cases h
end
end Go.Sim
end
section
namespace Go.Sim
structure SSt where
 T : STmps
 H : SHeap
 D : List (FuncId × List SVal)
inductive SX where
 | normal
 | exit (id : Nat)
 | ret
 | panic (v : SVal)
inductive SRes where
 | ret (v : SVal) (H : SHeap)
 | pan (v : SVal) (H : SHeap)
abbrev SCallF := FuncId → List SVal → SHeap → SR SRes
def swanted (S : SEnv) (T : STmps) : Option (Nat × Bool) → SR Bool
 | none => .ok true
 | some (t, b) => (force S (stget T t)).bind fun v => match v with
  | .bool c => .ok (c == b)
  | .junk => .no
  | .sb _ => .no
  | _ => .ok false
def stput (n : Nat) (d : Option Nat) (v : SVal) (T : STmps) : SR STmps :=
 match d with
 | none => .ok T
 | some d => bif Nat.blt d n then .ok (T.set d (some v)) else .no
def sitems (call : SCallF) (S : SEnv) (n : Nat) : List AItem → SSt → SR (SX × SSt)
 | [], s => .ok (.normal, s)
 | it :: l, s => (swanted S s.T it.guard).bind fun w =>
  bif w then (sop S s.T s.H it.op).bind fun (o, H) => match o with
   | .val v => (stput n it.dst v s.T).bind fun T => sitems call S n l ⟨T, H, s.D⟩
   | .enter f args => (call f args H).bind fun r => match r with
    | .ret v H => (stput n it.dst v s.T).bind fun T => sitems call S n l ⟨T, H, s.D⟩
    | .pan v H => .ok (.panic v, ⟨s.T, H, s.D⟩)
   | .panic v => .ok (.panic v, ⟨s.T, H, s.D⟩)
   | .defer f args => (stput n it.dst SVal.undef s.T).bind fun T => sitems call S n l ⟨T, H, (f, args) :: s.D⟩
   | .recov => .no
  else (stput n it.dst SVal.undef s.T).bind fun T => sitems call S n l ⟨T, s.H, s.D⟩
def sbeqL (f : SVal → SVal → Bool) : List SVal → List SVal → Bool
 | [], [] => true
 | a :: l, b :: m => f a b && sbeqL f l m
 | _, _ => false
def sbeqR (d : Nat) (f : SVal → SVal → Bool) : SRope SVal → SRope SVal → Bool
 | .lst l, .lst m => sbeqL f l m
 | .rep n a, .rep m b => Nat.beq n m && f a b
 | .app n a b, .app m c e => Nat.beq n m && (sbeqR d f a c && sbeqR d f b e)
 | .arr n k a, .arr m k' b => Nat.blt 0 d && (Nat.beq n m && (beqK k k' && a.beq b))
 | _, _ => false
def beqP : Option (Nat × Nat) → Option (Nat × Nat) → Bool
 | none, none => true
 | some (a, b), some (c, d) => Nat.beq a c && Nat.beq b d
 | _, _ => false
def beqO : Option Nat → Option Nat → Bool
 | none, none => true
 | some a, some b => Nat.beq a b
 | _, _ => false
def sbeqV : Nat → SVal → SVal → Bool
 | 0, _, _ => false
 | n + 1, a, b => match a, b with
  | .bool a, .bool b => a == b
  | .int k a, .int j b => beqK k j && eqI a b
  | .sym k a, .sym j b => beqK k j && a.beq b
  | .sb a, .sb b => a.beq b
  | .str a, .str b => decide (a = b)
  | .ptr a, .ptr b => beqP a b
  | .pti i o s e, .pti i' o' s' e' => Nat.beq i i' && (Nat.beq o o' && (Nat.beq s s' && e.beq e'))
  | .slice a n c, .slice b m d => beqP a b && (Nat.beq n m && Nat.beq c d)
  | .osl i, .osl j => Nat.beq i j
  | .ovs i, .ovs j => Nat.beq i j
  | .mapv a, .mapv b => beqO a b
  | .func f a b, .func g c d => decide (f = g) && (sbeqL (sbeqV n) a c && sbeqL (sbeqV n) b d)
  | .nilFunc, .nilFunc => true
  | .iface t a, .iface u b => Nat.beq t u && sbeqV n a b
  | .nilIface, .nilIface => true
  | .agg a, .agg b => sbeqR n (sbeqV n) a b
  | .tup a, .tup b => sbeqL (sbeqV n) a b
  | _, _ => false
def sscL (f : SVal → Bool) : List SVal → Bool
 | [] => true
 | a :: l => f a && sscL f l
def sscR (d : Nat) (f : SVal → Bool) : SRope SVal → Bool
 | .lst l => sscL f l
 | .rep _ a => f a
 | .app _ a b => sscR d f a && sscR d f b
 | .arr _ _ _ => Nat.blt 0 d
def sscV (q m : Nat) : Nat → SVal → Bool
 | 0, _ => false
 | n + 1, a => match a with
  | .ptr (some (i, _)) => Nat.blt i m
  | .pti i _ _ _ => Nat.blt i m
  | .slice (some (i, _)) _ _ => Nat.blt i m
  | .osl _ => Nat.ble q m
  | .mapv (some i) => Nat.blt i m
  | .func _ a b => sscL (sscV q m n) a && sscL (sscV q m n) b
  | .iface _ a => sscV q m n a
  | .agg r => sscR n (sscV q m n) r
  | .tup l => sscL (sscV q m n) l
  | _ => true
def sscAll (q : Nat) (T : STmps) (m : Nat) : List Nat → Bool
 | [] => true
 | t :: l => sscV q m depth (stget T t) && sscAll q T m l
inductive SDRes where
 | val (v : SVal) (H : SHeap)
 | pan (v : SVal) (H : SHeap)
def sdstep (call : SCallF) (S : SEnv) (T : STmps) (H : SHeap) (it : AItem) : SR SDRes :=
 (swanted S T it.guard).bind fun w =>
  bif w then (sop S T H it.op).bind fun (o, H') => match o with
   | .val v => .ok (.val v H')
   | .enter f args => (call f args H').bind fun r => match r with
    | .ret v H'' => .ok (.val v H'')
    | .pan v H'' => .ok (.pan v H'')
   | _ => .no
  else .ok (.val SVal.undef H)
structure SDRow where
 val : SVal
 T : STmps
 H : SHeap
inductive SDRun where
 | done (l : List SDRow) (T : STmps) (H : SHeap)
 | pan (l : List SDRow) (T : STmps) (H : SHeap) (k : Nat) (v : SVal) (H' : SHeap)
def sachk (q : Nat) (d : DItem) (H H' : SHeap) : Bool :=
 match d.cls with
 | .A => match H'.get H.next with
  | some (.cells c _ _) => sscR depth (sscV q H.next depth) c
  | _ => false
 | .W => Nat.ble H.next H'.next
 | _ => true
def swchk (q : Nat) (d : DItem) (T : STmps) (H : SHeap) : Bool :=
 match d.cls with
 | .W => sscAll q T H.next (looks d.it.op)
 | _ => true
def sdrun (call : SCallF) (S : SEnv) (n : Nat) : List DItem → Nat → List SDRow → STmps → SHeap → SR SDRun
 | [], _, acc, T, H => .ok (.done acc.reverse T H)
 | d :: l, k, acc, T, H => SR.guard (swchk S.V.o d T H) ((sdstep call S T H d.it).bind fun r => match r with
  | .val v H' => SR.guard (sachk S.V.o d H H') ((stput n d.it.dst v T).bind fun T' => sdrun call S n l (k + 1) (⟨v, T, H⟩ :: acc) T' H')
  | .pan v H' => .ok (.pan acc.reverse T H k v H'))
def sddry (S : SEnv) (n p : Nat) : List DItem → List SDRow → STmps → SHeap → SR (List SDRow)
 | [], acc, _, _ => .ok acc.reverse
 | d :: l, acc, T, H =>
  bif d.pre.testBit p then sddry S n p l (⟨SVal.undef, T, H⟩ :: acc) T H
  else match d.cls with
   | .W => .no
   | _ => (sdstep (fun _ _ _ => .no) S T H d.it).bind fun r => match r with
    | .val v H' => SR.guard (sachk S.V.o d H H') ((stput n d.it.dst v T).bind fun T' => sddry S n p l (⟨v, T, H⟩ :: acc) T' H')
    | _ => .no
def src1 (S : SEnv) (Hs : List SHeap) (d : DItem) (r : SDRow) (most k : Nat) : SR Unit :=
 bif Nat.ble k most then
  match Hs[k]? with
  | some H => (swanted S r.T d.it.guard).bind fun w => bif w then (sop S r.T H d.it.op).bind fun (o, _) => (match o with
    | .val v => SR.guard (sbeqV depth v r.val) (.ok ())
    | _ => .no) else .ok ()
  | none => .no
 else .ok ()
def srcheck (S : SEnv) (Hs : List SHeap) (d : DItem) (r : SDRow) (most : Nat) : List Nat → SR Unit
 | [] => .ok ()
 | k :: l =>
  (src1 S Hs d r most k).bind fun _ => srcheck S Hs d r most l
def src2 (S : SEnv) (Hs : List SHeap) (most : Nat) (skip : Bool) (d : DItem) (r : SDRow) : SR Unit :=
 match d.cls with
 | .R => bif skip then .ok () else srcheck S Hs d r most d.cand
 | _ => .ok ()
def srchecks (S : SEnv) (Hs : List SHeap) (most : Nat) (skip : DItem → Bool) : List DItem → List SDRow → SR Unit
 | d :: l, r :: m => (src2 S Hs most (skip d) d r).bind fun _ => srchecks S Hs most skip l m
 | _, _ => .ok ()
def sjunk (l : List Nat) (T : STmps) : STmps := l.foldl (fun T t => T.set t (some .junk)) T
def sdreg (call : SCallF) (S : SEnv) (n : Nat) (l : List DItem) (s : SSt) : SR (SX × SSt) :=
 (sdrun call S n l 0 [] s.T s.H).bind fun r => match r with
 | .done rows T H => (srchecks S (rows.map (·.H) ++ [H]) rows.length (fun _ => false) l rows).bind fun _ => .ok (.normal, ⟨T, H, s.D⟩)
 | .pan rows T0 H0 k v H => (sddry S n k (l.drop (k + 1)) [] T0 H0).bind fun more =>
  (srchecks S (rows.map (·.H) ++ [H0]) k (fun d => d.pre.testBit k) l (rows ++ ⟨SVal.undef, T0, H0⟩ :: more)).bind fun _ => .ok (.panic v, ⟨sjunk (ddsts l) s.T, H, s.D⟩)
def siter (f : SSt → SR (SX × SSt)) : Nat → SSt → SR (SX × SSt)
 | 0, _ => .no
 | k + 1, s => (f s).bind fun (x, s') => match x with
  | .normal => siter f k s'
  | x => .ok (x, s')
def sexec (call : SCallF) (S : SEnv) (n lf : Nat) : ACode → SSt → SR (SX × SSt)
 | .skip, s => .ok (.normal, s)
 | .reg l, s => sitems call S n l s
 | .drg l, s => sdreg call S n l s
 | .seq a b, s => (sexec call S n lf a s).bind fun (x, s') => match x with
  | .normal => sexec call S n lf b s'
  | x => .ok (x, s')
 | .cond c a b, s => (sev S s.T c).bind fun v => match v with
  | .bool true => sexec call S n lf a s
  | .bool false => sexec call S n lf b s
  | _ => .no
 | .blk id a, s => (sexec call S n lf a s).bind fun (x, s') => match x with
  | .exit i => bif Nat.beq i id then .ok (.normal, s') else .ok (.exit i, s')
  | x => .ok (x, s')
 | .loop a, s => siter (sexec call S n lf a) lf s
 | .exit id, s => .ok (.exit id, s)
 | .ret, s => .ok (.ret, s)
 | .bad, _ => .no
def stinit : List SVal → Nat → STmps
 | [], _ => .leaf
 | v :: l, k => (stinit l (k + 1)).set k (some v)
def sres1 (T : STmps) (H : SHeap) : ARes → SR SVal
 | .tmp t => .ok (stget T t)
 | .cell a g n => match stget T a with
  | .ptr (some (i, o)) => bif g then SR.of ((shloadN H i o n).map .agg) else SR.of (shload1 H i o)
  | _ => .no
def sresL (T : STmps) (H : SHeap) : List ARes → SR (List SVal)
 | [] => .ok []
 | r :: l => (sres1 T H r).bind fun v => (sresL T H l).bind fun vs => .ok (v :: vs)
def sresults (T : STmps) (H : SHeap) (l : List ARes) : SR SVal := (sresL T H l).bind fun vs => match vs with
 | [v] => .ok v
 | vs => .ok (.tup vs)
def sitemsS (call : SCallF) (S : SEnv) (n : Nat) : List AItem → Option SVal → SSt → SR (SX × SSt × Option SVal)
 | [], m, s => .ok (.normal, s, m)
 | it :: l, m, s => (swanted S s.T it.guard).bind fun w =>
  bif w then (sop S s.T s.H it.op).bind fun (o, H) => match o with
   | .val v => (stput n it.dst v s.T).bind fun T => sitemsS call S n l m ⟨T, H, s.D⟩
   | .enter f args => (call f args H).bind fun r => match r with
    | .ret v H => (stput n it.dst v s.T).bind fun T => sitemsS call S n l m ⟨T, H, s.D⟩
    | .pan v H => .ok (.panic v, ⟨s.T, H, s.D⟩, m)
   | .panic v => .ok (.panic v, ⟨s.T, H, s.D⟩, m)
   | .recov => (stput n it.dst (m.getD .nilIface) s.T).bind fun T => sitemsS call S n l none ⟨T, H, s.D⟩
   | .defer _ _ => .no
  else (stput n it.dst SVal.undef s.T).bind fun T => sitemsS call S n l m ⟨T, s.H, s.D⟩
def sexecS (call : SCallF) (S : SEnv) (n lf : Nat) : ACode → Option SVal → SSt → SR (SX × SSt × Option SVal)
 | .seq a b, m, s => (sexecS call S n lf a m s).bind fun (x, s', m') => match x with
  | .normal => sexecS call S n lf b m' s'
  | x => .ok (x, s', m')
 | .cond c a b, m, s => (sev S s.T c).bind fun v => match v with
  | .bool true => sexecS call S n lf a m s
  | .bool false => sexecS call S n lf b m s
  | _ => .no
 | .reg l, m, s => sitemsS call S n l m s
 | .skip, m, s => .ok (.normal, s, m)
 | .drg l, m, s => (sexec call S n lf (.drg l) s).bind fun (x, s') => .ok (x, s', m)
 | .blk id a, m, s => (sexec call S n lf (.blk id a) s).bind fun (x, s') => .ok (x, s', m)
 | .loop a, m, s => (sexec call S n lf (.loop a) s).bind fun (x, s') => .ok (x, s', m)
 | .exit id, m, s => .ok (.exit id, s, m)
 | .ret, m, s => .ok (.ret, s, m)
 | .bad, _, _ => .no
def scallD (call : SCallF) (C : FuncId → Option AFunc) (S : SEnv) (lf : Nat) (f : FuncId) (args : List SVal) (m : Option SVal) (H : SHeap) : SR (Option SVal × SHeap) :=
 match C f with
 | some af => SR.guard (Nat.ble args.length af.n) ((sexecS call S af.n lf af.body m ⟨stinit args 0, H, []⟩).bind fun (x, s, m') => match x with
  | .normal => (match s.D with | [] => (sresults s.T s.H af.res).bind fun _ => .ok (m', s.H) | _ => .no)
  | .ret => (match s.D with | [] => (sresults s.T s.H af.res).bind fun _ => .ok (m', s.H) | _ => .no)
  | _ => .no)
 | none => .no
def sleave (call : SCallF) (C : FuncId → Option AFunc) (S : SEnv) (lf : Nat) (T : STmps) (res : List ARes) : List (FuncId × List SVal) → Option SVal → SHeap → SR SRes
 | [], none, H => (sresults T H res).bind fun v => .ok (.ret v H)
 | [], some v, H => .ok (.pan v H)
 | (f, l) :: ds, m, H => (scallD call C S lf f l m H).bind fun (m', H') => sleave call C S lf T res ds m' H'
def scall (C : FuncId → Option AFunc) (X : FuncId → Bool) (ext : SCallF) (S : SEnv) (lf : Nat) : Nat → SCallF
 | 0, _, _, _ => .no
 | k + 1, f, args, H =>
  bif X f then ext f args H
  else match C f with
   | some af => SR.guard (Nat.ble args.length af.n) ((sexec (scall C X ext S lf k) S af.n lf af.body ⟨stinit args 0, H, []⟩).bind fun (x, s) => match x with
    | .normal => sleave (scall C X ext S lf k) C S lf s.T af.res s.D none s.H
    | .ret => sleave (scall C X ext S lf k) C S lf s.T af.res s.D none s.H
    | .panic v => sleave (scall C X ext S lf k) C S lf s.T af.res s.D (some v) s.H
    | .exit _ => .no)
   | none => .no
end Go.Sim
end
section
namespace Go.Sim
def instX (σ : Sig) : SX → AX
 | .normal => .normal
 | .exit i => .exit i
 | .ret => .ret
 | .panic v => .panic (v.inst σ)
def instC (σ : Sig) : SRes → CRes
 | .ret v H => .ret (v.inst σ) (instH σ H)
 | .pan v H => .pan (v.inst σ) (instH σ H)
def instD (σ : Sig) (D : List (FuncId × List SVal)) : List (FuncId × List AVal) := D.map fun x => (x.1, instL σ x.2)
def instS (σ : Sig) (s : SSt) : St := ⟨instT σ s.T, instH σ s.H, instD σ s.D⟩
def instRow (σ : Sig) (r : SDRow) : DRow := ⟨r.val.inst σ, instT σ r.T, instH σ r.H⟩
def instRun (σ : Sig) : SDRun → DRun
 | .done l T H => .done (l.map (instRow σ)) (instT σ T) (instH σ H)
 | .pan l T H k v H' => .pan (l.map (instRow σ)) (instT σ T) (instH σ H) k (v.inst σ) (instH σ H')
def instDR (σ : Sig) : SDRes → DRes
 | .val v H => .val (v.inst σ) (instH σ H)
 | .pan v H => .pan (v.inst σ) (instH σ H)
def CallSub (σ : Sig) (sc : SCallF) (call : CallF) : Prop := ∀ f l H r, sc f l H = .ok r → call f (instL σ l) (instH σ H) = some (instC σ r)
theorem beqP_ok {a b : Option (Nat × Nat)} (h : beqP a b = true) : a = b := by
 unfold beqP at h
 split at h
 ·rfl
 ·simp only [Bool.and_eq_true] at h
  rw [Nat.eq_of_beq_eq_true h.1, Nat.eq_of_beq_eq_true h.2]
 ·cases h
theorem beqO_ok {a b : Option Nat} (h : beqO a b = true) : a = b := by
 unfold beqO at h
 split at h
 ·rfl
 ·rw [Nat.eq_of_beq_eq_true h]
 ·cases h
theorem sbeqL_ok {σ : Sig} {f : SVal → SVal → Bool} {g : AVal → AVal → Bool} (hf : ∀ a b, f a b = true → g (a.inst σ) (b.inst σ) = true) : ∀ {l m : List SVal}, sbeqL f l m = true → beqL g (instL σ l) (instL σ m) = true
 | [], [], _ => rfl
 | [], _ :: _, h => by simp [sbeqL] at h
 | _ :: _, [], h => by simp [sbeqL] at h
 | a :: l, b :: m, h => by
  simp only [sbeqL, Bool.and_eq_true] at h
  simp only [instL, beqL, Bool.and_eq_true]
  exact ⟨hf _ _ h.1, sbeqL_ok hf h.2⟩
theorem sbeqR_ok {σ : Sig} {d : Nat} {f : SVal → SVal → Bool} {g : AVal → AVal → Bool} (hf : ∀ a b, f a b = true → g (a.inst σ) (b.inst σ) = true) (hg : 0 < d → ∀ k n, g (.int k n) (.int k n) = true) :
  ∀ {r s : SRope SVal}, sbeqR d f r s = true → beqR g (instR σ r) (instR σ s) = true := by
 intro r
 induction r with
 | lst l => intro s h; cases s <;> simp only [sbeqR, Bool.false_eq_true] at h; exact sbeqL_ok hf h
 | rep n a =>
  intro s h
  cases s <;> simp only [sbeqR, Bool.false_eq_true, Bool.and_eq_true] at h
  simp only [instR, beqR, Bool.and_eq_true, beq_iff_eq]
  exact ⟨Nat.eq_of_beq_eq_true h.1, hf _ _ h.2⟩
 | app m l r ihl ihr =>
  intro s h
  cases s <;> simp only [sbeqR, Bool.false_eq_true, Bool.and_eq_true] at h
  simp only [instR, beqR, Bool.and_eq_true, beq_iff_eq]
  exact ⟨⟨Nat.eq_of_beq_eq_true h.1, ihl h.2.1⟩, ihr h.2.2⟩
 | arr n k a =>
  intro s h
  cases s <;> simp only [sbeqR, Bool.false_eq_true, Bool.and_eq_true] at h
  obtain ⟨h0, h1, h2, h3⟩ := h
  have e1 := Nat.eq_of_beq_eq_true h1; subst e1
  have e2 := of_decide_eq_true h2; subst e2
  have e3 := Ax.beq_sound _ _ h3; subst e3
  simp only [Nat.blt_eq] at h0
  simp only [instR, beqR]
  have : ∀ l : List Nat, beqL g (l.map fun (i : Nat) => AVal.int k (a.ev σ i)) (l.map fun (i : Nat) => AVal.int k (a.ev σ i)) = true := by
   intro l
   induction l with
   | nil => rfl
   | cons x l ih => simp only [List.map_cons, beqL, Bool.and_eq_true]; exact ⟨hg h0 _ _, ih⟩
  exact this _
theorem beqV_int (n : Nat) (h : 0 < n) (k : IntKind) (m : Int) : beqV n (.int k m) (.int k m) = true := by
 cases n with
 | zero => omega
 | succ n => simp [beqV]
theorem sbeqV_ok (σ : Sig) : ∀ (n : Nat) (a b : SVal), sbeqV n a b = true → beqV n (a.inst σ) (b.inst σ) = true
 | 0, _, _, h => by cases h
 | n + 1, a, b, h => by
  have ih := sbeqV_ok σ n
  unfold sbeqV at h
  split at h
  ·simpa [SVal.inst, beqV] using h
  ·simp only [Bool.and_eq_true, eqI_eq, decide_eq_true_eq] at h
   have := of_decide_eq_true h.1
   simp [SVal.inst, beqV, this, h.2]
  ·simp only [Bool.and_eq_true] at h
   have := of_decide_eq_true h.1
   simp [SVal.inst, beqV, this, Sx.beq_sound _ _ h.2]
  ·simp [SVal.inst, beqV, Sx.beq_sound _ _ h]
  ·simpa [SVal.inst, beqV] using h
  ·simp [SVal.inst, beqV, beqP_ok h]
  ·simp only [Bool.and_eq_true] at h
   obtain ⟨h1, h2, h3, h4⟩ := h
   simp [SVal.inst, beqV, Nat.eq_of_beq_eq_true h1, Nat.eq_of_beq_eq_true h2, Nat.eq_of_beq_eq_true h3, Sx.beq_sound _ _ h4]
  ·simp only [Bool.and_eq_true] at h
   obtain ⟨h1, h2, h3⟩ := h
   simp [SVal.inst, beqV, beqP_ok h1, Nat.eq_of_beq_eq_true h2, Nat.eq_of_beq_eq_true h3]
  ·simp [SVal.inst, beqV, Nat.eq_of_beq_eq_true h]
  ·simp [SVal.inst, beqV, Nat.eq_of_beq_eq_true h]
  ·simp [SVal.inst, beqV, beqO_ok h]
  ·simp only [Bool.and_eq_true, decide_eq_true_eq] at h
   obtain ⟨h1, h2, h3⟩ := h
   simp [SVal.inst, beqV, h1, sbeqL_ok ih h2, sbeqL_ok ih h3]
  ·simp [SVal.inst, beqV]
  ·simp only [Bool.and_eq_true] at h
   simp [SVal.inst, beqV, Nat.eq_of_beq_eq_true h.1, ih _ _ h.2]
  ·simp [SVal.inst, beqV]
  ·simp only [SVal.inst, beqV]
   exact sbeqR_ok ih (fun h0 k m => beqV_int n h0 k m) h
  ·simp only [SVal.inst, beqV]
   exact sbeqL_ok ih h
  ·cases h
theorem sscL_ok {σ : Sig} {f : SVal → Bool} {g : AVal → Bool} (hf : ∀ a, f a = true → g (a.inst σ) = true) : ∀ {l : List SVal}, sscL f l = true → scL g (instL σ l) = true
 | [], _ => rfl
 | a :: l, h => by
  simp only [sscL, Bool.and_eq_true] at h
  simp only [instL, scL, Bool.and_eq_true]
  exact ⟨hf _ h.1, sscL_ok hf h.2⟩
theorem sscR_ok {σ : Sig} {d : Nat} {f : SVal → Bool} {g : AVal → Bool} (hf : ∀ a, f a = true → g (a.inst σ) = true) (hg : 0 < d → ∀ k n, g (.int k n) = true) : ∀ {r : SRope SVal}, sscR d f r = true → scR g (instR σ r) = true := by
 intro r
 induction r with
 | lst l => intro h; exact sscL_ok hf h
 | rep n a => intro h; exact hf _ h
 | app m l r ihl ihr =>
  intro h
  simp only [sscR, Bool.and_eq_true] at h
  simp only [instR, scR, Bool.and_eq_true]
  exact ⟨ihl h.1, ihr h.2⟩
 | arr n k a =>
  intro h
  simp only [sscR, Nat.blt_eq] at h
  simp only [instR, scR]
  have : ∀ l : List Nat, scL g (l.map fun (i : Nat) => AVal.int k (a.ev σ i)) = true := by
   intro l
   induction l with
   | nil => rfl
   | cons x l ih => simp only [List.map_cons, scL, Bool.and_eq_true]; exact ⟨hg h _ _, ih⟩
  exact this _
theorem scV_int (m n : Nat) (h : 0 < n) (k : IntKind) (x : Int) : scV m n (.int k x) = true := by
 cases n with
 | zero => omega
 | succ n => simp [scV]
theorem sscV_ok {σ : Sig} {q : Nat} (hq : ∀ j i p, (σ.o j).1 = some (i, p) → i < q) (m : Nat) : ∀ (n : Nat) (a : SVal), sscV q m n a = true → scV m n (a.inst σ) = true
 | 0, _, h => by cases h
 | n + 1, a, h => by
  have ih := sscV_ok hq m n
  cases a with
  | ptr p => cases p with
   | none => simp [SVal.inst, scV]
   | some p => simpa [SVal.inst, scV, sscV, Nat.blt_eq] using h
  | pti i o s e => simpa [SVal.inst, scV, sscV, Nat.blt_eq] using h
  | slice p a b => cases p with
   | none => simp [SVal.inst, scV]
   | some p => simpa [SVal.inst, scV, sscV, Nat.blt_eq] using h
  | osl j =>
   have h := Nat.le_of_ble_eq_true h
   simp only [SVal.inst]
   cases e : (σ.o j).1 with
   | none => simp [scV]
   | some x =>
    obtain ⟨i, p⟩ := x
    have := hq j i p e
    simp only [scV, decide_eq_true_eq]; omega
  | mapv p => cases p with
   | none => simp [SVal.inst, scV]
   | some p => simpa [SVal.inst, scV, sscV, Nat.blt_eq] using h
  | func f a b =>
   simp only [sscV, Bool.and_eq_true] at h
   simp only [SVal.inst, scV, Bool.and_eq_true]
   exact ⟨sscL_ok ih h.1, sscL_ok ih h.2⟩
  | iface t a => exact ih _ h
  | agg r => simp only [SVal.inst, scV]; exact sscR_ok ih (fun h0 k x => scV_int m n h0 k x) h
  | tup l => simp only [SVal.inst, scV]; exact sscL_ok ih h
  | _ => simp [SVal.inst, scV]
theorem sscAll_ok {σ : Sig} {q : Nat} (hq : ∀ j i p, (σ.o j).1 = some (i, p) → i < q) (T : STmps) (m : Nat) : ∀ {l : List Nat}, sscAll q T m l = true → scAll (instT σ T) m l = true
 | [], _ => rfl
 | t :: l, h => by
  simp only [sscAll, Bool.and_eq_true] at h
  simp only [scAll, Bool.and_eq_true, tget_inst]
  exact ⟨sscV_ok hq m _ _ h.1, sscAll_ok hq T m h.2⟩
theorem stput_ok {σ : Sig} {n : Nat} {d : Option Nat} {v : SVal} {T T' : STmps} (h : stput n d v T = .ok T') : tput n d (v.inst σ) (instT σ T) = some (instT σ T') := by
 unfold stput at h
 split at h
 ·simp only [SR.ok.injEq] at h; subst h; rfl
 ·rename_i x
  cases e : Nat.blt x n with
  | false => simp [e] at h
  | true =>
   simp only [e, cond_true, SR.ok.injEq] at h; subst h
   simp only [tput]
   rw [if_pos (by simpa [Nat.blt_eq] using e)]
   exact congrArg some (Trie.set_map (SVal.inst σ) T x (some v))
section
variable {S : SEnv} {σ : Sig} (hV : S.V.fit σ) (hF : S.F.hold σ)
include hV hF
theorem swanted_ok {T : STmps} {g : Option (Nat × Bool)} {b : Bool} (h : swanted S T g = .ok b) : wantedA (instT σ T) g = some b := by
 unfold swanted at h
 split at h
 ·simp only [SR.ok.injEq] at h; subst h; rfl
 ·rename_i t c
  replace h := SR.bind_ok h; obtain ⟨v, hv, h⟩ := h
  have e := force_ok hV hF hv
  simp only [wantedA, tget_inst, ← e]
  split at h
  ·simp only [SR.ok.injEq] at h; subst h; rfl
  ·cases h
  ·cases h
  ·rename_i h1 h2 h3
   simp only [SR.ok.injEq] at h; subst h
   cases v <;> first | rfl | exact (h1 _ rfl).elim | exact (h2 rfl).elim | exact (h3 _ rfl).elim
theorem sdstep_ok {sc : SCallF} {call : CallF} (hc : CallSub σ sc call) {T : STmps} {H : SHeap} {it : AItem} {r : SDRes} (h : sdstep sc S T H it = .ok r) : dstep call S.E (instT σ T) (instH σ H) it = some (instDR σ r) := by
 unfold sdstep at h
 replace h := SR.bind_ok h; obtain ⟨w, hw, h⟩ := h
 simp only [dstep, swanted_ok hV hF hw]
 cases w with
 | true =>
  simp only [cond_true] at h
  replace h := SR.bind_ok h; obtain ⟨⟨o, H'⟩, ho, h⟩ := h
  simp only [sop_ok hV hF ho]
  simp only at h
  split at h
  ·simp only [SR.ok.injEq] at h; subst h; rfl
  ·rename_i f args
   replace h := SR.bind_ok h; obtain ⟨q, hq, h⟩ := h
   simp only [instO, hc _ _ _ _ hq]
   split at h <;> (simp only [SR.ok.injEq] at h; subst h; rfl)
  ·cases h
 | false =>
  simp only [cond_false, SR.ok.injEq] at h; subst h; rfl
omit hF in
theorem sachk_ok {d : DItem} {H H' : SHeap} (h : sachk S.V.o d H H' = true) : achk d (instH σ H) (instH σ H') = true := by
 unfold sachk at h
 unfold achk
 cases hd : d.cls with
 | A =>
  simp only [hd] at h
  split at h
  ·rename_i c g w hb
   have := hget_inst (σ := σ) hb
   have e : (instH σ H).next = H.next := rfl
   rw [e, this]
   exact sscR_ok (sscV_ok hV.2.2 _ _) (fun h0 k x => scV_int _ _ h0 k x) h
  ·cases h
 | W =>
  simp only [hd] at h
  exact h
 | P => rfl
 | R => rfl
omit hF in
theorem swchk_ok {d : DItem} {T : STmps} {H : SHeap} (h : swchk S.V.o d T H = true) : wchk d (instT σ T) (instH σ H) = true := by
 unfold swchk at h
 unfold wchk
 cases hd : d.cls with
 | W =>
  simp only [hd] at h
  exact sscAll_ok hV.2.2 T _ h
 | _ => rfl
theorem sdrun_ok {sc : SCallF} {call : CallF} (hc : CallSub σ sc call) {n : Nat} : ∀ {l : List DItem} {k : Nat} {acc : List SDRow} {T : STmps} {H : SHeap} {r : SDRun},
  sdrun sc S n l k acc T H = .ok r → drun call S.E n l k (acc.map (instRow σ)) (instT σ T) (instH σ H) = some (instRun σ r)
 | [], k, acc, T, H, r, h => by
  simp only [sdrun, SR.ok.injEq] at h; subst h
  simp [drun, instRun]
 | d :: l, k, acc, T, H, r, h => by
  simp only [sdrun] at h
  replace h := SR.guard_ok h; obtain ⟨hw, h⟩ := h
  replace h := SR.bind_ok h; obtain ⟨q, hq, h⟩ := h
  simp only [drun, swchk_ok hV hw, sdstep_ok hV hF hc hq]
  split at h
  ·rename_i v H'
   replace h := SR.guard_ok h; obtain ⟨ha, h⟩ := h
   replace h := SR.bind_ok h; obtain ⟨T', hT, h⟩ := h
   simp only [instDR, sachk_ok hV ha, stput_ok (σ := σ) hT]
   exact sdrun_ok hc h
  ·simp only [SR.ok.injEq] at h; subst h
   simp [instDR, instRun]
theorem sddry_ok {n p : Nat} : ∀ {l : List DItem} {acc : List SDRow} {T : STmps} {H : SHeap} {r : List SDRow},
  sddry S n p l acc T H = .ok r → ddry S.E n p l (acc.map (instRow σ)) (instT σ T) (instH σ H) = some (r.map (instRow σ))
 | [], acc, T, H, r, h => by
  simp only [sddry, SR.ok.injEq] at h; subst h
  simp [ddry]
 | d :: l, acc, T, H, r, h => by
  simp only [sddry] at h
  simp only [ddry]
  cases e : d.pre.testBit p with
  | true =>
   simp only [e, cond_true] at h
   rw [if_pos rfl]
   exact sddry_ok (acc := ⟨SVal.undef, T, H⟩ :: acc) h
  | false =>
   simp only [e, cond_false] at h
   rw [if_neg (by simp)]
   split at h
   ·cases h
   ·rename_i hcls
    replace h := SR.bind_ok h; obtain ⟨q, hq, h⟩ := h
    have hs := sdstep_ok (call := fun _ _ _ => none) hV hF (by intro f l H r h; cases h) hq
    split at h
    ·rename_i v H'
     replace h := SR.guard_ok h; obtain ⟨ha, h⟩ := h
     replace h := SR.bind_ok h; obtain ⟨T', hT, h⟩ := h
     have := sddry_ok (acc := ⟨v, T, H⟩ :: acc) h
     cases hd : d.cls with
     | W => exact absurd hd hcls
     | _ => simp only [hs, instDR, sachk_ok hV ha, stput_ok (σ := σ) hT]; exact this
    ·cases h
theorem src1_ok {Hs : List SHeap} {d : DItem} {r : SDRow} {most k : Nat} (h : src1 S Hs d r most k = .ok ()) :
  (if k ≤ most then
   match (Hs.map (instH σ))[k]? with
   | some H => (match wantedA (instRow σ r).T d.it.guard with
    | some true => match aop S.E (instRow σ r).T H d.it.op with
     | some (.val v, _) => beqV depth v (instRow σ r).val
     | _ => false
    | _ => true)
   | none => false
  else true) = true := by
 unfold src1 at h
 cases e : Nat.ble k most with
 | false => rw [if_neg (ble_false e)]
 | true =>
  simp only [e, cond_true] at h
  rw [if_pos (Nat.le_of_ble_eq_true e)]
  split at h
  ·rename_i H hH
   simp only [List.getElem?_map, hH, Option.map_some]
   replace h := SR.bind_ok h; obtain ⟨w, hw, h⟩ := h
   have hw := swanted_ok (σ := σ) hV hF hw
   simp only [instRow, hw]
   cases w with
   | false => rfl
   | true =>
    simp only [cond_true] at h
    replace h := SR.bind_ok h; obtain ⟨⟨o, H'⟩, ho, h⟩ := h
    simp only [sop_ok hV hF ho]
    simp only at h
    split at h
    ·replace h := SR.guard_ok h
     exact sbeqV_ok σ _ _ _ h.1
    ·cases h
  ·cases h
theorem srcheck_ok {Hs : List SHeap} {d : DItem} {r : SDRow} {most : Nat} : ∀ {l : List Nat}, srcheck S Hs d r most l = .ok () → rcheck S.E (Hs.map (instH σ)) d (instRow σ r) most l = true
 | [], _ => rfl
 | k :: l, h => by
  simp only [srcheck] at h
  replace h := SR.bind_ok h; obtain ⟨u, hu, h⟩ := h
  simp only [rcheck, Bool.and_eq_true]
  exact ⟨src1_ok hV hF hu, srcheck_ok h⟩
theorem srchecks_ok {Hs : List SHeap} {most : Nat} {skip : DItem → Bool} : ∀ {l : List DItem} {m : List SDRow}, srchecks S Hs most skip l m = .ok () → rchecks S.E (Hs.map (instH σ)) most skip l (m.map (instRow σ)) = true
 | [], _, _ => by simp [rchecks]
 | _ :: _, [], _ => by simp [rchecks]
 | d :: l, r :: m, h => by
  simp only [srchecks] at h
  replace h := SR.bind_ok h; obtain ⟨u, hu, h⟩ := h
  simp only [List.map_cons, rchecks, Bool.and_eq_true]
  refine ⟨?_, srchecks_ok h⟩
  unfold src2 at hu
  cases hd : d.cls with
  | R =>
   simp only [hd] at hu
   cases hs : skip d with
   | true => rfl
   | false =>
    simp only [hs, cond_false] at hu
    simp only [Bool.false_or]
    exact srcheck_ok hV hF hu
  | _ => rfl
omit hV hF in
theorem sjunk_ok : ∀ (l : List Nat) (T : STmps), junkAll l (instT σ T) = instT σ (sjunk l T)
 | [], T => rfl
 | t :: l, T => by
  have e : (instT σ T).set t (some .junk) = instT σ (T.set t (some .junk)) := Trie.set_map (SVal.inst σ) T t (some .junk)
  have := sjunk_ok l (T.set t (some .junk))
  simp only [junkAll, sjunk, List.foldl_cons] at this ⊢
  rw [e]; exact this
theorem sdreg_ok {sc : SCallF} {call : CallF} (hc : CallSub σ sc call) {n : Nat} {l : List DItem} {s s' : SSt} {x : SX} (h : sdreg sc S n l s = .ok (x, s')) : dreg call S.E n l (instS σ s) = some (instX σ x, instS σ s') := by
 unfold sdreg at h
 replace h := SR.bind_ok h; obtain ⟨r, hr, h⟩ := h
 have hr := sdrun_ok hV hF hc hr
 simp only [List.map_nil] at hr
 have hm : ∀ rows : List SDRow, (rows.map (instRow σ)).map (·.H) = (rows.map (·.H)).map (instH σ) := by
  intro rows; simp [instRow, Function.comp_def]
 have e1 : (instS σ s).T = instT σ s.T := rfl
 have e2 : (instS σ s).H = instH σ s.H := rfl
 simp only [dreg, e1, e2, hr]
 split at h
 ·rename_i rows T H _
  replace h := SR.bind_ok h; obtain ⟨u, hu, h⟩ := h
  simp only [SR.ok.injEq, Prod.mk.injEq] at h
  obtain ⟨rfl, rfl⟩ := h
  have := srchecks_ok (σ := σ) hV hF hu
  rw [List.map_append] at this
  simp only [instRun, hm, List.length_map]
  rw [show [instH σ H] = [H].map (instH σ) from rfl, this]
  rfl
 ·rename_i rows T0 H0 k v H _
  replace h := SR.bind_ok h; obtain ⟨more, hmo, h⟩ := h
  replace h := SR.bind_ok h; obtain ⟨u, hu, h⟩ := h
  simp only [SR.ok.injEq, Prod.mk.injEq] at h
  obtain ⟨rfl, rfl⟩ := h
  have h1 := sddry_ok (σ := σ) hV hF hmo
  simp only [List.map_nil] at h1
  have h2 := srchecks_ok (σ := σ) hV hF hu
  rw [List.map_append, List.map_append, List.map_cons] at h2
  simp only [instRun, hm, h1]
  have h3 : rchecks S.E ((rows.map (·.H)).map (instH σ) ++ [instH σ H0]) k (fun d => d.pre.testBit k) l (rows.map (instRow σ) ++ ⟨AVal.undef, instT σ T0, instH σ H0⟩ :: more.map (instRow σ)) = true := h2
  rw [h3]
  simp only [instS, sjunk_ok]
  rfl
end
end Go.Sim
end
section
namespace Go.Sim
section
variable {S : SEnv} {σ : Sig} (hV : S.V.fit σ) (hF : S.F.hold σ)
include hV hF
theorem sitems_ok {sc : SCallF} {call : CallF} (hc : CallSub σ sc call) {n : Nat} : ∀ {l : List AItem} {s s' : SSt} {x : SX}, sitems sc S n l s = .ok (x, s') → aitems call S.E n l (instS σ s) = some (instX σ x, instS σ s')
 | [], s, s', x, h => by
  simp only [sitems, SR.ok.injEq, Prod.mk.injEq] at h
  obtain ⟨rfl, rfl⟩ := h
  rfl
 | it :: l, s, s', x, h => by
  simp only [sitems] at h
  replace h := SR.bind_ok h; obtain ⟨w, hw, h⟩ := h
  have e1 : (instS σ s).T = instT σ s.T := rfl
  have e2 : (instS σ s).H = instH σ s.H := rfl
  simp only [aitems, e1, e2, swanted_ok (σ := σ) hV hF hw]
  cases w with
  | true =>
   simp only [cond_true] at h
   replace h := SR.bind_ok h; obtain ⟨⟨o, H⟩, ho, h⟩ := h
   simp only [sop_ok hV hF ho]
   simp only at h
   split at h
   ·replace h := SR.bind_ok h; obtain ⟨T, hT, h⟩ := h
    simp only [instO, stput_ok (σ := σ) hT]
    exact sitems_ok hc h
   ·replace h := SR.bind_ok h; obtain ⟨q, hq, h⟩ := h
    simp only [instO, hc _ _ _ _ hq]
    split at h
    ·replace h := SR.bind_ok h; obtain ⟨T, hT, h⟩ := h
     simp only [instC, stput_ok (σ := σ) hT]
     exact sitems_ok hc h
    ·simp only [SR.ok.injEq, Prod.mk.injEq] at h
     obtain ⟨rfl, rfl⟩ := h
     rfl
   ·simp only [SR.ok.injEq, Prod.mk.injEq] at h
    obtain ⟨rfl, rfl⟩ := h
    rfl
   ·replace h := SR.bind_ok h; obtain ⟨T, hT, h⟩ := h
    have hT := stput_ok (σ := σ) hT
    rw [inst_undef] at hT
    simp only [instO, hT]
    exact sitems_ok hc h
   ·cases h
  | false =>
   simp only [cond_false] at h
   replace h := SR.bind_ok h; obtain ⟨T, hT, h⟩ := h
   have hT := stput_ok (σ := σ) hT
   rw [inst_undef] at hT
   simp only [hT]
   exact sitems_ok hc h
omit hV hF in
theorem siter_ok {f : SSt → SR (SX × SSt)} {g : St → Option (AX × St)} (hf : ∀ s x s', f s = .ok (x, s') → g (instS σ s) = some (instX σ x, instS σ s')) : ∀ {k : Nat} {s s' : SSt} {x : SX}, siter f k s = .ok (x, s') → aiter g k (instS σ s) = some (instX σ x, instS σ s')
 | 0, _, _, _, h => by cases h
 | k + 1, s, s', x, h => by
  simp only [siter] at h
  replace h := SR.bind_ok h; obtain ⟨⟨y, t⟩, hy, h⟩ := h
  simp only [aiter, hf _ _ _ hy]
  cases y with
  | normal => exact siter_ok hf h
  | _ =>
   simp only [SR.ok.injEq, Prod.mk.injEq] at h
   obtain ⟨rfl, rfl⟩ := h
   rfl
theorem sexec_ok {sc : SCallF} {call : CallF} (hc : CallSub σ sc call) {n lf : Nat} : ∀ {c : ACode} {s s' : SSt} {x : SX}, sexec sc S n lf c s = .ok (x, s') → aexec call S.E n lf c (instS σ s) = some (instX σ x, instS σ s') := by
 intro c
 induction c with
 | skip =>
  intro s s' x h
  simp only [sexec, SR.ok.injEq, Prod.mk.injEq] at h
  obtain ⟨rfl, rfl⟩ := h; rfl
 | reg l => intro s s' x h; exact sitems_ok hV hF hc h
 | drg l => intro s s' x h; exact sdreg_ok hV hF hc h
 | seq a b iha ihb =>
  intro s s' x h
  simp only [sexec] at h
  replace h := SR.bind_ok h; obtain ⟨⟨y, t⟩, hy, h⟩ := h
  simp only [aexec, iha hy]
  cases y with
  | normal => exact ihb h
  | _ =>
   simp only [SR.ok.injEq, Prod.mk.injEq] at h
   obtain ⟨rfl, rfl⟩ := h; rfl
 | cond c a b iha ihb =>
  intro s s' x h
  simp only [sexec] at h
  replace h := SR.bind_ok h; obtain ⟨v, hv, h⟩ := h
  have e1 : (instS σ s).T = instT σ s.T := rfl
  simp only [aexec, e1, sev_ok hV hF hv]
  split at h
  ·exact iha h
  ·exact ihb h
  ·cases h
 | blk id a iha =>
  intro s s' x h
  simp only [sexec] at h
  replace h := SR.bind_ok h; obtain ⟨⟨y, t⟩, hy, h⟩ := h
  simp only [aexec, iha hy]
  cases y with
  | exit i =>
   simp only at h
   simp only [instX]
   cases e : Nat.beq i id with
   | true =>
    simp only [e, cond_true, SR.ok.injEq, Prod.mk.injEq] at h
    obtain ⟨rfl, rfl⟩ := h
    rw [if_pos (Nat.eq_of_beq_eq_true e)]
   | false =>
    simp only [e, cond_false, SR.ok.injEq, Prod.mk.injEq] at h
    obtain ⟨rfl, rfl⟩ := h
    rw [if_neg (Nat.ne_of_beq_eq_false e)]
  | _ =>
   simp only [SR.ok.injEq, Prod.mk.injEq] at h
   obtain ⟨rfl, rfl⟩ := h; rfl
 | loop a iha =>
  intro s s' x h
  exact siter_ok (fun s x s' h => iha h) h
 | exit id =>
  intro s s' x h
  simp only [sexec, SR.ok.injEq, Prod.mk.injEq] at h
  obtain ⟨rfl, rfl⟩ := h; rfl
 | ret =>
  intro s s' x h
  simp only [sexec, SR.ok.injEq, Prod.mk.injEq] at h
  obtain ⟨rfl, rfl⟩ := h; rfl
 | bad => intro s s' x h; cases h
omit hV hF in
theorem stinit_ok : ∀ (l : List SVal) (k : Nat), tinit (instL σ l) k = instT σ (stinit l k)
 | [], _ => rfl
 | v :: l, k => by
  simp only [instL, tinit, stinit, stinit_ok l (k + 1)]
  exact Trie.set_map (SVal.inst σ) _ k (some v)
omit hV hF in
theorem sres1_ok {T : STmps} {H : SHeap} {r : ARes} {v : SVal} (h : sres1 T H r = .ok v) : ares1 (instT σ T) (instH σ H) r = some (v.inst σ) := by
 unfold sres1 at h
 split at h
 ·simp only [SR.ok.injEq] at h; subst h
  simp only [ares1, tget_inst]
 ·split at h
  ·rename_i g n _ i o hp
   simp only [ares1, tget_inst, hp, SVal.inst]
   cases g with
   | true =>
    simp only [cond_true] at h
    have h := SR.of_ok h
    cases e : shloadN H i o n with
    | none => simp [e] at h
    | some c =>
     simp only [e, Option.map_some, Option.some.injEq] at h; subst h
     simp only [if_true, loadN_ok e, SVal.inst]
   | false =>
    simp only [cond_false] at h
    simp only [Bool.false_eq_true, if_false]
    exact load1_ok (SR.of_ok h)
  ·cases h
omit hV hF in
theorem sresL_ok {T : STmps} {H : SHeap} : ∀ {l : List ARes} {vs : List SVal}, sresL T H l = .ok vs → aresL (instT σ T) (instH σ H) l = some (instL σ vs)
 | [], vs, h => by simp only [sresL, SR.ok.injEq] at h; subst h; rfl
 | r :: l, vs, h => by
  simp only [sresL] at h
  replace h := SR.bind_ok h; obtain ⟨v, hv, h⟩ := h
  replace h := SR.bind_ok h; obtain ⟨us, hu, h⟩ := h
  simp only [SR.ok.injEq] at h; subst h
  simp only [aresL, sres1_ok hv, sresL_ok hu, instL]
omit hV hF in
theorem sresults_ok {T : STmps} {H : SHeap} {l : List ARes} {v : SVal} (h : sresults T H l = .ok v) : aresults (instT σ T) (instH σ H) l = some (v.inst σ) := by
 unfold sresults at h
 replace h := SR.bind_ok h; obtain ⟨vs, hvs, h⟩ := h
 simp only [aresults, sresL_ok (σ := σ) hvs]
 split at h
 ·simp only [SR.ok.injEq] at h; subst h; rfl
 ·rename_i h1
  simp only [SR.ok.injEq] at h; subst h
  match vs, h1 with
  | [], _ => rfl
  | [x], h1 => exact (h1 x rfl).elim
  | _ :: _ :: _, _ => rfl
theorem sitemsS_ok {sc : SCallF} {call : CallF} (hc : CallSub σ sc call) {n : Nat} : ∀ {l : List AItem} {m m' : Option SVal} {s s' : SSt} {x : SX}, sitemsS sc S n l m s = .ok (x, s', m') → aitemsS call S.E n l (m.map (SVal.inst σ)) (instS σ s) = some (instX σ x, instS σ s', m'.map (SVal.inst σ))
 | [], m, m', s, s', x, h => by
  simp only [sitemsS, SR.ok.injEq, Prod.mk.injEq] at h
  obtain ⟨rfl, rfl, rfl⟩ := h
  rfl
 | it :: l, m, m', s, s', x, h => by
  simp only [sitemsS] at h
  replace h := SR.bind_ok h; obtain ⟨w, hw, h⟩ := h
  have e1 : (instS σ s).T = instT σ s.T := rfl
  have e2 : (instS σ s).H = instH σ s.H := rfl
  simp only [aitemsS, e1, e2, swanted_ok (σ := σ) hV hF hw]
  cases w with
  | true =>
   simp only [cond_true] at h
   replace h := SR.bind_ok h; obtain ⟨⟨o, H⟩, ho, h⟩ := h
   simp only [sop_ok hV hF ho]
   simp only at h
   split at h
   ·replace h := SR.bind_ok h; obtain ⟨T, hT, h⟩ := h
    simp only [instO, stput_ok (σ := σ) hT]
    exact sitemsS_ok hc h
   ·replace h := SR.bind_ok h; obtain ⟨q, hq, h⟩ := h
    simp only [instO, hc _ _ _ _ hq]
    split at h
    ·replace h := SR.bind_ok h; obtain ⟨T, hT, h⟩ := h
     simp only [instC, stput_ok (σ := σ) hT]
     exact sitemsS_ok hc h
    ·simp only [SR.ok.injEq, Prod.mk.injEq] at h
     obtain ⟨rfl, rfl, rfl⟩ := h
     rfl
   ·simp only [SR.ok.injEq, Prod.mk.injEq] at h
    obtain ⟨rfl, rfl, rfl⟩ := h
    rfl
   ·replace h := SR.bind_ok h; obtain ⟨T, hT, h⟩ := h
    have hT := stput_ok (σ := σ) hT
    have e3 : (m.map (SVal.inst σ)).getD .nilIface = (m.getD .nilIface).inst σ := by cases m <;> rfl
    simp only [instO, e3, hT]
    exact sitemsS_ok (m := none) hc h
   ·cases h
  | false =>
   simp only [cond_false] at h
   replace h := SR.bind_ok h; obtain ⟨T, hT, h⟩ := h
   have hT := stput_ok (σ := σ) hT
   rw [inst_undef] at hT
   simp only [hT]
   exact sitemsS_ok hc h
theorem sexecS_ok {sc : SCallF} {call : CallF} (hc : CallSub σ sc call) {n lf : Nat} : ∀ {c : ACode} {m m' : Option SVal} {s s' : SSt} {x : SX}, sexecS sc S n lf c m s = .ok (x, s', m') → aexecS call S.E n lf c (m.map (SVal.inst σ)) (instS σ s) = some (instX σ x, instS σ s', m'.map (SVal.inst σ)) := by
 have lift : ∀ {c : ACode} {m m' : Option SVal} {s s' : SSt} {x : SX}, ((sexec sc S n lf c s).bind fun (x, s') => SR.ok (x, s', m)) = .ok (x, s', m') → (match aexec call S.E n lf c (instS σ s) with | some (x, s') => some (x, s', m.map (SVal.inst σ)) | none => none) = some (instX σ x, instS σ s', m'.map (SVal.inst σ)) := by
  intro c m m' s s' x h
  replace h := SR.bind_ok h; obtain ⟨⟨y, t⟩, hy, h⟩ := h
  simp only [SR.ok.injEq, Prod.mk.injEq] at h
  obtain ⟨rfl, rfl, rfl⟩ := h
  simp only [sexec_ok hV hF hc hy]
 intro c
 induction c with
 | seq a b iha ihb =>
  intro m m' s s' x h
  simp only [sexecS] at h
  replace h := SR.bind_ok h; obtain ⟨⟨y, t, u⟩, hy, h⟩ := h
  simp only [aexecS, iha hy]
  cases y with
  | normal => exact ihb h
  | _ =>
   simp only [SR.ok.injEq, Prod.mk.injEq] at h
   obtain ⟨rfl, rfl, rfl⟩ := h; rfl
 | cond c a b iha ihb =>
  intro m m' s s' x h
  simp only [sexecS] at h
  replace h := SR.bind_ok h; obtain ⟨v, hv, h⟩ := h
  have e1 : (instS σ s).T = instT σ s.T := rfl
  simp only [aexecS, e1, sev_ok hV hF hv]
  split at h
  ·exact iha h
  ·exact ihb h
  ·cases h
 | reg l => intro m m' s s' x h; exact sitemsS_ok hV hF hc h
 | skip =>
  intro m m' s s' x h
  simp only [sexecS, SR.ok.injEq, Prod.mk.injEq] at h
  obtain ⟨rfl, rfl, rfl⟩ := h; rfl
 | drg l => intro m m' s s' x h; exact lift h
 | blk id a iha => intro m m' s s' x h; exact lift h
 | loop a iha => intro m m' s s' x h; exact lift h
 | exit id =>
  intro m m' s s' x h
  simp only [sexecS, SR.ok.injEq, Prod.mk.injEq] at h
  obtain ⟨rfl, rfl, rfl⟩ := h; rfl
 | ret =>
  intro m m' s s' x h
  simp only [sexecS, SR.ok.injEq, Prod.mk.injEq] at h
  obtain ⟨rfl, rfl, rfl⟩ := h; rfl
 | bad => intro m m' s s' x h; cases h
theorem scallD_ok {sc : SCallF} {call : CallF} (hc : CallSub σ sc call) {C : FuncId → Option AFunc} {lf : Nat} {f : FuncId} {args : List SVal} {m m' : Option SVal} {H H' : SHeap} (h : scallD sc C S lf f args m H = .ok (m', H')) :
  acallD call C S.E lf f (instL σ args) (m.map (SVal.inst σ)) (instH σ H) = some (m'.map (SVal.inst σ), instH σ H') := by
 unfold scallD at h
 split at h
 ·rename_i af haf
  replace h := SR.guard_ok h; obtain ⟨hg, h⟩ := h
  replace h := SR.bind_ok h; obtain ⟨⟨y, t, u⟩, hy, h⟩ := h
  have h1 := sexecS_ok hV hF hc hy
  have e : instS σ ⟨stinit args 0, H, []⟩ = ⟨tinit (instL σ args) 0, instH σ H, []⟩ := by simp [instS, stinit_ok, instD]
  rw [e] at h1
  have hlen : (instL σ args).length = args.length := by simp [instL_map]
  simp only [acallD, haf, hlen]
  rw [if_pos (Nat.le_of_ble_eq_true hg), h1]
  have fin : (match t.D with | [] => (sresults t.T t.H af.res).bind fun _ => SR.ok (u, t.H) | _ => SR.no) = .ok (m', H') → (match (instS σ t).D, aresults (instS σ t).T (instS σ t).H af.res with | [], some _ => some (u.map (SVal.inst σ), (instS σ t).H) | _, _ => none) = some (m'.map (SVal.inst σ), instH σ H') := by
   intro h
   split at h
   ·rename_i hD
    replace h := SR.bind_ok h; obtain ⟨v, hv, h⟩ := h
    simp only [SR.ok.injEq, Prod.mk.injEq] at h
    obtain ⟨rfl, rfl⟩ := h
    have hv := sresults_ok (σ := σ) hv
    simp only [instS, hD, instD, List.map_nil, hv]
   ·cases h
  cases y with
  | normal => exact fin h
  | ret => exact fin h
  | _ => cases h
 ·cases h
theorem sleave_ok {sc : SCallF} {call : CallF} (hc : CallSub σ sc call) {C : FuncId → Option AFunc} {lf : Nat} {T : STmps} {res : List ARes} : ∀ {D : List (FuncId × List SVal)} {m : Option SVal} {H : SHeap} {r : SRes},
  sleave sc C S lf T res D m H = .ok r → aleave call C S.E lf (instT σ T) res (instD σ D) (m.map (SVal.inst σ)) (instH σ H) = some (instC σ r)
 | [], none, H, r, h => by
  simp only [sleave] at h
  replace h := SR.bind_ok h; obtain ⟨v, hv, h⟩ := h
  simp only [SR.ok.injEq] at h; subst h
  simp only [instD, List.map_nil, Option.map_none, aleave, sresults_ok (σ := σ) hv]; rfl
 | [], some v, H, r, h => by
  simp only [sleave, SR.ok.injEq] at h; subst h
  rfl
 | (f, l) :: ds, m, H, r, h => by
  simp only [sleave] at h
  replace h := SR.bind_ok h; obtain ⟨⟨m', H'⟩, hd, h⟩ := h
  have := scallD_ok hV hF hc hd
  have ih := sleave_ok hc h
  simp only [instD, List.map_cons, aleave, this]
  exact ih
theorem scall_ok {C : FuncId → Option AFunc} {X : FuncId → Bool} {sext : SCallF} {ext : CallF} (hx : ∀ f, X f = false → ∀ l H, ext f l H = none) (he : CallSub σ sext ext) {lf : Nat} : ∀ k, CallSub σ (scall C X sext S lf k) (acall C ext S.E lf k)
 | 0 => by intro f l H r h; cases h
 | k + 1 => by
  intro f l H r h
  have ih := scall_ok hx he (C := C) (lf := lf) k
  simp only [scall] at h
  cases e : X f with
  | true =>
   simp only [e, cond_true] at h
   simp only [acall, he _ _ _ _ h]
  | false =>
   simp only [e, cond_false] at h
   simp only [acall, hx f e]
   split at h
   ·rename_i af haf
    replace h := SR.guard_ok h; obtain ⟨hg, h⟩ := h
    replace h := SR.bind_ok h; obtain ⟨⟨y, t⟩, hy, h⟩ := h
    have h1 := sexec_ok hV hF ih hy
    have e : instS σ ⟨stinit l 0, H, []⟩ = ⟨tinit (instL σ l) 0, instH σ H, []⟩ := by simp [instS, stinit_ok, instD]
    rw [e] at h1
    have hlen : (instL σ l).length = l.length := by simp [instL_map]
    simp only [haf, hlen]
    rw [if_pos (Nat.le_of_ble_eq_true hg), h1]
    cases y with
    | normal => exact sleave_ok hV hF ih (m := none) h
    | ret => exact sleave_ok hV hF ih (m := none) h
    | panic v => exact sleave_ok hV hF ih (m := some _) h
    | exit _ => cases h
   ·cases h
end
end Go.Sim
end
section
namespace Go.Sim
def addF (F : Facts) (c : Atom) (r : Bool) : Facts := F ++ [⟨c, r⟩]
def deadF (V : Vars) (F : Facts) (c : Atom) : Bool := deadR (rng V F c.a) || deadR (rng V F c.b)
def stree {α : Type} (run : Facts → SR α) (chk : Facts → α → Bool) (V : Vars) : Nat → Facts → Bool
 | 0, _ => false
 | n + 1, F => match run F with
  | .ok r => chk F r
  | .no => false
  | .need c => (deadF V (addF F c true) c || stree run chk V n (addF F c true)) && (deadF V (addF F c false) c || stree run chk V n (addF F c false))
theorem addF_hold {σ : Sig} {F : Facts} {c : Atom} (h : F.hold σ) : (addF F c (c.holds σ)).hold σ := by
 intro f hf
 rcases List.mem_append.1 hf with h1 | h1
 ·exact h f h1
 ·simp only [List.mem_singleton] at h1; subst h1; rfl
theorem deadF_sound {V : Vars} {F : Facts} {c : Atom} {σ : Sig} (hV : V.fit σ) (hF : F.hold σ) (h : deadF V F c = true) : False := by
 simp only [deadF, Bool.or_eq_true] at h
 rcases h with h | h
 ·exact deadR_sound h (rng_sound hV hF c.a)
 ·exact deadR_sound h (rng_sound hV hF c.b)
theorem stree_sound {α : Type} {run : Facts → SR α} {chk : Facts → α → Bool} {V : Vars} {σ : Sig} (hV : V.fit σ) : ∀ {n : Nat} {F : Facts}, stree run chk V n F = true → F.hold σ → ∃ F' r, F'.hold σ ∧ run F' = .ok r ∧ chk F' r = true
 | 0, _, h, _ => by cases h
 | n + 1, F, h, hF => by
  simp only [stree] at h
  split at h
  ·rename_i r hr
   exact ⟨F, r, hF, hr, h⟩
  ·cases h
  ·rename_i c hc
   simp only [Bool.and_eq_true, Bool.or_eq_true] at h
   have hh := addF_hold (c := c) hF
   cases e : c.holds σ with
   | true =>
    rw [e] at hh
    rcases h.1 with h1 | h1
    ·exact (deadF_sound hV hh h1).elim
    ·exact stree_sound hV h1 hh
   | false =>
    rw [e] at hh
    rcases h.2 with h1 | h1
    ·exact (deadF_sound hV hh h1).elim
    ·exact stree_sound hV h1 hh
end Go.Sim
end
section
namespace Go.Sim
def optP (a b : Option (Nat × Nat)) : Bool := match a, b with
 | none, none => true
 | some (i, o), some (j, p) => Nat.beq i j && Nat.beq o p
 | _, _ => false
theorem optP_sound {a b : Option (Nat × Nat)} (h : optP a b = true) : a = b := by
 unfold optP at h
 split at h
 ·rfl
 ·simp only [Bool.and_eq_true] at h; rw [Nat.eq_of_beq_eq_true h.1, Nat.eq_of_beq_eq_true h.2]
 ·cases h
def sveq : SVal → SVal → Bool
 | .bool a, .bool b => a == b
 | .int k n, .int k' n' => beqK k k' && eqI n n'
 | .sym k e, .sym k' e' => beqK k k' && e.beq e'
 | .sb e, .sb e' => e.beq e'
 | .ptr a, .ptr b => optP a b
 | .slice a n c, .slice b n' c' => optP a b && Nat.beq n n' && Nat.beq c c'
 | .osl i, .osl j => Nat.beq i j
 | .ovs i, .ovs j => Nat.beq i j
 | .iface t v, .iface t' v' => Nat.beq t t' && sveq v v'
 | .nilFunc, .nilFunc => true
 | .nilIface, .nilIface => true
 | _, _ => false
theorem beqK_sound {a b : IntKind} (h : beqK a b = true) : a = b := of_decide_eq_true h
theorem sveq_sound : ∀ {a b : SVal}, sveq a b = true → a = b
 | .bool a, b, h => by cases b <;> simp [sveq] at h; rw [h]
 | .int k n, b, h => by cases b <;> simp only [sveq, Bool.and_eq_true, Bool.false_eq_true] at h; rw [beqK_sound h.1]; have := h.2; rw [eqI_eq] at this; rw [of_decide_eq_true this]
 | .sym k e, b, h => by cases b <;> simp only [sveq, Bool.and_eq_true, Bool.false_eq_true] at h; rw [beqK_sound h.1, Sx.beq_sound _ _ h.2]
 | .sb e, b, h => by cases b <;> simp only [sveq, Bool.false_eq_true] at h; rw [Sx.beq_sound _ _ h]
 | .ptr p, b, h => by cases b <;> simp only [sveq, Bool.false_eq_true] at h; rw [optP_sound h]
 | .slice p n c, b, h => by cases b <;> simp only [sveq, Bool.and_eq_true, Bool.false_eq_true] at h; rw [optP_sound h.1.1, Nat.eq_of_beq_eq_true h.1.2, Nat.eq_of_beq_eq_true h.2]
 | .osl j, b, h => by cases b <;> simp only [sveq, Bool.false_eq_true] at h; rw [Nat.eq_of_beq_eq_true h]
 | .ovs j, b, h => by cases b <;> simp only [sveq, Bool.false_eq_true] at h; rw [Nat.eq_of_beq_eq_true h]
 | .iface t v, b, h => by
  cases b <;> simp only [sveq, Bool.and_eq_true, Bool.false_eq_true] at h
  rw [Nat.eq_of_beq_eq_true h.1, sveq_sound h.2]
 | .nilFunc, b, h => by cases b <;> simp [sveq] at h; rfl
 | .nilIface, b, h => by cases b <;> simp [sveq] at h; rfl
 | .str _, b, h => by cases b <;> simp [sveq] at h
 | .pti .., b, h => by cases b <;> simp [sveq] at h
 | .mapv _, b, h => by cases b <;> simp [sveq] at h
 | .func .., b, h => by cases b <;> simp [sveq] at h
 | .agg _, b, h => by cases b <;> simp [sveq] at h
 | .tup _, b, h => by cases b <;> simp [sveq] at h
 | .junk, b, h => by cases b <;> simp [sveq] at h
def sleq : List SVal → List SVal → Bool
 | [], [] => true
 | a :: l, b :: m => sveq a b && sleq l m
 | _, _ => false
theorem sleq_sound : ∀ {l m : List SVal}, sleq l m = true → l = m
 | [], [], _ => rfl
 | [], _ :: _, h => by cases h
 | _ :: _, [], h => by cases h
 | a :: l, b :: m, h => by
  simp only [sleq, Bool.and_eq_true] at h
  rw [sveq_sound h.1, sleq_sound h.2]
def sreq : SRope SVal → SRope SVal → Bool
 | .lst l, .lst m => sleq l m
 | .rep n a, .rep m b => Nat.beq n m && sveq a b
 | .app m a b, .app m' a' b' => Nat.beq m m' && sreq a a' && sreq b b'
 | .arr n k a, .arr n' k' a' => Nat.beq n n' && beqK k k' && a.beq a'
 | _, _ => false
theorem sreq_sound : ∀ {a b : SRope SVal}, sreq a b = true → a = b := by
 intro a
 induction a with
 | lst l => intro b h; cases b <;> simp only [sreq, Bool.false_eq_true] at h; rw [sleq_sound h]
 | rep n a => intro b h; cases b <;> simp only [sreq, Bool.and_eq_true, Bool.false_eq_true] at h; rw [Nat.eq_of_beq_eq_true h.1, sveq_sound h.2]
 | app m x y ihx ihy => intro b h; cases b <;> simp only [sreq, Bool.and_eq_true, Bool.false_eq_true] at h; rw [Nat.eq_of_beq_eq_true h.1.1, ihx h.1.2, ihy h.2]
 | arr n k a => intro b h; cases b <;> simp only [sreq, Bool.and_eq_true, Bool.false_eq_true] at h; rw [Nat.eq_of_beq_eq_true h.1.1, beqK_sound h.1.2, Ax.beq_sound _ _ h.2]
def SVal.num (k : IntKind) : SVal → Option Sx
 | .int k' n => bif beqK k k' then some (.lit n) else none
 | .sym k' e => bif beqK k k' then some e else none
 | _ => none
theorem num_inst {k : IntKind} {v : SVal} {e : Sx} (h : v.num k = some e) (σ : Sig) : v.inst σ = .int k (e.ev σ) := by
 cases v <;> simp only [SVal.num] at h
 case int k' n =>
  cases hk : beqK k k' with
  | false => simp [hk] at h
  | true => simp only [hk, cond_true, Option.some.injEq] at h; subst h; rw [← beqK_sound hk]; rfl
 case sym k' e' =>
  cases hk : beqK k k' with
  | false => simp [hk] at h
  | true => simp only [hk, cond_true, Option.some.injEq] at h; subst h; rw [← beqK_sound hk]; rfl
 all_goals cases h
def Sig.put (σ : Sig) (l : List (Nat × Int)) : Sig := ⟨fun j => match l.find? (fun p => Nat.beq p.1 j) with | some p => p.2 | none => σ.v j, σ.a, σ.o, σ.b, σ.u⟩
end Go.Sim
namespace Go.Sim
def freeN (ks : List Nat) (j : Nat) : Bool := !(ks.any fun k => Nat.beq k j)
mutual
def Sx.free (ks : List Nat) : Sx → Bool
 | .v j => freeN ks j
 | .lit _ => true
 | .bin _ _ a b => a.free ks && b.free ks
 | .un _ _ a => a.free ks
 | .cvt _ a => a.free ks
 | .mm _ a b => a.free ks && b.free ks
 | .sel a i => a.free ks && i.free ks
def Ax.free (ks : List Nat) : Ax → Bool
 | .v _ => true
 | .upd a i x => a.free ks && (i.free ks && x.free ks)
 | .shift a _ => a.free ks
end
theorem put_v {σ : Sig} {l : List (Nat × Int)} {j : Nat} (h : freeN (l.map Prod.fst) j = true) : (σ.put l).v j = σ.v j := by
 have : l.find? (fun p => Nat.beq p.1 j) = none := by
  rw [List.find?_eq_none]
  intro p hp
  simp only [freeN, Bool.not_eq_true', List.any_map, List.any_eq_false] at h
  exact h p hp
 simp only [Sig.put, this]
mutual
theorem ev_free {σ : Sig} {l : List (Nat × Int)} : ∀ e : Sx, e.free (l.map Prod.fst) = true → e.ev (σ.put l) = e.ev σ
 | .v j, h => put_v h
 | .lit _, _ => rfl
 | .bin _ _ a b, h => by simp only [Sx.free, Bool.and_eq_true] at h; simp only [Sx.ev, ev_free a h.1, ev_free b h.2]
 | .un _ _ a, h => by simp only [Sx.free] at h; simp only [Sx.ev, ev_free a h]
 | .cvt _ a, h => by simp only [Sx.free] at h; simp only [Sx.ev, ev_free a h]
 | .mm _ a b, h => by simp only [Sx.free, Bool.and_eq_true] at h; simp only [Sx.ev, ev_free a h.1, ev_free b h.2]
 | .sel a i, h => by simp only [Sx.free, Bool.and_eq_true] at h; simp only [Sx.ev, evA_free a h.1, ev_free i h.2]
theorem evA_free {σ : Sig} {l : List (Nat × Int)} : ∀ a : Ax, a.free (l.map Prod.fst) = true → a.ev (σ.put l) = a.ev σ
 | .v _, _ => rfl
 | .upd a i x, h => by
  simp only [Ax.free, Bool.and_eq_true] at h
  funext n
  simp only [Ax.ev, evA_free a h.1, ev_free i h.2.1, ev_free x h.2.2]
 | .shift a _, h => by
  simp only [Ax.free] at h
  funext n
  simp only [Ax.ev, evA_free a h]
end
theorem hold_put {σ : Sig} {l : List (Nat × Int)} {F : Facts} (h : F.hold σ) (hf : F.all (fun f => f.c.a.free (l.map Prod.fst) && f.c.b.free (l.map Prod.fst)) = true) : F.hold (σ.put l) := by
 intro f hm
 have := List.all_eq_true.1 hf f hm
 simp only [Bool.and_eq_true] at this
 rw [← h f hm]
 simp only [Atom.holds, ev_free _ this.1, ev_free _ this.2]
theorem fit_put {σ : Sig} {l : List (Nat × Int)} {V : Vars} (h : V.fit σ) (hl : ∀ p ∈ l, (rgAt V.v p.1).has p.2) : V.fit (σ.put l) := by
 refine ⟨fun j => ?_, h.2.1, h.2.2⟩
 simp only [Sig.put]
 cases e : l.find? (fun p => Nat.beq p.1 j) with
 | none => exact h.1 j
 | some p =>
  have h1 := List.find?_some e
  have h2 := List.mem_of_find?_eq_some e
  have : p.1 = j := Nat.eq_of_beq_eq_true h1
  subst this
  exact hl p h2
end Go.Sim
end
section
namespace Go.Sim
variable [RO]
def TR (ρ : Ren) (T : Tmps) (tmps : Array Value) : Prop := ∀ t, VR ρ (tget T t) (tmps.getD t Go.undef)
theorem TR.mono {ρ ρ' : Ren} (hl : ρ.le ρ') {T : Tmps} {tmps : Array Value} (h : TR ρ T tmps) : TR ρ' T tmps := fun t => (h t).mono hl
theorem TR.set {ρ : Ren} {T : Tmps} {tmps : Array Value} (h : TR ρ T tmps) {d : Nat} {x : AVal} {v : Value} (hd : d < tmps.size) (hv : VR ρ x v) :
  TR ρ (T.set d (some x)) (tmps.setIfInBounds d v) := by
 intro t
 unfold tget
 rw [Trie.get_set]
 by_cases e : d = t
 ·subst e; simp [Array.getD_eq_getD_getElem?, hd]; exact hv
 ·have := h t
  simp only [e, if_false, Array.getD_eq_getD_getElem?, Array.getElem?_setIfInBounds_ne e]
  simpa [tget, Array.getD_eq_getD_getElem?] using this
def LR (ρ : Ren) (l : List AVal) (l' : Array Value) : Prop := l'.size = l.length ∧ ∀ (i : Nat) x v, l[i]? = some x → l'[i]? = some v → VR ρ x v
theorem LR.mono {ρ ρ' : Ren} (hl : ρ.le ρ') {l : List AVal} {l' : Array Value} (h : LR ρ l l') : LR ρ' l l' := ⟨h.1, fun i x v h1 h2 => (h.2 i x v h1 h2).mono hl⟩
theorem LR.nil (ρ : Ren) : LR ρ [] #[] := ⟨rfl, by intro i x v h; simp at h⟩
theorem LR.append {ρ : Ren} {a b : List AVal} {a' b' : Array Value} (h : LR ρ a a') (h' : LR ρ b b') : LR ρ (a ++ b) (a' ++ b') := by
 refine ⟨by simp [h.1, h'.1], fun i x v h1 h2 => ?_⟩
 rw [List.getElem?_append] at h1
 rw [Array.getElem?_append] at h2
 rw [h.1] at h2
 split at h1
 ·rename_i hi; rw [if_pos hi] at h2; exact h.2 i x v h1 h2
 ·rename_i hi; rw [if_neg hi] at h2; exact h'.2 _ x v h1 h2
theorem LR.cons {ρ : Ren} {x : AVal} {v : Value} {b : List AVal} {b' : Array Value} (h : VR ρ x v) (h' : LR ρ b b') : LR ρ (x :: b) (#[v] ++ b') := by
 have : LR ρ [x] #[v] := ⟨rfl, fun i y u h1 h2 => by
  cases i with
  | zero => simp at h1 h2; subst h1 h2; exact h
  | succ i => simp at h1⟩
 exact this.append h'
section
variable {ρ : Ren} {T : Tmps} {a : Act}
theorem cval_sound {v : Value} {x : AVal} (h : cval v = some x) : VR ρ x v := by
 unfold cval at h
 split at h <;> first
  | (simp only [Option.some.injEq] at h; subst h; first | exact .bool _ | exact .int _ _ | exact .str _ | exact .ptrNil | exact .sliceNil | exact .mapNil | exact .nilFunc | exact .nilIface)
  | skip
 ·split at h
  ·rename_i fn p q hs
   simp only [Option.some.injEq] at h; subst h
   simp only [Bool.and_eq_true, decide_eq_true_eq] at hs
   exact .func hs.1 hs.2 (by intro i x v h; simp at h) (by intro i x v h; simp at h)
  ·cases h
 ·cases h
theorem aev_sound (ht : TR ρ T a.tmps) {x : Operand} {v : AVal} (h : aev T x = some v) : VR ρ v (a.eval x) := by
 cases x with
 | tmp t => simp only [aev, Option.some.injEq] at h; subst h; exact ht t
 | const c => exact cval_sound h
 | global g => cases h
 | func f =>
  simp only [aev, Option.some.injEq] at h; subst h
  exact .func rfl rfl (by intro i x v h; simp at h) (by intro i x v h; simp at h)
theorem aevs_sound (ht : TR ρ T a.tmps) : ∀ {l : List Operand} {vs : List AVal}, aevs T l = some vs → LR ρ vs (l.toArray.map a.eval)
 | [], vs, h => by simp only [aevs, Option.some.injEq] at h; subst h; simpa using LR.nil ρ
 | x :: l, vs, h => by
  simp only [aevs] at h
  split at h
  ·rename_i v hv
   split at h
   ·rename_i vs' hvs
    simp only [Option.some.injEq] at h; subst h
    have := (aevs_sound ht hvs).cons (aev_sound ht hv)
    simpa using this
   ·cases h
  ·cases h
theorem aevs_sound' (ht : TR ρ T a.tmps) {l : Array Operand} {vs : List AVal} (h : aevs T l.toList = some vs) : LR ρ vs (l.map a.eval) := by
 simpa using aevs_sound ht h
end
theorem VR.ptr_inv {ρ : Ren} {i o : Nat} {v : Value} (h : VR ρ (.ptr (some (i, o))) v) : ∃ l, ρ i = some l ∧ v = .pointer (some ⟨l.blk, l.off + o, none⟩) := by
 cases h with | ptr h => exact ⟨_, h, rfl⟩
theorem VR.int_inv {ρ : Ren} {k : IntKind} {n : Int} {v : Value} (h : VR ρ (.int k n) v) : v = .int k n := by cases h; rfl
theorem VR.bool_inv {ρ : Ren} {b : Bool} {v : Value} (h : VR ρ (.bool b) v) : v = .bool b := by cases h; rfl
theorem VR.agg_inv {ρ : Ren} {r : Rope AVal} {v : Value} (h : VR ρ (.agg r) v) : ∃ cs, v = .agg cs ∧ cs.size = r.size ∧ RR ρ r cs 0 := by
 cases h with | agg hs hg h => exact ⟨_, rfl, hs, RR.of_agg (.agg hs hg h)⟩
theorem VR.slice_inv {ρ : Ren} {i o n c : Nat} {v : Value} (h : VR ρ (.slice (some (i, o)) n c) v) : ∃ l, ρ i = some l ∧ v = .slice (some ⟨l.blk, l.off + o, none⟩) n (c + l.sp) := by
 cases h with | slice h => exact ⟨_, h, rfl⟩
theorem VR.es_inv {ρ : Ren} {v : Value} (h : VR ρ .es v) : ∃ a, v = .slice (some a) 0 0 := by cases h; exact ⟨_, rfl⟩
theorem VR.sliceN_inv {ρ : Ren} {n c : Nat} {v : Value} (h : VR ρ (.slice none n c) v) : n = 0 ∧ c = 0 ∧ v = .slice none 0 0 := by
 cases h; exact ⟨rfl, rfl, rfl⟩
theorem VR.iface_inv {ρ : Ren} {t : TypeId} {x : AVal} {v : Value} (h : VR ρ (.iface t x) v) : ∃ u, v = .iface t u ∧ VR ρ x u := by
 cases h with | iface _ h => exact ⟨_, rfl, h⟩
theorem VR.tup_inv {ρ : Ren} {l : List AVal} {v : Value} (h : VR ρ (.tup l) v) : ∃ l', v = .tuple l' ∧ LR ρ l l' := by
 cases h with | tup ha h => exact ⟨_, rfl, ha, h⟩
theorem VR.func_inv {ρ : Ren} {fn : Fn} {x y : List AVal} {v : Value} (h : VR ρ (.func fn x y) v) : ∃ x' y', v = .func fn x' y' ∧ LR ρ x x' ∧ LR ρ y y' := by
 cases h with | func ha hb h1 h2 => exact ⟨_, _, rfl, ⟨ha, h1⟩, ⟨hb, h2⟩⟩
theorem VR.mapS_inv {ρ : Ren} {i : Nat} {v : Value} (h : VR ρ (.mapv (some i)) v) : ∃ l, ρ i = some l ∧ v = .map (some l.blk) := by
 cases h with | map h => exact ⟨_, h, rfl⟩
theorem VR.mapN_inv {ρ : Ren} {v : Value} (h : VR ρ (.mapv none) v) : v = .map none := by cases h; rfl
theorem VR.tup2 {ρ : Ren} {x y : AVal} {u v : Value} (h : VR ρ x u) (h' : VR ρ y v) : VR ρ (.tup [x, y]) (.tuple #[u, v]) := by
 have := ((LR.nil ρ).cons h').cons h
 exact .tup this.1 this.2
def vsame : Value → Value → Option Bool
 | .int k a, .int k' b => if k = k' then some (a == b) else none
 | _, _ => none
def vrow (a b : Array Value) : Nat → Option Bool
 | 0 => some true
 | n + 1 => match vrow a b n with
  | some r => match a[n]?, b[n]? with
   | some x, some y => match vsame x y with
    | some s => some (r && s)
    | none => none
   | _, _ => none
  | none => none
structure EnvOK (P : Program) (E : EnvD) : Prop where
 zro : ∀ t z, E.zro t = some z → ∃ i v, P.info? t = some i ∧ i.zero = some v ∧ i.size = z.size ∧ v.cells.size = z.size ∧ (∀ ρ, RR ρ z v.cells 0) ∧
  (∀ x, isAggT P t = some false → z = .lst [x] → ∀ ρ, VR ρ x v) ∧ (isAggT P t = some true → ∃ cs, v = .agg cs)
 meth : ∀ t n f, E.meth t n = some f → E.isF f = true ∧ ∀ v w, (method (P.types.size + Made.depth) t v n).run P w = .ok (f, v) w
 eqt : ∀ t n, E.eqt t = some n → P.eqGuardType P.depth t = false ∧ ∀ xs ys b, xs.size = n → ys.size = n → vrow xs ys n = some b → ∀ w, (Op.equal t (.agg xs) (.agg ys)).run P w = .ok b w
 isF : ∀ f, E.isF f = true → ∃ fn, P.funcs[f]? = some fn ∧ fn.name ≠ "runtime.NumGoroutine" ∧ fn.body.isSome = true
def OutR (P : Program) (E : EnvD) (K : Nat → Prop) (ρ : Ren) (H : AHeap) (w : World) (s : Sem Next) (out : AOut) (H' : AHeap) : Prop :=
 match out with
 | .val x => ∃ ρ' v w', (s.run P w = .ok (.value v) w' ∨ (s.run P w = .ok .skip w' ∧ v = Go.undef)) ∧ VR ρ' x v ∧ Post K ρ w ρ' H' w'
 | .enter f l => ∃ l', s.run P w = .ok (.enter f l') w ∧ LR ρ l l' ∧ H' = H ∧ E.isF f = true
 | .panic x => ∃ v, s.run P w = .halt (.panic v) w ∧ VR ρ x v ∧ H' = H
 | .defer f l => ∃ cap da, s.run P w = .ok (.defer ⟨.fn (.func f) cap, da⟩) w ∧ LR ρ l (da ++ cap) ∧ H' = H ∧ E.isF f = true
 | .recov => s.run P w = .ok .recover w ∧ H' = H
section
variable {P : Program} {E : EnvD} {K : Nat → Prop} {ρ : Ren} {H H' : AHeap} {w : World} {s : Sem Next} {out : AOut}
def OutS (P : Program) (ρ : Ren) (H : AHeap) (w : World) (s : Sem Next) (out : AOut) (H' : AHeap) : Prop :=
 ∃ x v, out = .val x ∧ s.run P w = .ok (.value v) w ∧ VR ρ x v ∧ H' = H
theorem OutS.loud (hw : WR K ρ H w) (h : OutS P ρ H w s out H') : OutR P E K ρ H w s out H' := by
 obtain ⟨x, v, rfl, hr, hv, rfl⟩ := h
 exact ⟨ρ, v, w, .inl hr, hv, Post.refl hw⟩
theorem OutR.same {x : AVal} {v : Value} (_hw : WR K ρ H w) (hr : s.run P w = .ok (.value v) w) (hv : VR ρ x v) (he : ret x H = some (out, H')) : OutS P ρ H w s out H' := by
 simp only [ret, Option.some.injEq, Prod.mk.injEq] at he
 obtain ⟨rfl, rfl⟩ := he
 exact ⟨x, v, rfl, hr, hv, rfl⟩
theorem OutR.post {x : AVal} {v : Value} {H1 : AHeap} {ρ' : Ren} {w' : World} (hr : s.run P w = .ok (.value v) w') (hv : VR ρ' x v) (hp : Post K ρ w ρ' H1 w') (he : ret x H1 = some (out, H')) :
  OutR P E K ρ H w s out H' := by
 simp only [ret, Option.some.injEq, Prod.mk.injEq] at he
 obtain ⟨rfl, rfl⟩ := he
 exact ⟨ρ', v, w', .inl hr, hv, hp⟩
theorem OutR.skip {H1 : AHeap} {w' : World} (hr : s.run P w = .ok .skip w') (hp : Post K ρ w ρ H1 w') (he : ret AVal.undef H1 = some (out, H')) :
  OutR P E K ρ H w s out H' := by
 simp only [ret, Option.some.injEq, Prod.mk.injEq] at he
 obtain ⟨rfl, rfl⟩ := he
 exact ⟨ρ, _, w', .inr ⟨hr, rfl⟩, VR.undef ρ, hp⟩
end
theorem run_und {P : Program} {t : TypeId} {d : TypeDesc} (h : P.underlying t = some d) (w : World) : (underlying t).run P w = .ok d w := run_underlying h w
theorem run_size {P : Program} {t : TypeId} {n : Nat} (h : csize P t = some n) (w : World) : (sizeOf t).run P w = .ok n w := by
 unfold csize at h
 cases hi : P.info? t with
 | none => simp [hi] at h
 | some i => simp [hi] at h; subst h; simp [sizeOf, typeInfo, hi]
theorem run_info {P : Program} {t : TypeId} {i : TypeInfo} (h : P.info? t = some i) (w : World) : (typeInfo t).run P w = .ok i w := by
 simp [typeInfo, h]
theorem run_zero {P : Program} {t : TypeId} {i : TypeInfo} {v : Value} (h : P.info? t = some i) (hz : i.zero = some v) (w : World) : (zeroValue t).run P w = .ok v w := by
 simp [zeroValue, typeInfo, h, hz]
theorem run_agg {P : Program} {t : TypeId} {b : Bool} (h : isAggT P t = some b) (w : World) : (isAgg t).run P w = .ok b w := by
 unfold isAggT at h
 split at h
 ·rename_i hu; cases h; simp [isAgg, run_und hu]
 ·rename_i hu; cases h; simp [isAgg, run_und hu]
 ·rename_i d h1 h2 hu
  cases h
  simp only [isAgg, Sem.run_bind, run_und hu, Result.andThen_ok]
  cases d <;> first | rfl | exact absurd rfl (h1 _) | exact absurd rfl (h2 _ _)
 ·cases h
theorem WR.cell {K : Nat → Prop} {ρ : Ren} {H : AHeap} {w : World} (h : WR K ρ H w) {i o : Nat} {x : AVal} (hx : hload1 H i o = some x) {l : Loc} (hl : ρ i = some l) :
  ∃ v, w.cell? ⟨l.blk, l.off + o, none⟩ = some v ∧ VR ρ x v := by
 unfold hload1 at hx
 split at hx
 ·rename_i r g wr hb
  obtain ⟨c, t, fr, h1, h2, h3, h4, h5, _⟩ := h.row hb hl
  obtain ⟨a, v, ha, _, hc, hv⟩ := h4 o (Rope.get_lt hx)
  rw [hx] at ha; cases ha
  exact ⟨v, by rw [cell_of_row w _ _ c t fr h1]; exact hc, hv⟩
 ·cases hx
theorem WR.loadN {K : Nat → Prop} {ρ : Ren} {H : AHeap} {w : World} (h : WR K ρ H w) {i o n : Nat} {c : Rope AVal} (hx : hloadN H i o n = some c) {l : Loc} (hl : ρ i = some l) (P : Program) :
  ∃ cs, (loadCells ⟨l.blk, l.off + o, none⟩ n).run P w = .ok cs w ∧ cs.size = n ∧ c.size = n ∧ RR ρ c cs 0 := by
 unfold hloadN at hx
 split at hx
 ·rename_i r g wr hb
  split at hx
  ·rename_i hn
   simp only [Option.some.injEq] at hx; subst hx
   obtain ⟨c, t, fr, h1, h2, h3, h4, h5, _⟩ := h.row hb hl
   obtain ⟨e1, e2⟩ := h4.ext o n hn
   have hcell : ∀ j, j < n → w.cell? ((⟨l.blk, l.off + o, none⟩ : Addr).add j) = some (c.getD (l.off + o + j) Go.undef) := by
    intro j hj
    have hadd : (⟨l.blk, l.off + o, none⟩ : Addr).add j = ⟨l.blk, l.off + o + j, none⟩ := by unfold Addr.add; split <;> simp_all
    have : l.off + o + j < c.size := by omega
    rw [hadd, cell_of_row w _ _ c t fr h1]
    simp [Array.getD_eq_getD_getElem?, this]
   have hr := run_loadCells (P := P) w ⟨l.blk, l.off + o, none⟩ n (fun j => c.getD (l.off + o + j) Go.undef) hcell
   refine ⟨_, hr, by simp, e1, fun j hj => ?_⟩
   rw [e1] at hj
   obtain ⟨x, v, x1, x2, x3, x4⟩ := e2 j (by omega)
   refine ⟨x, v, x1, x2, ?_, x4⟩
   have : l.off + o + j < c.size := by omega
   simp [hj, Array.getD_eq_getD_getElem?] at x3 ⊢
   rw [x3]; rfl
  ·cases hx
 ·cases hx
end Go.Sim
end
