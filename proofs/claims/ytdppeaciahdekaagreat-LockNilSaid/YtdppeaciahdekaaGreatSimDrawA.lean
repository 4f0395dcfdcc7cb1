/- Lemmas for regions that draw their order: what an operation looks at, what it does not touch, which blocks a value speaks of. -/
import Derived.Test.YtdppeaciahdekaaGreatSimOpF
import Derived.Test.YtdppeaciahdekaaGreatSimExecDef
import Derived.Orders
set_option linter.unusedSimpArgs false
namespace Go.Sim

section congr
variable {T T' : Tmps} {E : EnvD} {H : AHeap}

theorem aev_congr {x : Operand} (h : ∀ t ∈ looksO x, tget T t = tget T' t) : aev T x = aev T' x := by
  cases x with
  | tmp t => simp only [aev]; rw [h t (by simp [looksO])]
  | _ => rfl

theorem aevs_congr : ∀ {l : List Operand}, (∀ t ∈ looksL l, tget T t = tget T' t) → aevs T l = aevs T' l
  | [], _ => rfl
  | x :: l, h => by
    simp only [looksL, List.flatMap_cons, List.mem_append] at h
    simp only [aevs]
    rw [aev_congr (fun t ht => h t (.inl ht)), aevs_congr (l := l) (fun t ht => h t (.inr ht))]

theorem fillA_congr : ∀ {l : List (Nat × Nat × Operand)} {z : Rope AVal}, (∀ t ∈ looksP l, tget T t = tget T' t) → fillA T z l = fillA T' z l
  | [], _, _ => rfl
  | (o, s, x) :: l, z, h => by
    simp only [looksP, List.flatMap_cons, List.mem_append] at h
    simp only [fillA]
    rw [aev_congr (fun t ht => h t (.inl ht))]
    split
    · split
      · split
        · exact fillA_congr (fun t ht => h t (.inr ht))
        · rfl
      · rfl
    · rfl

theorem abound_congr {x : Option Operand} {d : Nat} (h : ∀ t ∈ looksM x, tget T t = tget T' t) : abound T x d = abound T' x d := by
  cases x with
  | none => rfl
  | some x => simp only [abound]; rw [aev_congr h]

theorem aop_congr {ao : AOp} (h : ∀ t ∈ looks ao, tget T t = tget T' t) : aop E T H ao = aop E T' H ao := by
  cases ao <;> simp only [looks, List.mem_append, or_imp, forall_and] at h <;> simp only [aop] <;> first
    | rfl
    | rw [aev_congr h]
    | rw [aevs_congr h]
    | rw [fillA_congr h]
    | rw [aev_congr h.1.1, aev_congr h.1.2, aev_congr h.2]
    | rw [aev_congr h.1, aev_congr h.2]
    | rw [aevs_congr h.1, aevs_congr h.2]
    | rw [aev_congr h.1, aevs_congr h.2]
    | rw [aev_congr h.1.1, abound_congr h.1.2]; (simp only [abound_congr h.2])
    | (simp only [aev_congr h.1.1, abound_congr h.1.2, abound_congr h.2])
end congr

section quiet
variable {T : Tmps} {E : EnvD} {H H' : AHeap} {out : AOut}

/-- What touches no memory. -/
theorem quiet_any {ao : AOp} (hq : quietOp ao = true) (h : aop E T H ao = some (out, H')) : H' = H ∧ (∃ v, out = .val v) ∧ ∀ H1, aop E T H1 ao = some (out, H1) := by
  cases ao <;> simp only [quietOp, Bool.false_eq_true] at hq <;> simp only [aop, ret] at h ⊢
  case mnx isMax x y =>
    split at h
    · rename_i k a k' b hx hy
      split at h
      · rename_i hk
        simp only [Option.some.injEq, Prod.mk.injEq] at h
        obtain ⟨rfl, rfl⟩ := h
        exact ⟨rfl, ⟨_, rfl⟩, fun H1 => by simp only [hx, hy, hk, if_true]⟩
      · cases h
    · cases h
  all_goals
    (repeat' split at h) <;> first
      | (cases h; done)
      | (simp only [Option.some.injEq, Prod.mk.injEq] at h
         obtain ⟨rfl, rfl⟩ := h
         refine ⟨rfl, ⟨_, rfl⟩, fun H1 => ?_⟩
         simp_all)

/-- What reads does not ask which block is next. -/
theorem read_next {ao : AOp} (hq : readOp ao = true) (h : aop E T H ao = some (out, H')) : H' = H ∧ (∃ v, out = .val v) ∧ ∀ m, aop E T ⟨m, H.tree⟩ ao = some (out, ⟨m, H.tree⟩) := by
  have hg : ∀ m i, AHeap.get ⟨m, H.tree⟩ i = H.get i := fun _ _ => rfl
  cases ao <;> simp only [readOp, Bool.false_eq_true] at hq
  case ldc x =>
    simp only [aop, ret] at h ⊢
    split at h
    · rename_i i o hx
      split at h
      · rename_i v hv
        simp only [Option.some.injEq, Prod.mk.injEq] at h
        obtain ⟨rfl, rfl⟩ := h
        refine ⟨rfl, ⟨_, rfl⟩, fun m => ?_⟩
        have : hload1 ⟨m, H.tree⟩ i o = some v := hv
        simp only [this]
      · cases h
    · cases h
  case ldr n x =>
    simp only [aop, ret] at h ⊢
    split at h
    · rename_i i o hx
      split at h
      · rename_i v hv
        simp only [Option.some.injEq, Prod.mk.injEq] at h
        obtain ⟨rfl, rfl⟩ := h
        refine ⟨rfl, ⟨_, rfl⟩, fun m => ?_⟩
        have : hloadN ⟨m, H.tree⟩ i o n = some v := hv
        simp only [this]
      · cases h
    · cases h
  case lkp k z ok x i =>
    simp only [aop, ret] at h ⊢
    split at h
    · rename_i b v hx hi
      split at h
      · rename_i q hq
        have hf : ∀ m, hfind ⟨m, H.tree⟩ k q b = hfind H k q b := fun _ => rfl
        split at h <;> first
          | (cases h; done)
          | (rename_i hv
             simp only [Option.some.injEq, Prod.mk.injEq] at h
             obtain ⟨rfl, rfl⟩ := h
             refine ⟨rfl, ⟨_, rfl⟩, fun m => ?_⟩
             simp only [hx, hi, hq, hf, hv])
      · cases h
    · cases h
  case sls s x lo hi =>
    simp only [aop, ret] at h ⊢
    split at h
    · rename_i p n c hx
      split at h
      · rename_i hh h1
        split at h
        · rename_i l h2
          split at h
          · rename_i hb
            split at h
            · simp only [Option.some.injEq, Prod.mk.injEq] at h
              obtain ⟨rfl, rfl⟩ := h
              refine ⟨rfl, ⟨_, rfl⟩, fun m => ?_⟩
              simp only [hx, h1, h2, hb, if_true]
            · rename_i i o
              split at h
              · rename_i r g w hget
                have fin : ∀ (r : Option (AOut × AHeap)), (if l < c then some (AOut.val (.slice (some (i, o + l * s)) (hh - l) (c - l)), H) else if g = 0 then some (AOut.val (.slice (some (i, o)) (hh - l) (c - l)), H) else if l = 0 then some (AOut.val (.slice (some (i, o)) (hh - l) (c - l)), H) else none) = some (out, H') →
                    H' = H ∧ (∃ v, out = .val v) ∧ ∀ m, (if l < c then some (AOut.val (.slice (some (i, o + l * s)) (hh - l) (c - l)), (⟨m, H.tree⟩ : AHeap)) else if g = 0 then some (AOut.val (.slice (some (i, o)) (hh - l) (c - l)), ⟨m, H.tree⟩) else if l = 0 then some (AOut.val (.slice (some (i, o)) (hh - l) (c - l)), ⟨m, H.tree⟩) else none) = some (out, ⟨m, H.tree⟩) := by
                  intro _ h
                  by_cases c1 : l < c
                  · rw [if_pos c1] at h
                    simp only [Option.some.injEq, Prod.mk.injEq] at h
                    obtain ⟨rfl, rfl⟩ := h
                    exact ⟨rfl, ⟨_, rfl⟩, fun m => by rw [if_pos c1]⟩
                  · rw [if_neg c1] at h
                    by_cases c2 : g = 0
                    · rw [if_pos c2] at h
                      simp only [Option.some.injEq, Prod.mk.injEq] at h
                      obtain ⟨rfl, rfl⟩ := h
                      exact ⟨rfl, ⟨_, rfl⟩, fun m => by rw [if_neg c1, if_pos c2]⟩
                    · rw [if_neg c2] at h
                      by_cases c3 : l = 0
                      · rw [if_pos c3] at h
                        simp only [Option.some.injEq, Prod.mk.injEq] at h
                        obtain ⟨rfl, rfl⟩ := h
                        exact ⟨rfl, ⟨_, rfl⟩, fun m => by rw [if_neg c1, if_neg c2, if_pos c3]⟩
                      · rw [if_neg c3] at h; cases h
                obtain ⟨f1, f2, f3⟩ := fin none h
                refine ⟨f1, f2, fun m => ?_⟩
                have hg' : AHeap.get ⟨m, H.tree⟩ i = some (.cells r g w) := hget
                simp only [hx, h1, h2, hb, if_true, hg']
                exact f3 m
              · cases h
          · cases h
        · cases h
      · cases h
    · cases h
  case sla n s x lo hi =>
    simp only [aop, ret] at h ⊢
    split at h
    · rename_i i o hx
      split at h
      · rename_i r w hget
        split at h
        · rename_i hh h1
          split at h
          · rename_i l h2
            split at h
            · rename_i hb
              simp only [Option.some.injEq, Prod.mk.injEq] at h
              obtain ⟨rfl, rfl⟩ := h
              refine ⟨rfl, ⟨_, rfl⟩, fun m => ?_⟩
              simp only [hx, hg, hget, h1, h2, hb, if_true]
            · cases h
          · cases h
        · cases h
      · cases h
    · cases h
end quiet

/-- A value that speaks of blocks below 'm' alone. -/
theorem scL_sound {ρ ρ' : Ren} {f : AVal → Bool} (hf : ∀ v x, f v = true → VR ρ v x → VR ρ' v x) : ∀ {l : List AVal}, scL f l = true → ∀ (i : Nat) x v, l[i]? = some x → VR ρ x v → VR ρ' x v
  | [], _, i, x, v, hx, _ => by simp at hx
  | a :: l, h, i, x, v, hx, hv => by
    simp only [scL, Bool.and_eq_true] at h
    cases i with
    | zero => simp at hx; subst hx; exact hf _ _ h.1 hv
    | succ i => exact scL_sound hf h.2 i x v (by simpa using hx) hv

theorem scR_sound {ρ ρ' : Ren} {f : AVal → Bool} (hf : ∀ v x, f v = true → VR ρ v x → VR ρ' v x) : ∀ {r : Rope AVal}, scR f r = true → ∀ (i : Nat) x v, r.get i = some x → VR ρ x v → VR ρ' x v
  | .lst l, h, i, x, v, hx, hv => scL_sound hf (l := l) h i x v hx hv
  | .rep n a, h, i, x, v, hx, hv => by
    simp only [Rope.get] at hx
    split at hx
    · cases hx; exact hf _ _ h hv
    · cases hx
  | .app m l r, h, i, x, v, hx, hv => by
    simp only [scR, Bool.and_eq_true] at h
    simp only [Rope.get] at hx
    split at hx
    · exact scR_sound hf h.1 _ x v hx hv
    · exact scR_sound hf h.2 _ x v hx hv

theorem scV_sound {ρ ρ' : Ren} {m : Nat} (hm : ∀ i l, i < m → ρ i = some l → ρ' i = some l) : ∀ (n : Nat) (v : AVal) (x : Value), scV m n v = true → VR ρ v x → VR ρ' v x
  | 0, v, x, h, _ => by cases h
  | n + 1, v, x, h, hv => by
    have ih := scV_sound hm n
    cases hv with
    | bool b => exact .bool b
    | int k i => exact .int k i
    | str s => exact .str s
    | ptrNil => exact .ptrNil
    | ptr hl => simp only [scV, decide_eq_true_eq] at h; exact .ptr (hm _ _ h hl)
    | sliceNil => exact .sliceNil
    | slice hl => simp only [scV, decide_eq_true_eq] at h; exact .slice (hm _ _ h hl)
    | mapNil => exact .mapNil
    | map hl => simp only [scV, decide_eq_true_eq] at h; exact .map (hm _ _ h hl)
    | func ha hb h1 h2 =>
      simp only [scV, Bool.and_eq_true] at h
      exact .func ha hb (fun i y u e1 e2 => scL_sound ih h.1 i y u e1 (h1 i y u e1 e2)) (fun i y u e1 e2 => scL_sound ih h.2 i y u e1 (h2 i y u e1 e2))
    | nilFunc => exact .nilFunc
    | iface t hx => exact .iface t (ih _ _ h hx)
    | nilIface => exact .nilIface
    | agg hs hg h1 =>
      exact .agg hs hg fun i y u e1 e2 => scR_sound ih h i y u e1 (h1 i y u e1 e2)
    | tup ha h1 =>
      exact .tup ha fun i y u e1 e2 => scL_sound ih h i y u e1 (h1 i y u e1 e2)
    | part h1 h2 h3 => exact .part h1 h2 h3
    | junk u => exact .junk _

theorem beqL_sound {f : AVal → AVal → Bool} (hf : ∀ a b, f a b = true → a = b) : ∀ {l m : List AVal}, beqL f l m = true → l = m
  | [], [], _ => rfl
  | [], _ :: _, h => by cases h
  | _ :: _, [], h => by cases h
  | a :: l, b :: m, h => by
    simp only [beqL, Bool.and_eq_true] at h
    rw [hf _ _ h.1, beqL_sound hf h.2]

theorem beqR_sound {f : AVal → AVal → Bool} (hf : ∀ a b, f a b = true → a = b) : ∀ {r s : Rope AVal}, beqR f r s = true → r = s := by
  intro r
  induction r with
  | lst l => intro s h; cases s <;> simp only [beqR, Bool.false_eq_true] at h; rw [beqL_sound hf h]
  | rep n a => intro s h; cases s <;> simp only [beqR, Bool.false_eq_true, Bool.and_eq_true, beq_iff_eq] at h; rw [h.1, hf _ _ h.2]
  | app m l r ihl ihr => intro s h; cases s <;> simp only [beqR, Bool.false_eq_true, Bool.and_eq_true, beq_iff_eq] at h; rw [h.1.1, ihl h.1.2, ihr h.2]

theorem beqV_sound : ∀ (n : Nat) (a b : AVal), beqV n a b = true → a = b
  | 0, _, _, h => by cases h
  | n + 1, a, b, h => by
    have ih := beqV_sound n
    cases a <;> cases b <;> simp only [beqV, Bool.false_eq_true, Bool.and_eq_true, beq_iff_eq, decide_eq_true_eq] at h <;> first
      | rfl
      | (rw [h]; done)
      | (rw [h.1, h.2]; done)
      | (rw [h.1.1, h.1.2, h.2]; done)
      | (rw [h.1.1.1.1, h.1.1.1.2, h.1.1.2, h.1.2, h.2]; done)
      | (rw [h.1.1, beqL_sound ih h.1.2, beqL_sound ih h.2]; done)
      | (rw [h.1, ih _ _ h.2]; done)
      | (rw [beqR_sound ih h]; done)
      | (rw [beqL_sound ih h]; done)
end Go.Sim
