/- Numbers that are known in part. -/
import Derived.Test.YtdppeaciahdekaaGreatSimOp
namespace Go.Sim

theorem VR.part_inv {ρ : Ren} {k : IntKind} {m v : Nat} {lo hi : Int} {u : Value} (h : VR ρ (.part k m v lo hi) u) : ∃ n, u = .int k n ∧ lo ≤ n ∧ n ≤ hi ∧ (BitVec.ofInt k.bits n).toNat &&& m = v := by
  cases h with
  | part h1 h2 h3 => exact ⟨_, rfl, h1, h2, h3⟩

theorem ofInt_nat {b : Int} {k : Nat} (h0 : 0 ≤ b) (h1 : b.toNat < 2 ^ k) : (BitVec.ofInt k b).toNat = b.toNat := by
  have : b = ((b.toNat : Nat) : Int) := (Int.toNat_of_nonneg h0).symm
  rw [this]
  simp only [BitVec.ofInt_natCast, BitVec.toNat_ofNat, Int.toNat_natCast]
  exact Nat.mod_eq_of_lt h1

theorem ofInt_mod (n : Int) (k j : Nat) (hj : j ≤ k) : ((BitVec.ofInt k n).toNat % 2 ^ j : Nat) = (n % (2 ^ j : Int)).toNat := by
  rw [BitVec.toNat_ofInt]
  have hd : (2 ^ j : Int) ∣ (2 ^ k : Int) := by
    have := Int.natCast_dvd_natCast.2 (Nat.pow_dvd_pow 2 hj)
    simpa using this
  have h1 : 0 ≤ n % ((2 ^ k : Nat) : Int) := Int.emod_nonneg _ (by have : 0 < 2 ^ k := Nat.two_pow_pos k; omega)
  have h2 : n % ((2 ^ k : Nat) : Int) % (2 ^ j : Int) = n % (2 ^ j : Int) := by
    have : ((2 ^ k : Nat) : Int) = (2 ^ k : Int) := by simp
    rw [this]; exact Int.emod_emod_of_dvd n hd
  rw [← h2]
  have h3 : (n % ((2 ^ k : Nat) : Int)) = (((n % ((2 ^ k : Nat) : Int)).toNat : Nat) : Int) := (Int.toNat_of_nonneg h1).symm
  generalize (n % ((2 ^ k : Nat) : Int)).toNat = z at h3
  rw [h3]
  have : (2 ^ j : Int) = ((2 ^ j : Nat) : Int) := by simp
  rw [this, ← Int.natCast_emod, Int.toNat_natCast]

theorem wrap_max (k : IntKind) {z : Int} (h0 : 0 ≤ z) (h : z ≤ k.max) : k.wrap z = z := by
  cases k <;> simp only [IntKind.max, IntKind.bits, IntKind.signed] at h <;> simp only [IntKind.wrap, IntKind.bits, IntKind.signed] <;> simp at h ⊢ <;> omega

theorem ne_mask {k : IntKind} {n b : Int} {m v : Nat} (h3 : (BitVec.ofInt k.bits n).toNat &&& m = v) (h0 : 0 ≤ b) (h1 : b.toNat < 2 ^ k.bits) (h : ¬ b.toNat &&& m = v) : n ≠ b := by
  rintro rfl
  rw [ofInt_nat h0 h1] at h3
  exact h h3

theorem partBin_sound {ρ : Ren} {op : BinOp} {k : IntKind} {m v : Nat} {lo hi n b : Int} {r : AVal} (h1 : lo ≤ n) (h2 : n ≤ hi) (h3 : (BitVec.ofInt k.bits n).toNat &&& m = v) (h : partBin op k m v lo hi b = some r) :
    ∃ r', intBin op k n b = some r' ∧ (∀ u, VR ρ r' u → VR ρ r u) ∧ op ≠ .shl ∧ op ≠ .shr := by
  unfold partBin at h
  split at h
  · split at h
    · rename_i hc
      simp only [Bool.and_eq_true, decide_eq_true_eq, beq_iff_eq] at hc
      obtain ⟨⟨c1, c2⟩, c3⟩ := hc
      simp only [Option.some.injEq] at h
      subst h
      refine ⟨_, rfl, fun u hu => ?_, by simp, by simp⟩
      have e : (BitVec.ofInt k.bits n &&& BitVec.ofInt k.bits b).toNat = v &&& b.toNat := by
        rw [BitVec.toNat_and, ofInt_nat c1 c2, ← h3, Nat.and_assoc, Nat.and_comm m, c3]
      rw [e] at hu
      exact hu
    · split at h
      · rename_i hc
        simp only [Bool.and_eq_true, decide_eq_true_eq] at hc
        obtain ⟨⟨c1, c2⟩, c3⟩ := hc
        simp only [Option.some.injEq] at h
        subst h
        refine ⟨_, rfl, fun u hu => ?_, by simp, by simp⟩
        cases hu
        have e : (BitVec.ofInt k.bits n &&& BitVec.ofInt k.bits b).toNat = (BitVec.ofInt k.bits n).toNat &&& b.toNat := by
          rw [BitVec.toNat_and, ofInt_nat c1 c2]
        have hle : (BitVec.ofInt k.bits n &&& BitVec.ofInt k.bits b).toNat ≤ b.toNat := by rw [e]; exact Nat.and_le_right
        generalize (BitVec.ofInt k.bits n &&& BitVec.ofInt k.bits b).toNat = z at e hle
        have hw : k.wrap (z : Int) = z := wrap_max k (by omega) (by omega)
        rw [hw]
        refine .part (by omega) (by omega) ?_
        rw [ofInt_nat (by omega) (by simp only [Int.toNat_natCast]; omega)]
        simp only [Int.toNat_natCast]
        rw [e, ← h3, Nat.and_comm m, ← Nat.and_assoc, Nat.and_assoc _ b.toNat b.toNat, Nat.and_self, Nat.and_assoc, Nat.and_comm b.toNat m, Nat.and_assoc]
      · cases h
  · split at h
    · rename_i hc
      simp only [Bool.and_eq_true, decide_eq_true_eq, Bool.not_eq_true'] at hc
      obtain ⟨⟨c1, c2⟩, c3⟩ := hc
      simp only [Option.some.injEq] at h
      subst h
      refine ⟨_, rfl, fun u hu => ?_, by simp, by simp⟩
      cases hu
      have e : (BitVec.ofInt k.bits n ^^^ BitVec.ofInt k.bits b).toNat = (BitVec.ofInt k.bits n).toNat ^^^ b.toNat := by
        rw [BitVec.toNat_xor, ofInt_nat c1 c2]
      have hlt : (BitVec.ofInt k.bits n ^^^ BitVec.ofInt k.bits b).toNat < 2 ^ k.bits := BitVec.isLt _
      generalize (BitVec.ofInt k.bits n ^^^ BitVec.ofInt k.bits b).toNat = z at e hlt
      have hz : (z : Int) % (2 ^ k.bits : Int) = z := by
        refine Int.emod_eq_of_lt (by omega) ?_
        have : (2 ^ k.bits : Int) = ((2 ^ k.bits : Nat) : Int) := by simp
        rw [this]; exact Int.ofNat_lt.2 hlt
      have hw : k.wrap (z : Int) = z := by
        simp only [IntKind.wrap, c3, Bool.false_and, Bool.false_eq_true, if_false, hz]
      rw [hw]
      refine .part (by omega) ?_ ?_
      · have : (2 ^ k.bits : Int) = ((2 ^ k.bits : Nat) : Int) := by simp
        rw [this]; omega
      · rw [ofInt_nat (by omega) (by simpa using hlt)]
        simp only [Int.toNat_natCast]
        rw [e, ← h3, Nat.and_xor_distrib_right]
    · cases h
  · simp only at h
    split at h
    · rename_i hc
      simp only [Bool.and_eq_true, decide_eq_true_eq, beq_iff_eq] at hc
      obtain ⟨⟨c1, c2⟩, c3⟩ := hc
      generalize Nat.log2 b.toNat = j at h c1 c2 c3
      subst c1
      have hpos : (0 : Int) < 2 ^ j := Int.pow_pos (by omega)
      have hr : v &&& (2 ^ j - 1) = (n % (2 ^ j : Int)).toNat := by
        rw [← h3, Nat.and_assoc, Nat.and_comm m, c3, Nat.and_two_pow_sub_one_eq_mod, ofInt_mod n k.bits j c2]
      have hnn := Int.emod_nonneg n (b := (2 ^ j : Int)) (by omega)
      have hib : intBin .rem k n (2 ^ j : Int) = some (.int k (n.tmod (2 ^ j : Int))) := by
        simp only [intBin]; rw [if_neg (by omega)]
      refine ⟨_, hib, ?_, by simp, by simp⟩
      split at h
      · rename_i hlo
        simp only [Option.some.injEq] at h
        subst h
        rw [hr, Int.toNat_of_nonneg hnn, Int.tmod_eq_emod_of_nonneg (by omega)]
        exact fun u hu => hu
      · split at h
        · rename_i hlo hhi
          simp only [Option.some.injEq] at h
          subst h
          rw [hr]
          have : n.tmod (2 ^ j : Int) = if (n % (2 ^ j : Int)).toNat = 0 then 0 else (((n % (2 ^ j : Int)).toNat : Nat) : Int) - 2 ^ j := by
            rw [Int.tmod_eq_emod, Int.toNat_of_nonneg hnn]
            by_cases e : n % (2 ^ j : Int) = 0
            · have hd : (2 ^ j : Int) ∣ n := Int.dvd_of_emod_eq_zero e
              simp [e, hd]
            · have hd : ¬ (2 ^ j : Int) ∣ n := fun hd => e (Int.emod_eq_zero_of_dvd hd)
              have : ¬ (n % (2 ^ j : Int)).toNat = 0 := by omega
              rw [if_neg this, if_neg (by simp [hd]; omega)]
              omega
          rw [this]
          exact fun u hu => hu
        · cases h
    · cases h
  · split at h
    · rename_i hc
      simp only [Bool.or_eq_true, decide_eq_true_eq] at hc
      simp only [Option.some.injEq] at h
      subst h
      have hne : n ≠ b := by
        rcases hc with hc | hc
        · omega
        · simp only [Bool.and_eq_true, decide_eq_true_eq, Bool.not_eq_true', beq_eq_false_iff_ne] at hc
          exact ne_mask h3 hc.1.1 hc.1.2 hc.2
      exact ⟨.bool (n == b), rfl, by rw [show (n == b) = false by simpa using hne]; exact fun u hu => hu, by simp, by simp⟩
    · cases h
  · split at h
    · rename_i hc
      simp only [Bool.or_eq_true, decide_eq_true_eq] at hc
      simp only [Option.some.injEq] at h
      subst h
      have hne : n ≠ b := by
        rcases hc with hc | hc
        · omega
        · simp only [Bool.and_eq_true, decide_eq_true_eq, Bool.not_eq_true', beq_eq_false_iff_ne] at hc
          exact ne_mask h3 hc.1.1 hc.1.2 hc.2
      exact ⟨.bool (n != b), rfl, by rw [show (n != b) = true by simpa using hne]; exact fun u hu => hu, by simp, by simp⟩
    · cases h
  · refine ⟨.bool (decide (n < b)), rfl, ?_, by simp, by simp⟩
    split at h
    · simp only [Option.some.injEq] at h
      subst h
      rw [show decide (n < b) = true by simp; omega]; exact fun u hu => hu
    · split at h
      · simp only [Option.some.injEq] at h
        subst h
        rw [show decide (n < b) = false by simp; omega]; exact fun u hu => hu
      · cases h
  · refine ⟨.bool (decide (n ≤ b)), rfl, ?_, by simp, by simp⟩
    split at h
    · simp only [Option.some.injEq] at h
      subst h
      rw [show decide (n ≤ b) = true by simp; omega]; exact fun u hu => hu
    · split at h
      · simp only [Option.some.injEq] at h
        subst h
        rw [show decide (n ≤ b) = false by simp; omega]; exact fun u hu => hu
      · cases h
  · refine ⟨.bool (decide (n > b)), rfl, ?_, by simp, by simp⟩
    split at h
    · simp only [Option.some.injEq] at h
      subst h
      rw [show decide (n > b) = true by simp; omega]; exact fun u hu => hu
    · split at h
      · simp only [Option.some.injEq] at h
        subst h
        rw [show decide (n > b) = false by simp; omega]; exact fun u hu => hu
      · cases h
  · refine ⟨.bool (decide (n ≥ b)), rfl, ?_, by simp, by simp⟩
    split at h
    · simp only [Option.some.injEq] at h
      subst h
      rw [show decide (n ≥ b) = true by simp; omega]; exact fun u hu => hu
    · split at h
      · simp only [Option.some.injEq] at h
        subst h
        rw [show decide (n ≥ b) = false by simp; omega]; exact fun u hu => hu
      · cases h
  · cases h
end Go.Sim
