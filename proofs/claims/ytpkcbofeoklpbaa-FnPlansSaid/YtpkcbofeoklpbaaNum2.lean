/- The numbers of the law's second half. -/
import Derived.Test.YtpkcbofeoklpbaaNum
namespace Go.Proofs.Ytpkcbofeoklpbaa
open Go.RowKit Fl

theorem leastR_pos {n : Nat} {M : Rat} {lw : Nat → Nat} {L : Nat → Rat} (hp : Pcs n lw L) (m0 : 1 / 2 ≤ M) (m4 : M ≤ 4) (i : Nat) (hi : i ≤ n) : (i : Rat) / 16 ≤ leastR L M i := by
  induction i with
  | zero => have e : ((0 : Nat) : Rat) = 0 := rfl
            rw [e, show leastR L M 0 = 0 from rfl]; grind
  | succ i ih =>
    have := ih (by omega)
    have l0 := hp.lo i (by omega)
    have ei : ((i + 1 : Nat) : Rat) = (i : Rat) + 1 := by simp
    rw [ei, show leastR L M (i + 1) = leastR L M i + L i / M from rfl]
    have hM0 : M ≠ 0 := by grind
    have hi0 : 0 < M⁻¹ := Rat.inv_pos.2 (by grind)
    have hi2 : 1 / 4 ≤ M⁻¹ := by
      have hji : M * M⁻¹ = 1 := Rat.mul_inv_cancel _ hM0
      have := Rat.mul_le_mul_of_nonneg_right m4 (Rat.le_of_lt hi0)
      grind
    have w := Rat.mul_le_mul_of_nonneg_right l0 (Rat.le_of_lt hi0)
    rw [Rat.div_def (L i)]
    grind

theorem time_near {n : Nat} {m : Nat} {M : Rat} {V lw : Nat → Nat} {v L : Nat → Rat} (h : Spd n M V v) (hp : Pcs n lw L) (hm : S m M) (m0 : 1 / 2 ≤ M) (m4 : M ≤ 4) (hn : 2 ≤ n) (hn7 : n ≤ 7) :
    (FloatKind.f32.format.order (sumW V lw n) 0 == some .lt || FloatKind.f32.format.order (sumW V lw n) 0 == some .eq) = false ∧
    floatToFloatBits .f32 (sumW V lw n) .f64 = some (up (sumW V lw n)) ∧ floatBits .sub .f64 (leastW lw m n) dMilli = some (dsub (leastW lw m n) dMilli) ∧
    (FloatKind.f64.format.order (up (sumW V lw n)) (dsub (leastW lw m n) dMilli) == some .lt) = false := by
  obtain ⟨_, s, hs, s0, s1, s2⟩ := sum_near h hp m0 m4 hn hn7 n (Nat.le_refl n)
  obtain ⟨_, q, hq, q1, q2, q3, q4⟩ := least_near hp hm m0 m4 hn7 n (Nat.le_refl n)
  have hl := leastR_pos hp m0 m4 n (Nat.le_refl n)
  have hE := E_pos
  have hnr : (n : Rat) ≤ 7 := by
    have : ((n : Nat) : Rat) ≤ ((7 : Nat) : Rat) := by exact_mod_cast hn7
    exact this
  have hn2 : 2 ≤ (n : Rat) := by
    have : ((2 : Nat) : Rat) ≤ ((n : Nat) : Rat) := by exact_mod_cast hn
    exact this
  have hEi := Rat.mul_le_mul_of_nonneg_left hnr (Rat.le_of_lt hE)
  have hEi0 := Rat.mul_nonneg (Rat.le_of_lt hE) (by grind : 0 ≤ (n : Rat))
  have hE7 : E * 7 ≤ 1 / 1000000 := by rw [E_val]; decide +kernel
  have e500 : E * (500 * (n : Rat)) = 500 * (E * n) := by grind
  rw [e500] at s2
  generalize E * (n : Rat) = en at *
  generalize leastR L M n = l at *
  generalize (n : Rat) = nn at *
  have g := dsub_ok 100 hq d_milli (by grind) (by grind) (by grind)
  obtain ⟨z, hz, z1, z2⟩ := g.near
  obtain ⟨u1, u2⟩ := up_ok hs (by grind) (by grind)
  have hE100 : E * ((100 + 1) / 100000) ≤ 1 / 100000 := by rw [E_val]; decide +kernel
  have f1 : s ≤ 0 → False := by intro; grind
  refine ⟨?_, u1, g.ok, dlt_f u2 hz ?_⟩
  · have := leq_is hs s_zero
    rw [show FloatKind.f32.format = Ieee.single from rfl, this]
    simp only [decide_eq_false_iff_not]; intro hh; exact f1 hh
  · intro hh; grind
end Go.Proofs.Ytpkcbofeoklpbaa
