/- JerkPlan at the level of words: its rise and its hold. -/
import Derived.Test.YtpkcbofeoklpbaaJerk
namespace Fl
open Go

/-- what is known of the rise R and the hold H before the way is looked at -/
structure Base (J K M R H : Rat) : Prop where
  r0 : 0 ≤ R
  r3 : R ≤ 29 / 10
  h0 : 0 ≤ H
  h8 : H ≤ 795 / 100
  jr : J * R ≤ K + 1 / 4000
  p1 : J * R * (R + H) ≤ M + 1 / 4000
  p2 : M - 1 / 4000 ≤ J * R * (R + H)

theorem E1000 : E * 10000 ≤ 1 / 1000 := E_small (by grind)

theorem sq_le {a b : Rat} (_ : 0 ≤ a) (h : a * a ≤ b * b) (hb : 0 ≤ b) : a ≤ b := by
  by_cases hc : a ≤ b
  · exact hc
  · exfalso
    have h1 : b < a := by grind
    have h2 := Rat.mul_le_mul_of_nonneg_right (Rat.le_of_lt h1) hb
    have h3 := Rat.mul_lt_mul_of_pos_left h1 (by grind : 0 < a)
    grind

/-- The rise is steep: it ends at the greatest speed. -/
theorem base1 {j m : Nat} {J K M : Rat} (hj : S j J) (hm : S m M) (j0 : 1 / 2 ≤ J) (j4 : J ≤ 4) (k0 : 1 / 2 ≤ K) (_ : K ≤ 4) (m0 : 1 / 2 ≤ M) (m4 : M ≤ 4)
    (hgt : M ≤ K * K / J + E * 200) :
    floatBits .quo .f32 m j = some (fdiv m j) ∧ ∃ q, S (fdiv m j) q ∧ 0 ≤ q ∧ q ≤ 9 ∧ ∃ R, S (froot (fdiv m j)) R ∧ Base J K M R 0 := by
  have hE := E_pos
  have hJ : 0 < J := by grind
  have hJ0 : J ≠ 0 := by grind
  have hji : J * J⁻¹ = 1 := Rat.mul_inv_cancel _ hJ0
  have hi0 : 0 < J⁻¹ := Rat.inv_pos.2 hJ
  have hi2 : J⁻¹ ≤ 2 := by
    have := Rat.mul_le_mul_of_nonneg_right j0 (Rat.le_of_lt hi0)
    grind
  have hq0 : 0 ≤ M / J := by rw [Rat.div_def]; exact Rat.mul_nonneg (by grind) (Rat.le_of_lt hi0)
  have hq8 : M / J ≤ 8 := by rw [Rat.div_def]; have := (mm (by grind : 0 ≤ M) m4 (Rat.le_of_lt hi0) hi2).2; grind
  have hd := fdiv_ok 8 hm hj hJ0 (by grind) hq8 (by grind)
  obtain ⟨q, hq, q1, q2⟩ := hd.near
  have hqn := fdiv_nonneg hm hj hJ (by grind) (by grind) hq
  have e1 := E_small (c := 3 * 8 + 1 / 1000) (B := 1 / 1000) (by grind)
  refine ⟨hd.ok, q, hq, hqn, by grind, ?_⟩
  obtain ⟨_, _, _, v, R, hR, v0, v1, v2, z1, z2⟩ := froot_ok hq hqn (by grind)
  -- v is near the root of M / J
  have hvv := Rat.mul_nonneg v0 v0
  have hEt : E ≤ 1 / 1000000 := by rw [E_val]; decide +kernel
  have b1 : v * v * E ≤ v * v * (1 / 1000000) := Rat.mul_le_mul_of_nonneg_left hEt hvv
  have hv9 : v * v ≤ 81 / 10 := by grind
  have hv3 : v ≤ 285 / 100 := sq_le v0 (by grind) (by grind)
  have b2 : v * v * E ≤ 81 / 10 * E := Rat.mul_le_mul_of_nonneg_right hv9 (Rat.le_of_lt hE)
  have b3 := Rat.mul_nonneg hvv (Rat.le_of_lt hE)
  have hvq : Nr (v * v) (M / J) 25 := by constructor <;> grind
  have hRv : Nr R v 6 := by
    have : E * v ≤ E * (285 / 100) := E_mul_le hv3
    constructor <;> grind
  have e6 := E_small (c := 6) (B := 1 / 1000000) (by grind)
  have R0 : 0 ≤ R := by
    -- the root of a number that is not negative
    have hv12 : 1 / 16 ≤ v * v := by
      have : 1 / 8 ≤ M / J := by
        rw [Rat.div_def]
        have hi4 : 1 / 4 ≤ J⁻¹ := by
          have := Rat.mul_le_mul_of_nonneg_right j4 (Rat.le_of_lt hi0)
          grind
        have := (mm (by grind : (0 : Rat) ≤ 1 / 2) m0 (by grind : (0 : Rat) ≤ 1 / 4) hi4).2
        grind
      have := E_small (c := 25) (B := 1 / 1000) (by grind)
      have := hvq.2
      grind
    have : 1 / 4 ≤ v := sq_le (by grind) (by grind) v0
    have := hRv.2
    grind
  have R3 : R ≤ 286 / 100 := by have := hRv.1; grind
  have hRR : Nr (R * R) (v * v) (286 / 100 * 6 + 285 / 100 * 6) := hRv.mul hRv R0 R3 v0 hv3 (by grind) (by grind)
  have hRq : Nr (R * R) (M / J) 60 := by
    obtain ⟨x1, x2⟩ := hRR
    obtain ⟨x3, x4⟩ := hvq
    constructor <;> grind
  have hMJ : J * (M / J) = M := by rw [Rat.div_def]; grind
  have hP : Nr (J * (R * R)) M (4 * 60 + 9 * 0) := by
    have := (Nr.refl J).mul hRq (by grind) j4 hq0 (by grind : M / J ≤ 9) (by grind) (by grind)
    rw [hMJ] at this; exact this
  have e240 := E_small (c := 4 * 60 + 9 * 0) (B := 1 / 40000) (by grind)
  have hPe : J * R * (R + 0) = J * (R * R) := by grind
  obtain ⟨p1, p2⟩ := hP
  refine ⟨R, hR, ⟨R0, by grind, Rat.le_refl, by grind, ?_, by rw [hPe]; grind, by rw [hPe]; grind⟩⟩
  -- J R is no greater than K, nearly
  apply sq_le (Rat.mul_nonneg (by grind) R0) _ (by grind)
  have t1 : J * M ≤ K * K + E * 800 := by
    have := Rat.mul_le_mul_of_nonneg_left hgt (by grind : 0 ≤ J)
    have e : J * (K * K / J) = K * K := by rw [Rat.div_def]; grind
    have t2 : J * (E * 200) ≤ 4 * (E * 200) := Rat.mul_le_mul_of_nonneg_right j4 (by grind)
    grind
  have t3 : J * (J * (R * R)) ≤ J * M + E * 1000 := by
    have := Rat.mul_le_mul_of_nonneg_left (by grind : J * (R * R) ≤ M + E * 240) (by grind : 0 ≤ J)
    have t2 : J * (E * 240) ≤ 4 * (E * 240) := Rat.mul_le_mul_of_nonneg_right j4 (by grind)
    grind
  have e1800 := E_small (c := 1800) (B := 1 / 5000) (by grind)
  have ek : (K + 1 / 4000) * (K + 1 / 4000) = K * K + K / 2000 + 1 / 16000000 := by grind
  have ej : J * R * (J * R) = J * (J * (R * R)) := by grind
  rw [ek, ej]
  grind

theorem rat_div_mul {a b : Rat} (hb : b ≠ 0) : a / b * b = a := by
  rw [Rat.div_def, Rat.mul_assoc, Rat.inv_mul_cancel _ hb, Rat.mul_one]

/-- The rise is not steep. The three numbers are halves. -/
theorem base2 {j k m : Nat} {J K M : Rat} {nj nk nm : Nat} (hj : S j J) (hk : S k K) (hm : S m M) (ej : 2 * J = nj) (ek : 2 * K = nk) (em : 2 * M = nm)
    (bj : 1 ≤ nj ∧ nj ≤ 8) (bk : 1 ≤ nk ∧ nk ≤ 8) (bm : 1 ≤ nm ∧ nm ≤ 8) (hle : K * K / J ≤ M + E * 200) :
    floatBits .quo .f32 k j = some (fdiv k j) ∧ floatBits .quo .f32 m k = some (fdiv m k) ∧ floatBits .sub .f32 (fdiv m k) (fdiv k j) = some (fsub (fdiv m k) (fdiv k j)) ∧
      ∃ R H, S (fdiv k j) R ∧ S (fsub (fdiv m k) (fdiv k j)) H ∧ Base J K M R H := by
  have hE := E_pos
  have cast (n : Nat) (h : 1 ≤ n ∧ n ≤ 8) : (1 : Rat) ≤ (n : Rat) ∧ (n : Rat) ≤ 8 := by
    constructor
    · exact_mod_cast h.1
    · exact_mod_cast h.2
  obtain ⟨j0, j4⟩ := cast nj bj
  obtain ⟨k0, k4⟩ := cast nk bk
  obtain ⟨m0, m4⟩ := cast nm bm
  have hJ : 0 < J := by grind
  have hK : 0 < K := by grind
  have hJ0 : J ≠ 0 := by grind
  have hK0 : K ≠ 0 := by grind
  have d1 := rat_div_mul (a := K) hJ0
  have d2 := rat_div_mul (a := M) hK0
  have d3 := rat_div_mul (a := K * K) hJ0
  -- whole numbers: the test is exact
  have hint : nk * nk ≤ nj * nm := by
    have h1 : K * K ≤ J * M + E * 800 := by
      have := Rat.mul_le_mul_of_nonneg_right hle (Rat.le_of_lt hJ)
      have t2 : (E * 200) * J ≤ (E * 200) * 4 := Rat.mul_le_mul_of_nonneg_left (by grind) (by grind)
      grind
    have h2 := E_small (c := 800) (B := 1 / 8) (by grind)
    have h3 : (nk : Rat) * nk < (nj : Rat) * nm + 1 := by rw [← ej, ← ek, ← em]; grind
    have h4 : ((nk * nk : Nat) : Rat) < ((nj * nm + 1 : Nat) : Rat) := by simpa using h3
    have : nk * nk < nj * nm + 1 := by exact_mod_cast h4
    omega
  have hqR : (nk : Rat) * nk ≤ (nj : Rat) * nm := by
    have : ((nk * nk : Nat) : Rat) ≤ ((nj * nm : Nat) : Rat) := by exact_mod_cast hint
    simpa using this
  have hKM : K * K ≤ J * M := by rw [← ej, ← ek, ← em] at hqR; grind
  have hi0 : 0 < J⁻¹ := Rat.inv_pos.2 hJ
  have ki0 : 0 < K⁻¹ := Rat.inv_pos.2 hK
  -- the quotients
  generalize hx : K / J = x at *
  generalize hy : M / K = y at *
  have x0 : 0 ≤ x := by rw [← hx, Rat.div_def]; exact Rat.mul_nonneg (by grind) (Rat.le_of_lt hi0)
  have y0 : 0 ≤ y := by rw [← hy, Rat.div_def]; exact Rat.mul_nonneg (by grind) (Rat.le_of_lt ki0)
  have y8 : y ≤ 8 := by
    have : y * K ≤ 8 * K := by grind
    by_cases hc : y ≤ 8
    · exact hc
    · exfalso
      have := Rat.mul_lt_mul_of_pos_right (by grind : 8 < y) hK
      grind
  -- x <= y
  have hxy : x ≤ y := by
    by_cases hc : x ≤ y
    · exact hc
    · exfalso
      have h1 := Rat.mul_lt_mul_of_pos_right (by grind : y < x) (Rat.mul_pos hJ hK)
      have e1 : x * (J * K) = K * K := by grind
      have e2 : y * (J * K) = J * M := by grind
      grind
  have x3 : x ≤ 285 / 100 := by
    apply sq_le x0 _ (by grind)
    -- x x = K K / (J J) <= M / J <= 8
    have e1 : x * x * J ≤ M := by
      have : x * x * J = x * K := by grind
      have h2 := Rat.mul_le_mul_of_nonneg_right hxy (Rat.le_of_lt hK)
      grind
    have h2 : x * x * (1 / 2) ≤ x * x * J := Rat.mul_le_mul_of_nonneg_left (by grind) (Rat.mul_nonneg x0 x0)
    grind
  have D1 := fdiv_ok 3 hk hj hJ0 (by rw [hx]; grind) (by rw [hx]; grind) (by grind)
  have D2 := fdiv_ok 8 hm hk hK0 (by rw [hy]; grind) (by rw [hy]; grind) (by grind)
  rw [hx] at D1; rw [hy] at D2
  obtain ⟨R, hR, r1, r2⟩ := D1.near
  obtain ⟨Y, hY, y1, y2⟩ := D2.near
  have hR' : S (fdiv k j) R := hR
  have hY' : S (fdiv m k) Y := hY
  have R0 := fdiv_nonneg hk hj hJ (by grind) (by rw [hx]; grind) hR'
  have e25 := E_small (c := 3 * 8 + 1 / 1000) (B := 1 / 100000) (by grind)
  have e10 := E_small (c := 3 * 3 + 1 / 1000) (B := 1 / 100000) (by grind)
  -- the hold is not negative
  have hRY : R ≤ Y := by
    by_cases heq : nk * nk = nj * nm
    · -- equal quotients: both are exact
      have hrep : nk * 2 = nj ∨ nk = nj ∨ nk = nj * 2 := by
        have : ∀ a b c : Fin 9, 1 ≤ a.val → 1 ≤ b.val → 1 ≤ c.val → b.val * b.val = a.val * c.val → b.val * 2 = a.val ∨ b.val = a.val ∨ b.val = a.val * 2 := by decide
        exact this ⟨nj, by omega⟩ ⟨nk, by omega⟩ ⟨nm, by omega⟩ bj.1 bk.1 bm.1 heq
      have hxr : x = 1 / 2 ∨ x = 1 ∨ x = 2 := by
        rcases hrep with h | h | h
        · left
          have : (nk : Rat) * 2 = (nj : Rat) := by exact_mod_cast h
          rw [← ej, ← ek] at this
          have : x * J = 1 / 2 * J := by grind
          grind
        · right; left
          have : (nk : Rat) = (nj : Rat) := by exact_mod_cast h
          rw [← ej, ← ek] at this
          have : x * J = 1 * J := by grind
          grind
        · right; right
          have : (nk : Rat) = (nj : Rat) * 2 := by exact_mod_cast h
          rw [← ej, ← ek] at this
          have : x * J = 2 * J := by grind
          grind
      have hyx : y = x := by
        have h1 : K * K = J * M := by
          have : (nk : Rat) * nk = (nj : Rat) * nm := by exact_mod_cast heq
          rw [← ej, ← ek, ← em] at this; grind
        have e1 : x * (J * K) = K * K := by grind
        have e2 : y * (J * K) = J * M := by grind
        have hJK : J * K ≠ 0 := by have := Rat.mul_pos hJ hK; grind
        grind
      have hrx : Rep Ieee.single x := by
        rcases hxr with h | h | h <;> rw [h]
        · exact rep_of_is s_half
        · exact rep_of_is s_one
        · exact rep_of_is s_two
      have X1 := (fdiv_ex hk hj hJ0 (by rw [hx]; grind) (by rw [hx]; grind) (by rw [hx]; exact hrx)).is
      have X2 := (fdiv_ex hm hk hK0 (by rw [hy]; grind) (by rw [hy]; grind) (by rw [hy, hyx]; exact hrx)).is
      rw [hx] at X1; rw [hy, hyx] at X2
      have u1 := Is.uniq hR X1
      have u2 := Is.uniq hY X2
      rw [u1, u2]; exact Rat.le_refl
    · have h1 : nk * nk + 1 ≤ nj * nm := by omega
      have h2 : (nk : Rat) * nk + 1 ≤ (nj : Rat) * nm := by
        have : ((nk * nk + 1 : Nat) : Rat) ≤ ((nj * nm : Nat) : Rat) := by exact_mod_cast h1
        simpa using this
      rw [← ej, ← ek, ← em] at h2
      have h3 : (1 : Rat) / 4 ≤ (y - x) * (J * K) := by
        have e1 : x * (J * K) = K * K := by grind
        have e2 : y * (J * K) = J * M := by grind
        grind
      have h4 : (y - x) * (J * K) ≤ (y - x) * 16 := by
        have := (mm (Rat.le_of_lt hJ) (by grind : J ≤ 4) (Rat.le_of_lt hK) (by grind : K ≤ 4)).2
        exact Rat.mul_le_mul_of_nonneg_left (by grind) (by grind)
      grind
  have hs := fsub_ok 9 hY' hR' (by grind) (by grind) (by grind)
  obtain ⟨H, hH, h1, h2⟩ := hs.near
  have hH' : S (fsub (fdiv m k) (fdiv k j)) H := hH
  have H0 := fsub_nonneg hY' hR' hRY (by grind) hH'
  have e9 := E_small (c := 9 + 1 / 1000) (B := 1 / 100000) (by grind)
  have nR : Nr R x 10 := by constructor <;> grind
  have nS : Nr (R + H) y 40 := by constructor <;> grind
  have nJR : Nr (J * R) K 40 := by
    have := (Nr.refl J).mul nR (Rat.le_of_lt hJ) (by grind : J ≤ 4) x0 (by grind : x ≤ 3) (by grind) (by grind)
    have e : J * x = K := by grind
    rw [e] at this; exact this.mono (by grind)
  have e40 := E_small (c := 40) (B := 1 / 100000) (by grind)
  have nP : Nr (J * R * (R + H)) M (5 * 40 + 8 * 40) := by
    have := nJR.mul nS (Rat.mul_nonneg (Rat.le_of_lt hJ) R0) (by have := nJR.1; grind : J * R ≤ 5) y0 y8 (by grind) (by grind)
    have e : K * y = M := by grind
    rw [e] at this; exact this
  have e520 := E_small (c := 5 * 40 + 8 * 40) (B := 1 / 4000) (by grind)
  have x8 : 1 / 8 ≤ x := by
    have : (1 : Rat) / 8 * J ≤ x * J := by grind
    by_cases hc : 1 / 8 ≤ x
    · exact hc
    · exfalso
      have := Rat.mul_lt_mul_of_pos_right (by grind : x < 1 / 8) hJ
      grind
  refine ⟨D1.ok, D2.ok, hs.ok, R, H, hR', hH', ⟨R0, by have := nR.1; grind, H0, ?_, ?_, ?_, ?_⟩⟩
  · grind
  · have := nJR.1; grind
  · have := nP.1; grind
  · have := nP.2; grind
end Fl
