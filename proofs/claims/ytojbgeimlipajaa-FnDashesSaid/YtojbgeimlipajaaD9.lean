/- The sums of the law. -/
import Derived.Test.YtojbgeimlipajaaD8
namespace Go.Proofs.Ytojbgeimlipajaa
open Fl

def dashLen (ps : List Pt) : Nat := lenW ps (ps.length - 1)
def sumD (outs : List (List Pt)) : Nat → Nat
  | 0 => 0
  | k + 1 => dadd (sumD outs k) (dashLen (outs.getD k []))
def covS (A B T : Rat) : Nat → Rat
  | 0 => 0
  | k + 1 => covS A B T k + cov A B T k

theorem cov_bd {A B T : Rat} (hA : 0 < A) (k : Nat) : 0 ≤ cov A B T k ∧ cov A B T k ≤ A := by
  unfold cov; split
  · constructor <;> grind
  · split <;> constructor <;> grind
theorem covS_bd {A B T : Rat} (hA : 0 < A) (hA2 : A ≤ 2) (k : Nat) : 0 ≤ covS A B T k ∧ covS A B T k ≤ 2 * k := by
  induction k with
  | zero => have e : ((0 : Nat) : Rat) = 0 := rfl
            rw [e]; simp only [covS]; constructor <;> grind
  | succ k ih =>
    have e : ((k + 1 : Nat) : Rat) = (k : Rat) + 1 := by simp
    have := cov_bd (B := B) (T := T) hA k
    rw [e]; simp only [covS]; constructor <;> grind
theorem cov_lip {A B T T' e : Rat} (k : Nat) (h1 : T - T' ≤ e) (h2 : T' - T ≤ e) (hA : 0 < A) : cov A B T k - cov A B T' k ≤ e := by
  unfold cov
  generalize (k : Rat) * (A + B) = z
  split <;> split <;> (try split) <;> (try split) <;> grind

theorem cast_le {n m : Nat} (h : n ≤ m) : (n : Rat) ≤ (m : Rat) := by exact_mod_cast h
theorem cast_0 (n : Nat) : (0 : Rat) ≤ (n : Rat) := by exact_mod_cast Nat.zero_le n
theorem cast_s (n : Nat) : ((n + 1 : Nat) : Rat) = (n : Rat) + 1 := by simp

/-- a dash as a double -/
theorem DashOk.len {A B T : Rat} {ps : List Pt} {k : Nat} (h : DashOk A B T ps k) : ∃ v, D (dashLen ps) v ∧ v - cov A B T k ≤ E * 36900 ∧ cov A B T k - v ≤ E * 36900 ∧ v ≤ A + E * 36900 := by
  have hE := E_pos
  obtain ⟨r, sig, ac, s1, s2, s3⟩ := h.acc
  obtain ⟨v, hv, v1, v2⟩ := ac.v
  have hn := ac.n9
  have h8 : ((ps.length - 1 : Nat) : Rat) ≤ 8 := cast_le (m := 8) (by omega)
  have hEm := Rat.mul_le_mul_of_nonneg_left h8 (Rat.le_of_lt hE)
  exact ⟨v, hv, by grind, by grind, by grind⟩
theorem Done.len {A : Rat} {ps : List Pt} (h : Done A ps) : ∃ v, D (dashLen ps) v ∧ A - v ≤ E * 36900 := by
  have hE := E_pos
  obtain ⟨_, r, sig, ac, s1, s2⟩ := h
  obtain ⟨v, hv, v1, v2⟩ := ac.v
  have hn := ac.n9
  have h8 : ((ps.length - 1 : Nat) : Rat) ≤ 8 := cast_le (m := 8) (by omega)
  have hEm := Rat.mul_le_mul_of_nonneg_left h8 (Rat.le_of_lt hE)
  exact ⟨v, hv, by grind⟩

theorem sum_near {A B T : Rat} {outs : List (List Pt)} (hA : 1 / 2 ≤ A) (hA2 : A ≤ 2) (h16 : outs.length ≤ 16) (h : ∀ k, k < outs.length → DashOk A B T (outs.getD k []) k) (i : Nat) (hi : i ≤ outs.length) :
    (∀ k, k < i → floatBits .add .f64 (sumD outs k) (dashLen (outs.getD k [])) = some (sumD outs (k + 1))) ∧ ∃ v, D (sumD outs i) v ∧ v - covS A B T i ≤ E * (37000 * (i : Rat)) ∧ covS A B T i - v ≤ E * (37000 * (i : Rat)) := by
  have hE := E_pos
  have hE1 : E * 1000000 ≤ 1 := by rw [E_val]; decide +kernel
  induction i with
  | zero => exact ⟨fun k hk => absurd hk (Nat.not_lt_zero k), 0, d_zero, by simp [covS]; grind, by simp [covS]; grind⟩
  | succ i ih =>
    obtain ⟨h1, v, hv, v1, v2⟩ := ih (by omega)
    obtain ⟨l, hl, l1, l2, l3⟩ := (h i (by omega)).len
    have cb := cov_bd (A := A) (B := B) (T := T) (by grind) i
    have sb := covS_bd (A := A) (B := B) (T := T) (by grind) hA2 i
    have i16 : (i : Rat) ≤ 16 := cast_le (m := 16) (by omega)
    have i0 := cast_0 i
    have hEi := Rat.mul_le_mul_of_nonneg_left i16 (Rat.le_of_lt hE)
    have hEi0 := Rat.mul_nonneg (Rat.le_of_lt hE) i0
    have a := dadd_ok 50 hv hl (by grind) (by grind) (by grind)
    obtain ⟨z, hz, z1, z2⟩ := a.near
    refine ⟨fun k hk => ?_, z, hz, ?_, ?_⟩
    · by_cases e : k = i
      · subst e; exact a.ok
      · exact h1 k (by omega)
    · rw [cast_s]; simp only [covS]; grind
    · rw [cast_s]; simp only [covS]; grind
end Go.Proofs.Ytojbgeimlipajaa
