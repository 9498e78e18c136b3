/- Signs of results. -/
import Derived.Test.YtojbgeimlipajaaWords
namespace Fl
open Go

theorem Is.uniq {f : Ieee.Format} {w : Nat} {x y : Rat} (h : Is f w x) (k : Is f w y) : x = y := h.val.symm.trans k.val
/-! signs -/
theorem write_sign {s : Bool} {m : Nat} {e : Int} {x z : Rat} (hv : sg s * m * p2 e = x) (h0 : 0 ≤ x) (h1 : x ≤ 1000000) (hz : S (Ieee.single.write (.number s m e)) z) : 0 ≤ z := by
  by_cases hm0 : m = 0
  · subst hm0
    have := hz.uniq (y := 0) (by simpa [Ieee.Format.write, Ieee.Format.nearest] using word_zero fine_single s)
    rw [this]; exact Rat.le_refl
  · have hm : (0 : Rat) < (m : Rat) * p2 e := Rat.mul_pos (by exact_mod_cast (by omega : 0 < m)) (p2_pos e)
    have hp := p100_big
    have hs0 : s = false := by
      cases s
      · rfl
      · exfalso; simp only [sg, if_true] at hv; grind
    subst hs0
    simp only [sg, Bool.false_eq_true, if_false] at hv
    have hn := nearest_is fine_single false m e hm0 (by grind)
    have := hz.uniq hn
    rw [this]
    simp only [sg, Bool.false_eq_true, if_false]
    have hk : (0 : Rat) ≤ (kept Ieee.single m e : Rat) := by exact_mod_cast Nat.zero_le _
    have := Rat.mul_nonneg hk (Rat.le_of_lt (p2_pos (lastPlace Ieee.single m e)))
    grind
theorem fadd_nonneg {a b : Nat} {x y z : Rat} (ha : S a x) (hb : S b y) (h0 : 0 ≤ x + y) (h1 : x + y ≤ 1000000) (hz : S (fadd a b) z) : 0 ≤ z := by
  obtain ⟨s, m, e, hs, hv⟩ := sum_val (is_read ha) (is_read hb)
  have h2 : floatBits .add .f32 a b = some (Ieee.single.write (.number s m e)) := by
    show ((Ieee.single.read a).sum (Ieee.single.read b)).map Ieee.single.write = _
    rw [hs]; rfl
  have h3 : fadd a b = _ := fop_some h2
  rw [h3] at hz
  exact write_sign hv h0 h1 hz
theorem fmul_nonneg {a b : Nat} {x y z : Rat} (ha : S a x) (hb : S b y) (h0 : 0 ≤ x * y) (h1 : x * y ≤ 1000000) (hz : S (fmul a b) z) : 0 ≤ z := by
  obtain ⟨s, m, e, hs, hv⟩ := product_val (is_read ha) (is_read hb)
  have h2 : floatBits .mul .f32 a b = some (Ieee.single.write (.number s m e)) := by
    show ((Ieee.single.read a).product (Ieee.single.read b)).map Ieee.single.write = _
    rw [hs]; rfl
  have h3 : fmul a b = _ := fop_some h2
  rw [h3] at hz
  exact write_sign hv h0 h1 hz
theorem fdiv_nonneg {a b : Nat} {x y z : Rat} (ha : S a x) (hb : S b y) (hy : 0 < y) (h0 : 0 ≤ x) (h1 : x / y ≤ 100000) (hz : S (fdiv a b) z) : 0 ≤ z := by
  obtain ⟨s, m, e, v, hs, hv, hn, _⟩ := quotient_val 25 (by omega) (is_read ha) (is_read hb) (by grind)
  have h2 : floatBits .quo .f32 a b = some (Ieee.single.write (.number s m e)) := by
    show ((Ieee.single.read a).quotient (23 + 2) (Ieee.single.read b)).map Ieee.single.write = _
    rw [hs]; rfl
  have h3 : fdiv a b = _ := fop_some h2
  rw [h3] at hz
  have hi : 0 < y⁻¹ := Rat.inv_pos.2 hy
  have hq : 0 ≤ x / y := by rw [Rat.div_def]; exact Rat.mul_nonneg h0 (Rat.le_of_lt hi)
  rw [Rat.abs_of_nonneg hq] at hn
  obtain ⟨n1, n2⟩ := hn
  have hp : p2 (-((25 : Nat) : Int)) ≤ 1 := by rw [← p2_zero]; exact p2_le (by decide)
  have m1 := Rat.mul_le_mul_of_nonneg_right hp hq
  exact write_sign hv (by grind) (by grind) hz


theorem write_sign_d {s : Bool} {m : Nat} {e : Int} {x z : Rat} (hv : sg s * m * p2 e = x) (h0 : 0 ≤ x) (h1 : x ≤ 1000000) (hz : D (Ieee.double.write (.number s m e)) z) : 0 ≤ z := by
  by_cases hm0 : m = 0
  · subst hm0
    have := hz.uniq (y := 0) (by simpa [Ieee.Format.write, Ieee.Format.nearest] using word_zero fine_double s)
    rw [this]; exact Rat.le_refl
  · have hm : (0 : Rat) < (m : Rat) * p2 e := Rat.mul_pos (by exact_mod_cast (by omega : 0 < m)) (p2_pos e)
    have hp := p100_big
    have hs0 : s = false := by
      cases s
      · rfl
      · exfalso; simp only [sg, if_true] at hv; grind
    subst hs0
    simp only [sg, Bool.false_eq_true, if_false] at hv
    have hn := nearest_is fine_double false m e hm0 (by grind)
    have := hz.uniq hn
    rw [this]
    simp only [sg, Bool.false_eq_true, if_false]
    have hk : (0 : Rat) ≤ (kept Ieee.double m e : Rat) := by exact_mod_cast Nat.zero_le _
    have := Rat.mul_nonneg hk (Rat.le_of_lt (p2_pos (lastPlace Ieee.double m e)))
    grind
theorem dadd_nonneg {a b : Nat} {x y z : Rat} (ha : D a x) (hb : D b y) (h0 : 0 ≤ x + y) (h1 : x + y ≤ 1000000) (hz : D (dadd a b) z) : 0 ≤ z := by
  obtain ⟨s, m, e, hs, hv⟩ := sum_val (is_read ha) (is_read hb)
  have h2 : floatBits .add .f64 a b = some (Ieee.double.write (.number s m e)) := by
    show ((Ieee.double.read a).sum (Ieee.double.read b)).map Ieee.double.write = _
    rw [hs]; rfl
  have h3 : dadd a b = _ := fop_some h2
  rw [h3] at hz
  exact write_sign_d hv h0 h1 hz
theorem dmul_nonneg {a b : Nat} {x y z : Rat} (ha : D a x) (hb : D b y) (h0 : 0 ≤ x * y) (h1 : x * y ≤ 1000000) (hz : D (dmul a b) z) : 0 ≤ z := by
  obtain ⟨s, m, e, hs, hv⟩ := product_val (is_read ha) (is_read hb)
  have h2 : floatBits .mul .f64 a b = some (Ieee.double.write (.number s m e)) := by
    show ((Ieee.double.read a).product (Ieee.double.read b)).map Ieee.double.write = _
    rw [hs]; rfl
  have h3 : dmul a b = _ := fop_some h2
  rw [h3] at hz
  exact write_sign_d hv h0 h1 hz
end Fl
