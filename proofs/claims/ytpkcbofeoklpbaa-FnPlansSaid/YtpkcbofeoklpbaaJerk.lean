/- JerkPlan at the level of words: the way of a plan, and signs. -/
import Derived.Test.YtpkcbofeoklpbaaWay4
namespace Fl
open Go

/-! signs -/
theorem write_sign {s : Bool} {m : Nat} {e : Int} {x z : Rat} (hv : sg s * m * p2 e = x) (h0 : 0 ≤ x) (h1 : x ≤ 1000000) (hz : S (Ieee.single.write (.number s m e)) z) : 0 ≤ z := by
  by_cases hm0 : m = 0
  · subst hm0
    have := hz.uniq (y := 0) (by simpa [Ieee.Format.write, Ieee.Format.nearest] using word_zero fine_single s)
    rw [this]; exact Rat.le_refl
  · have hm : (0 : Rat) < (m : Rat) * p2 e := Rat.mul_pos (by exact_mod_cast (by omega : 0 < m)) (p2_pos e)
    have hp := p100_big
    have hs0 : s = false := by
      cases s
      · rfl
      · exfalso; simp only [sg, if_true] at hv; grind
    subst hs0
    simp only [sg, Bool.false_eq_true, if_false] at hv
    have hn := nearest_is fine_single false m e hm0 (by grind)
    have := hz.uniq hn
    rw [this]
    simp only [sg, Bool.false_eq_true, if_false]
    have hk : (0 : Rat) ≤ (kept Ieee.single m e : Rat) := by exact_mod_cast Nat.zero_le _
    have := Rat.mul_nonneg hk (Rat.le_of_lt (p2_pos (lastPlace Ieee.single m e)))
    grind
theorem fadd_nonneg {a b : Nat} {x y z : Rat} (ha : S a x) (hb : S b y) (h0 : 0 ≤ x + y) (h1 : x + y ≤ 1000000) (hz : S (fadd a b) z) : 0 ≤ z := by
  obtain ⟨s, m, e, hs, hv⟩ := sum_val (is_read ha) (is_read hb)
  have h2 : floatBits .add .f32 a b = some (Ieee.single.write (.number s m e)) := by
    show ((Ieee.single.read a).sum (Ieee.single.read b)).map Ieee.single.write = _
    rw [hs]; rfl
  have h3 : fadd a b = _ := fop_some h2
  rw [h3] at hz
  exact write_sign hv h0 h1 hz
theorem fmul_nonneg {a b : Nat} {x y z : Rat} (ha : S a x) (hb : S b y) (h0 : 0 ≤ x * y) (h1 : x * y ≤ 1000000) (hz : S (fmul a b) z) : 0 ≤ z := by
  obtain ⟨s, m, e, hs, hv⟩ := product_val (is_read ha) (is_read hb)
  have h2 : floatBits .mul .f32 a b = some (Ieee.single.write (.number s m e)) := by
    show ((Ieee.single.read a).product (Ieee.single.read b)).map Ieee.single.write = _
    rw [hs]; rfl
  have h3 : fmul a b = _ := fop_some h2
  rw [h3] at hz
  exact write_sign hv h0 h1 hz
theorem fdiv_nonneg {a b : Nat} {x y z : Rat} (ha : S a x) (hb : S b y) (hy : 0 < y) (h0 : 0 ≤ x) (h1 : x / y ≤ 100000) (hz : S (fdiv a b) z) : 0 ≤ z := by
  obtain ⟨s, m, e, v, hs, hv, hn, _⟩ := quotient_val 25 (by omega) (is_read ha) (is_read hb) (by grind)
  have h2 : floatBits .quo .f32 a b = some (Ieee.single.write (.number s m e)) := by
    show ((Ieee.single.read a).quotient (23 + 2) (Ieee.single.read b)).map Ieee.single.write = _
    rw [hs]; rfl
  have h3 : fdiv a b = _ := fop_some h2
  rw [h3] at hz
  have hi : 0 < y⁻¹ := Rat.inv_pos.2 hy
  have hq : 0 ≤ x / y := by rw [Rat.div_def]; exact Rat.mul_nonneg h0 (Rat.le_of_lt hi)
  rw [Rat.abs_of_nonneg hq] at hn
  obtain ⟨n1, n2⟩ := hn
  have hp : p2 (-((25 : Nat) : Int)) ≤ 1 := by rw [← p2_zero]; exact p2_le (by decide)
  have m1 := Rat.mul_le_mul_of_nonneg_right hp hq
  exact write_sign hv (by grind) (by grind) hz

/-- near one another, in half units -/
def Nr (x y e : Rat) : Prop := x - y ≤ E * e ∧ y - x ≤ E * e
theorem Nr.mul {a a' b b' d e A B : Rat} (h : Nr a a' d) (h' : Nr b b' e) (a0 : 0 ≤ a) (a1 : a ≤ A) (b0 : 0 ≤ b') (b1 : b' ≤ B) (d0 : 0 ≤ d) (e0 : 0 ≤ e) : Nr (a * b) (a' * b') (A * e + B * d) := by
  obtain ⟨h1, h2⟩ := h
  obtain ⟨h3, h4⟩ := h'
  have hE := E_pos
  have q1 := Rat.mul_le_mul_of_nonneg_left h3 a0
  have q2 := Rat.mul_le_mul_of_nonneg_left h4 a0
  have q3 := Rat.mul_le_mul_of_nonneg_right h1 b0
  have q4 := Rat.mul_le_mul_of_nonneg_right h2 b0
  have q5 := Rat.mul_le_mul_of_nonneg_right a1 (Rat.mul_nonneg (Rat.le_of_lt hE) e0)
  have q6 := Rat.mul_le_mul_of_nonneg_right b1 (Rat.mul_nonneg (Rat.le_of_lt hE) d0)
  constructor <;> grind
theorem Nr.add {a a' b b' d e : Rat} (h : Nr a a' d) (h' : Nr b b' e) : Nr (a + b) (a' + b') (d + e) := by
  obtain ⟨h1, h2⟩ := h
  obtain ⟨h3, h4⟩ := h'
  constructor <;> grind
theorem Nr.mono {a a' d e : Rat} (h : Nr a a' d) (h' : d ≤ e) : Nr a a' e := by
  have := E_mul_le h'
  obtain ⟨h1, h2⟩ := h
  constructor <;> grind
theorem Nr.refl (a : Rat) : Nr a a 0 := by constructor <;> grind
theorem Ap.nr {w : Nat} {q c : Rat} (h : Ap w q c) : ∃ z, S w z ∧ Nr z q c := by
  obtain ⟨z, hz, h1, h2⟩ := h
  exact ⟨z, hz, by constructor <;> grind⟩

/-- the way of a plan without a cruise, in words -/
def wayW (j r h : Nat) : Nat := fmul (fmul (fmul j r) (fadd r h)) (fadd (fmul 1073741824 r) h)
structure WayOk (j r h : Nat) : Prop where
  a1 : floatBits .add .f32 r h = some (fadd r h)
  a2 : floatBits .mul .f32 1073741824 r = some (fmul 1073741824 r)
  a3 : floatBits .add .f32 (fmul 1073741824 r) h = some (fadd (fmul 1073741824 r) h)
  m1 : floatBits .mul .f32 j r = some (fmul j r)
  m2 : floatBits .mul .f32 (fmul j r) (fadd r h) = some (fmul (fmul j r) (fadd r h))
  m3 : floatBits .mul .f32 (fmul (fmul j r) (fadd r h)) (fadd (fmul 1073741824 r) h) = some (wayW j r h)

theorem way_near {j r h : Nat} {J R H : Rat} (hj : S j J) (hr : S r R) (hh : S h H) (j0 : 0 ≤ J) (r0 : 0 ≤ R) (r3 : R ≤ 301 / 100) (h0 : 0 ≤ H) (h8 : H ≤ 801 / 100)
    (jr : J * R ≤ 402 / 100) (p : J * R * (R + H) ≤ 402 / 100) :
    WayOk j r h ∧ Ap (fmul j r) (J * R) (41 / 10) ∧ Ap (fmul (fmul j r) (fadd r h)) (J * R * (R + H)) 100 ∧ Ap (wayW j r h) (J * R * (R + H) * (2 * R + H)) 1600 := by
  have P0 := Rat.mul_nonneg j0 r0
  have hE := E_pos
  obtain ⟨m1, M1⟩ := (Ap.of hj).mul (B := 402 / 100) hr r0 r3 (by grind) (by grind) (by grind) (by grind) (by grind)
  obtain ⟨a1, A1⟩ := (Ap.of hr).add (B := 1102 / 100) (Ap.of hh) (by grind) (by grind) (by grind) (by grind)
  obtain ⟨a2, A2⟩ := (Ap.of s_two).mul (B := 602 / 100) hr r0 r3 (by grind) (by grind) (by grind) (by grind) (by grind)
  obtain ⟨a3, A3⟩ := A2.add (B := 1403 / 100) (Ap.of hh) (by grind) (by grind) (by grind) (by grind)
  obtain ⟨y, hy, ny⟩ := (A1.mono (c' := 1104 / 100) (by grind)).nr
  obtain ⟨y', hy', ny'⟩ := (A3.mono (c' := 201 / 10) (by grind)).nr
  have hy0 := fadd_nonneg hr hh (by grind) (by grind) hy
  obtain ⟨b, hb, nb⟩ := A2.nr
  have hb0 := fmul_nonneg s_two hr (by grind) (by grind) hb
  have hb1 : b ≤ 61 / 10 := by
    have := E_small (c := 0 * (301 / 100) + 602 / 100 + 1 / 100) (B := 1 / 1000) (by grind)
    have := nb.1
    grind
  have hy0' := fadd_nonneg hb hh (by grind) (by grind) hy'
  have e1 := E_small (c := 1104 / 100) (B := 1 / 1000) (by grind)
  have e2 := E_small (c := 201 / 10) (B := 1 / 1000) (by grind)
  -- the speed at the peak
  have n1 := (Nr.refl (J * R)).mul ny P0 jr (by grind) (by grind : R + H ≤ 1102 / 100) (by grind) (by grind)
  have n1' := n1.mono (e := 445 / 10) (by grind)
  have s1 := E_small (c := 445 / 10) (B := 1 / 100) (by grind)
  have yb : y ≤ 1103 / 100 := by have := ny.1; grind
  have hP0 : 0 ≤ J * R * (R + H) := Rat.mul_nonneg P0 (by grind)
  have hq0 : 0 ≤ J * R * y := Rat.mul_nonneg P0 hy0
  obtain ⟨m2, M2⟩ := (M1.mono (c' := 404 / 100) (by grind)).mul (B := 404 / 100) hy hy0 yb (by grind) (by grind) (by grind) (by have := n1'.1; grind) (by grind)
  have M2' : Ap (fmul (fmul j r) (fadd r h)) (J * R * (R + H)) (404 / 100 * (1103 / 100) + 404 / 100 + 1 / 100 + 445 / 10) := M2.shift n1'.1 n1'.2
  have M2n := M2'.mono (c' := 98) (by grind)
  -- the way
  have n2 := (Nr.refl (J * R * (R + H))).mul ny' hP0 p (by grind) (by grind : 2 * R + H ≤ 1403 / 100) (by grind) (by grind)
  have n2' := n2.mono (e := 81) (by grind)
  have s2 := E_small (c := 81) (B := 1 / 100) (by grind)
  have yb' : y' ≤ 1404 / 100 := by have := ny'.1; grind
  have hw := mm hP0 p (by grind : 0 ≤ 2 * R + H) (by grind : 2 * R + H ≤ 1403 / 100)
  have hq2 : 0 ≤ J * R * (R + H) * y' := Rat.mul_nonneg hP0 hy0'
  obtain ⟨m3, M3⟩ := M2n.mul (B := 565 / 10) hy' hy0' yb' (by grind) (by grind) (by grind) (by have := n2'.1; grind) (by grind)
  have M3' : Ap (wayW j r h) (J * R * (R + H) * (2 * R + H)) (98 * (1404 / 100) + 565 / 10 + 1 / 100 + 81) := M3.shift n2'.1 n2'.2
  exact ⟨⟨a1, a2, a3, m1, m2, m3⟩, M1.mono (by grind), M2n.mono (by grind), M3'.mono (by grind)⟩
end Fl
