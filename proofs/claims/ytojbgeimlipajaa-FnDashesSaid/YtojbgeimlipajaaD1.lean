/- Lengths of differences of points, as words and as numbers. -/
import Derived.Test.YtojbgeimlipajaaSign
namespace Go.Proofs.Ytojbgeimlipajaa
open Fl

theorem mm {a b A B : Rat} (a0 : 0 ≤ a) (a1 : a ≤ A) (b0 : 0 ≤ b) (b1 : b ≤ B) : 0 ≤ a * b ∧ a * b ≤ A * B := by
  have h1 := Rat.mul_nonneg a0 b0
  have h2 := Rat.mul_le_mul_of_nonneg_right a1 b0
  have h3 := Rat.mul_le_mul_of_nonneg_left b1 (by grind : 0 ≤ A)
  constructor <;> grind
theorem abs_mul {a u e B : Rat} (a1 : -e ≤ a) (a2 : a ≤ e) (u1 : -B ≤ u) (u2 : u ≤ B) : -(e * B) ≤ a * u ∧ a * u ≤ e * B := by
  have p1 := Rat.mul_nonneg (by grind : 0 ≤ e - a) (by grind : 0 ≤ B - u)
  have p2 := Rat.mul_nonneg (by grind : 0 ≤ e + a) (by grind : 0 ≤ B + u)
  have p3 := Rat.mul_nonneg (by grind : 0 ≤ e - a) (by grind : 0 ≤ B + u)
  have p4 := Rat.mul_nonneg (by grind : 0 ≤ e + a) (by grind : 0 ≤ B - u)
  constructor <;> grind
theorem sq_le {a b : Rat} (h : a * a ≤ b * b) (hb : 0 ≤ b) : a ≤ b := by
  by_cases hc : a ≤ b
  · exact hc
  · exfalso
    have h1 : b < a := by grind
    have h2 := Rat.mul_lt_mul_of_pos_left h1 (by grind : 0 < a)
    have h3 := Rat.mul_le_mul_of_nonneg_right (Rat.le_of_lt h1) hb
    grind
theorem sq_nonneg (a : Rat) : 0 ≤ a * a := by
  by_cases h : 0 ≤ a
  · exact Rat.mul_nonneg h h
  · have := Rat.mul_nonneg (by grind : 0 ≤ -a) (by grind : 0 ≤ -a); grind

abbrev Pt := Nat × Nat
def subP (q p : Pt) : Pt := (fsub q.1 p.1, fsub q.2 p.2)
def powW (d : Pt) : Nat := dadd (dmul (up d.1) (up d.1)) (dmul (up d.2) (up d.2))
def longW (d : Pt) : Nat := down (dsqrt (powW d))

structure LongOk (d : Pt) : Prop where
  u1 : floatToFloatBits .f32 d.1 .f64 = some (up d.1)
  u2 : floatToFloatBits .f32 d.2 .f64 = some (up d.2)
  m1 : floatBits .mul .f64 (up d.1) (up d.1) = some (dmul (up d.1) (up d.1))
  m2 : floatBits .mul .f64 (up d.2) (up d.2) = some (dmul (up d.2) (up d.2))
  a : floatBits .add .f64 (dmul (up d.1) (up d.1)) (dmul (up d.2) (up d.2)) = some (powW d)
  r : Ieee.double.sqrt (powW d) = some (dsqrt (powW d))
  dn : floatToFloatBits .f64 (dsqrt (powW d)) .f32 = some (longW d)
  ul : floatToFloatBits .f32 (longW d) .f64 = some (up (longW d))

/-- the root of a double, narrowed -/
theorem droot_near {a : Nat} {x : Rat} (ha : D a x) (h0 : 0 ≤ x) (h1 : x ≤ 10000) :
    Ieee.double.sqrt a = some (dsqrt a) ∧ floatToFloatBits .f64 (dsqrt a) .f32 = some (down (dsqrt a)) ∧
    ∃ v z, S (down (dsqrt a)) z ∧ 0 ≤ v ∧ v ≤ 101 ∧ v * v * (1 - E / 1000) ≤ x ∧ x ≤ v * v * (1 + E / 1000) ∧ v - E * (2 * v + 1 / 500) ≤ z ∧ z ≤ v + E * (2 * v + 1 / 500) := by
  have hp := p98_big
  obtain ⟨r, v, z, hr, hz, hv0, hv1, hv2, hn1, hn2⟩ := sqrt_near fine_double ha h0 (by grind)
  have hd : dsqrt a = r := by simp [dsqrt, hr]
  have hE := E_pos
  have hE10 : E ≤ 1 / 1000 := by rw [E_val]; decide +kernel
  have hud := ulp_double
  have htd := tiny_double
  have hup := ulp_pos Ieee.double
  have hvv := Rat.mul_nonneg hv0 hv0
  have m1 := Rat.mul_le_mul_of_nonneg_left hud hvv
  have m2 := Rat.mul_le_mul_of_nonneg_right hud hv0
  have m3 := Rat.mul_nonneg hv0 (Rat.le_of_lt hE)
  have m4 := Rat.mul_nonneg hvv (Rat.le_of_lt hE)
  have a1 : v * v * (1 - E / 1000) ≤ x := by grind
  have a2 : x ≤ v * v * (1 + E / 1000) := by grind
  have hv3 : v ≤ 101 := by
    have h5 : v * v * E ≤ v * v * (1 / 1000) := Rat.mul_le_mul_of_nonneg_left hE10 hvv
    exact sq_le (by grind) (by decide)
  have m5 : v * E ≤ v * (1 / 1000) := Rat.mul_le_mul_of_nonneg_left hE10 hv0
  have z1 : -(2 * v + 1 / 10000) ≤ z := by grind
  have z2 : z ≤ v + v * E * (1 / 100000) + E * (1 / 100000) := by grind
  have z3 : z ≤ v + v * (1 / 100) + 1 / 10000 := by grind
  obtain ⟨d1, y, hy, y1, y2⟩ := down_ok (v + v * (1 / 100) + 1 / 10000) hz (by grind) z3 (by grind)
  exact ⟨by rw [hd]; exact hr, by rw [hd]; exact d1, v, y, by rw [hd]; exact hy, hv0, hv3, a1, a2, by grind, by grind⟩

theorem long_near {d : Pt} {x y : Rat} (hx : S d.1 x) (hy : S d.2 y) (x0 : -20 ≤ x) (x1 : x ≤ 20) (y0 : -20 ≤ y) (y1 : y ≤ 20) :
    LongOk d ∧ ∃ v l, S (longW d) l ∧ 0 ≤ v ∧ v ≤ 101 ∧ v * v - (x * x + y * y) ≤ E * (1 / 10 * (v * v) + 1 / 10) ∧ x * x + y * y - v * v ≤ E * (1 / 10 * (v * v) + 1 / 10) ∧ v - E * (2 * v + 1 / 500) ≤ l ∧ l ≤ v + E * (2 * v + 1 / 500) := by
  have hE := E_pos
  have hE1 : E ≤ 1 / 1000 := by rw [E_val]; decide +kernel
  obtain ⟨u1, d1⟩ := up_ok hx (by grind) (by grind)
  obtain ⟨u2, d2⟩ := up_ok hy (by grind) (by grind)
  have bx := abs_mul x0 x1 x0 x1
  have by' := abs_mul y0 y1 y0 y1
  have sx := sq_nonneg x
  have sy := sq_nonneg y
  have m1 := dmul_ok 400 d1 d1 (by grind) (by grind) (by grind)
  obtain ⟨p, hp, p1, p2⟩ := m1.near
  have hp' : D (dmul (up d.1) (up d.1)) p := hp
  have p0 := dmul_nonneg d1 d1 sx (by grind) hp'
  have m2 := dmul_ok 400 d2 d2 (by grind) (by grind) (by grind)
  obtain ⟨q, hq, q1, q2⟩ := m2.near
  have hq' : D (dmul (up d.2) (up d.2)) q := hq
  have q0 := dmul_nonneg d2 d2 sy (by grind) hq'
  have a := dadd_ok 802 hp' hq' (by grind) (by grind) (by grind)
  obtain ⟨s, hs, s1, s2⟩ := a.near
  have hs' : D (powW d) s := hs
  have s0 := dadd_nonneg hp' hq' (by grind) (by grind) hs'
  obtain ⟨r1, r2, v, l, hl, v0, v101, v1, v2, l1, l2⟩ := droot_near hs' s0 (by grind)
  have hl' : S (longW d) l := hl
  have hev : E * v ≤ 1 := by
    have w1 := Rat.mul_le_mul_of_nonneg_right hE1 v0
    grind
  have hev0 : 0 ≤ E * v := Rat.mul_nonneg (Rat.le_of_lt hE) v0
  obtain ⟨ul, _⟩ := up_ok hl' (by grind) (by grind)
  have hvv := Rat.mul_nonneg v0 v0
  have hEvv := Rat.mul_nonneg (Rat.le_of_lt hE) hvv
  exact ⟨⟨u1, u2, m1.ok, m2.ok, a.ok, r1, r2, ul⟩, v, l, hl', v0, v101, by grind, by grind, l1, l2⟩

/-- near squares, near numbers -/
theorem near_root {v D e : Rat} (v0 : 0 ≤ v) (D0 : 0 ≤ D) (e0 : 0 ≤ e) (h1 : v * v - D * D ≤ 2 * (D * e) + 2 * (e * e)) (h2 : D * D - v * v ≤ 2 * (D * e) + 2 * (e * e)) : v - D ≤ 3 * e ∧ D - v ≤ 3 * e := by
  have De := Rat.mul_nonneg D0 e0
  have ee := Rat.mul_nonneg e0 e0
  constructor
  · have : v ≤ D + 3 * e := sq_le (by grind) (by grind)
    grind
  · by_cases hc : D ≤ 3 * e
    · grind
    · have h3 : 0 ≤ D - 3 * e := by grind
      have h4 := Rat.mul_nonneg h3 e0
      have : D - 3 * e ≤ v := sq_le (by grind) v0
      grind
end Go.Proofs.Ytojbgeimlipajaa
