/- PlanWay: the way grows with the time, and comes to its end. -/
import Derived.Test.YtpkcbofeoklpbaaWay3
namespace Fl
open Go

theorem xs_chain {J R H C : Rat} (p : Par J R H C) (i : Nat) (d : Nat) (h : i + d ≤ 7) :
    0 ≤ Xs J R H C (i + d) - Xs J R H C i ∧ Xs J R H C (i + d) - Xs J R H C i ≤ J * R * (R + H) * (Dsum R H C (i + d) - Dsum R H C i) := by
  induction d with
  | zero => simp only [Nat.add_zero]; constructor <;> grind
  | succ d ih =>
    obtain ⟨a, b⟩ := ih (by omega)
    have m := inc_mono p (i + d) (by omega) Rat.le_refl (ds_nonneg p (i + d)) Rat.le_refl
    rw [inc_zero] at m
    have e := inc_full (J := J) (R := R) (H := H) (C := C) (i + d) (by omega)
    have e2 : Dsum R H C (i + (d + 1)) = Dsum R H C (i + d) + Ds R H C (i + d) := rfl
    have e3 : i + (d + 1) = i + d + 1 := by omega
    rw [e3] at e2 ⊢
    rw [e2]
    generalize Xs J R H C (i + d + 1) = x1 at *
    generalize Xs J R H C (i + d) = x2 at *
    generalize Xs J R H C i = x0 at *
    generalize inc J R H (i + d) (Ds R H C (i + d)) = q at *
    generalize Dsum R H C (i + d) = d2 at *
    generalize Dsum R H C i = d0 at *
    generalize Ds R H C (i + d) = dd at *
    generalize J * R * (R + H) = P at *
    constructor <;> grind

/-- where a time leads -/
def Pos (J R H C tv X : Rat) : Prop :=
  (X = Xs J R H C 7 ∧ Dsum R H C 7 - E * 500 ≤ tv) ∨
  ∃ i s, i < 7 ∧ 0 ≤ s ∧ s < Ds R H C i ∧ tv - Dsum R H C i - E * 500 ≤ s ∧ s ≤ tv - Dsum R H C i + E * 500 ∧ X = Xs J R H C i + inc J R H i s

theorem pos_rest {J R H C s : Rat} (p : Par J R H C) (i : Nat) (hi : i < 7) (s0 : 0 ≤ s) (s1 : s ≤ Ds R H C i) (j : Nat) (hj : i < j) (hj7 : j ≤ 7) :
    0 ≤ Xs J R H C j - (Xs J R H C i + inc J R H i s) ∧ Xs J R H C j - (Xs J R H C i + inc J R H i s) ≤ J * R * (R + H) * (Dsum R H C j - Dsum R H C i - s) := by
  have m := inc_mono p i hi s0 s1 Rat.le_refl
  have e := inc_full (J := J) (R := R) (H := H) (C := C) i hi
  have c := xs_chain p (i + 1) (j - (i + 1)) (by omega)
  have ej : i + 1 + (j - (i + 1)) = j := by omega
  rw [ej] at c
  have e2 : Dsum R H C (i + 1) = Dsum R H C i + Ds R H C i := rfl
  rw [e2, ← e] at c
  obtain ⟨c1, c2⟩ := c
  obtain ⟨m1, m2⟩ := m
  generalize Xs J R H C j = xj at *
  generalize Xs J R H C i = xi at *
  generalize inc J R H i (Ds R H C i) = q at *
  generalize inc J R H i s = qs at *
  generalize Dsum R H C j = dj at *
  generalize Dsum R H C i = di at *
  generalize Ds R H C i = dd at *
  generalize J * R * (R + H) = P at *
  constructor <;> grind

theorem pos_le {J R H C tv X : Rat} (p : Par J R H C) (h : Pos J R H C tv X) : X ≤ Xs J R H C 7 := by
  rcases h with ⟨h, _⟩ | ⟨i, s, hi, s0, s1, _, _, rfl⟩
  · rw [h]; exact Rat.le_refl
  · have := (pos_rest p i hi s0 (by grind) 7 hi (Nat.le_refl 7)).1
    grind

theorem dsum_mono {J R H C : Rat} (p : Par J R H C) (i d : Nat) : Dsum R H C i ≤ Dsum R H C (i + d) := by
  induction d with
  | zero => exact Rat.le_refl
  | succ d ih => have := ds_nonneg p (i + d); have e : Dsum R H C (i + (d + 1)) = Dsum R H C (i + d) + Ds R H C (i + d) := rfl
                 rw [e]; grind

theorem pos_mono {J R H C tv tw X Y : Rat} (p : Par J R H C) (h : Pos J R H C tv X) (h' : Pos J R H C tw Y) (hg : tv + E * 1001 ≤ tw) : X ≤ Y := by
  have hE := E_pos
  rcases h' with ⟨h', _⟩ | ⟨k, u, hk, u0, u1, u2, u3, rfl⟩
  · rw [h']; exact pos_le p h
  · rcases h with ⟨rfl, hx⟩ | ⟨i, s, hi, s0, s1, s2, s3, rfl⟩
    · exfalso
      have := dsum_mono p (k + 1) (7 - (k + 1))
      have e : k + 1 + (7 - (k + 1)) = 7 := by omega
      rw [e] at this
      have e2 : Dsum R H C (k + 1) = Dsum R H C k + Ds R H C k := rfl
      grind
    · rcases Nat.lt_trichotomy i k with hik | hik | hik
      · have a := (pos_rest p i hi s0 (by grind) k hik (by omega)).1
        have b := (inc_mono p k hk Rat.le_refl u0 (by grind)).1
        rw [inc_zero] at b
        grind
      · subst hik
        have := (inc_mono p i hi s0 (by grind : s ≤ u) (by grind)).1
        grind
      · exfalso
        have := dsum_mono p (k + 1) (i - (k + 1))
        have e : k + 1 + (i - (k + 1)) = i := by omega
        rw [e] at this
        have e2 : Dsum R H C (k + 1) = Dsum R H C k + Ds R H C k := rfl
        grind

theorem pos_end {J R H C tv X d : Rat} (p : Par J R H C) (h : Pos J R H C tv X) (hd : Dsum R H C 7 - d ≤ tv) (hd0 : 0 ≤ d) : Xs J R H C 7 - 402 / 100 * (d + E * 500) ≤ X := by
  have hE := E_pos
  rcases h with ⟨rfl, _⟩ | ⟨i, s, hi, s0, s1, s2, s3, rfl⟩
  · grind
  · have a := (pos_rest p i hi s0 (by grind) 7 hi (Nat.le_refl 7)).2
    have hq : Dsum R H C 7 - Dsum R H C i - s ≤ d + E * 500 := by grind
    have hP0 : 0 ≤ J * R * (R + H) := Rat.mul_nonneg p.prods.jr (by have := p.r0; have := p.h0; grind)
    have hP1 := p.p
    have m1 := Rat.mul_le_mul_of_nonneg_left hq hP0
    have m2 := Rat.mul_le_mul_of_nonneg_right (by grind : J * R * (R + H) ≤ 402 / 100) (by grind : 0 ≤ d + E * 500)
    grind

/-- what PlanWay computes -/
theorem way {j r h c t : Nat} {J R H C al tv : Rat} (p : Par J R H C) (w : Words j r h c J R H C al) (hal0 : -10 ≤ al) (hal1 : al ≤ 10) (ht : S t tv) (t0 : 0 ≤ tv) (t1 : tv ≤ 59) :
    (∀ i, i < 7 → Fine7 j r h c t i) ∧ ∃ z X, S (pst j r h c t 7).x z ∧ X - E * 8600 ≤ z ∧ z ≤ X + E * 8600 ∧ Pos J R H C tv X := by
  obtain ⟨h1, h2⟩ := run7 p w hal0 hal1 ht t0 t1 7 (Nat.le_refl 7)
  refine ⟨h1, ?_⟩
  have hE := E_pos
  have e7 : ((7 : Nat) : Rat) = 7 := rfl
  rcases h2 with h2 | h2
  · obtain ⟨⟨⟨z, hz, a1, a2⟩, _, _⟩, y, _, y0, _, l1, l2⟩ := h2
    have e : cxs 7 = 8526 := rfl
    rw [e] at a1 a2
    rw [e7] at l1 l2
    refine ⟨z, _, hz, ?_, ?_, .inl ⟨rfl, ?_⟩⟩ <;> grind
  · obtain ⟨⟨i, s, _, hi, s0, s1, l1, l2, ⟨z, hz, a1, a2⟩⟩, _, _, _⟩ := h2
    rw [e7] at a1 a2
    refine ⟨z, _, hz, ?_, ?_, .inr ⟨i, s, hi, s0, s1, l1, l2, rfl⟩⟩ <;> grind
end Fl
