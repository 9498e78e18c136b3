/- Words that are near a number, within so many half units: how multiplication, addition and division carry this on. -/
import Derived.Test.YtpkcbofeoklpbaaWords
namespace Fl
open Go

/-- the word is near the number q, within c half units -/
def Ap (w : Nat) (q c : Rat) : Prop := ∃ z, S w z ∧ q - E * c ≤ z ∧ z ≤ q + E * c

theorem Ap.of {w : Nat} {q : Rat} (h : S w q) : Ap w q 0 := ⟨q, h, by grind, by grind⟩
theorem E_mul_le {a b : Rat} (h : a ≤ b) : E * a ≤ E * b := Rat.mul_le_mul_of_nonneg_left h (Rat.le_of_lt E_pos)
theorem Ap.mono {w : Nat} {q c c' : Rat} (h : Ap w q c) (hc : c ≤ c') : Ap w q c' := by
  obtain ⟨z, hz, h1, h2⟩ := h
  have := E_mul_le hc
  exact ⟨z, hz, by grind, by grind⟩
theorem Ap.to {w : Nat} {q q' c : Rat} (h : Ap w q c) (hq : q = q') : Ap w q' c := by subst hq; exact h
/-- another number near it -/
theorem Ap.shift {w : Nat} {q q' c d : Rat} (h : Ap w q c) (h1 : q - q' ≤ E * d) (h2 : q' - q ≤ E * d) : Ap w q' (c + d) := by
  obtain ⟨z, hz, a1, a2⟩ := h
  have : E * (c + d) = E * c + E * d := by grind
  exact ⟨z, hz, by grind, by grind⟩
theorem E_small {c B : Rat} (h : c ≤ B * 16777216) : E * c ≤ B := by
  have h2 := E_mul_le h
  have h3 : E * 16777216 = 1 := by rw [E_val]; decide +kernel
  have h4 : E * (B * 16777216) = B := by
    have : E * (B * 16777216) = (E * 16777216) * B := by grind
    rw [this, h3]; grind
  rw [h4] at h2; exact h2

theorem Ap.mul {w s : Nat} {q c sv Sb B : Rat} (h : Ap w q c) (hs : S s sv) (h0 : 0 ≤ sv) (h1 : sv ≤ Sb) (hc : 0 ≤ c) (hcs : c * Sb ≤ 10000) (hb1 : -B ≤ q * sv) (hb2 : q * sv ≤ B) (hB : B ≤ 100000) :
    floatBits .mul .f32 w s = some (fmul w s) ∧ Ap (fmul w s) (q * sv) (c * Sb + B + 1 / 100) := by
  obtain ⟨z, hz, a1, a2⟩ := h
  have hE := E_pos
  have e1 : E * (c * Sb) ≤ 1 / 1000 := E_small (by grind)
  have hec : 0 ≤ E * c := Rat.mul_nonneg (Rat.le_of_lt hE) hc
  have m1 := Rat.mul_le_mul_of_nonneg_right a1 h0
  have m2 := Rat.mul_le_mul_of_nonneg_right a2 h0
  have m3 := Rat.mul_le_mul_of_nonneg_left h1 hec
  have b1 : -(B + 1 / 1000) ≤ z * sv := by grind
  have b2 : z * sv ≤ B + 1 / 1000 := by grind
  obtain ⟨ok, y, hy, y1, y2⟩ := fmul_ok (B + 1 / 1000) hz hs b1 b2 (by grind)
  refine ⟨ok, y, hy, ?_, ?_⟩ <;> grind

theorem Ap.mulc {w s : Nat} {q c sv B : Rat} (h : Ap w q c) (hs : S s sv) (h0 : 0 ≤ sv) (hc : 0 ≤ c) (hcs : c * sv ≤ 10000) (hb1 : -B ≤ q * sv) (hb2 : q * sv ≤ B) (hB : B ≤ 100000) :
    floatBits .mul .f32 w s = some (fmul w s) ∧ Ap (fmul w s) (q * sv) (c * sv + B + 1 / 100) :=
  h.mul hs h0 Rat.le_refl hc hcs hb1 hb2 hB

theorem Ap.add {a b : Nat} {p q c d B : Rat} (h : Ap a p c) (h' : Ap b q d) (hc : c + d ≤ 10000) (hb1 : -B ≤ p + q) (hb2 : p + q ≤ B) (hB : B ≤ 100000) :
    floatBits .add .f32 a b = some (fadd a b) ∧ Ap (fadd a b) (p + q) (c + d + B + 1 / 100) := by
  obtain ⟨z, hz, a1, a2⟩ := h
  obtain ⟨y, hy, b1, b2⟩ := h'
  have hE := E_pos
  have e1 : E * (c + d) ≤ 1 / 1000 := E_small (by grind)
  obtain ⟨ok, r, hr, r1, r2⟩ := fadd_ok (B + 1 / 1000) hz hy (by grind) (by grind) (by grind)
  refine ⟨ok, r, hr, ?_, ?_⟩ <;> grind

theorem Ap.sub {a b : Nat} {p q c d B : Rat} (h : Ap a p c) (h' : Ap b q d) (hc : c + d ≤ 10000) (hb1 : -B ≤ p - q) (hb2 : p - q ≤ B) (hB : B ≤ 100000) :
    floatBits .sub .f32 a b = some (fsub a b) ∧ Ap (fsub a b) (p - q) (c + d + B + 1 / 100) := by
  obtain ⟨z, hz, a1, a2⟩ := h
  obtain ⟨y, hy, b1, b2⟩ := h'
  have hE := E_pos
  have e1 : E * (c + d) ≤ 1 / 1000 := E_small (by grind)
  obtain ⟨ok, r, hr, r1, r2⟩ := fsub_ok (B + 1 / 1000) hz hy (by grind) (by grind) (by grind)
  refine ⟨ok, r, hr, ?_, ?_⟩ <;> grind

/-- divided by six -/
theorem Ap.six {a : Nat} {p c B : Rat} (h : Ap a p c) (hc : c ≤ 10000) (hb1 : -B ≤ p / 6) (hb2 : p / 6 ≤ B) (hB : B ≤ 100000) :
    floatBits .quo .f32 a 1086324736 = some (fdiv a 1086324736) ∧ Ap (fdiv a 1086324736) (p / 6) (c / 6 + 3 * B + 1 / 100) := by
  obtain ⟨z, hz, a1, a2⟩ := h
  have hE := E_pos
  have e1 : E * c ≤ 1 / 1000 := E_small (by grind)
  have b1 : -(B + 1 / 1000) ≤ z / 6 := by grind
  have b2 : z / 6 ≤ B + 1 / 1000 := by grind
  obtain ⟨ok, r, hr, r1, r2⟩ := fdiv_ok (B + 1 / 1000) hz s_six (by decide +kernel) b1 b2 (by grind)
  refine ⟨ok, r, hr, ?_, ?_⟩ <;> grind
end Fl
