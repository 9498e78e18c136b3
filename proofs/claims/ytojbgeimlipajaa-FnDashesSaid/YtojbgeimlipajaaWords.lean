/- Words of single and double precision at the level of the model's operations: each operation on finite words of bounded size gives a word near the exact result. -/
import Derived.Test.YtojbgeimlipajaaFloat
import Derived.Laws.FloatArith
namespace Fl
open Go

abbrev S (w : Nat) (x : Rat) : Prop := Is Ieee.single w x
abbrev D (w : Nat) (x : Rat) : Prop := Is Ieee.double w x

/-- half a unit of single precision -/
def E : Rat := p2 (-24)
theorem E_val : E = 1 / 16777216 := by
  have h : p2 (-24) * p2 24 = 1 := by rw [← p2_add, ← p2_zero]; rfl
  have h2 : p2 24 = 16777216 := by have := p2_nat 24; simpa using this
  unfold E; rw [h2] at h; grind
theorem E_pos : 0 < E := p2_pos _
theorem ulp_single : ulp Ieee.single = E := rfl
theorem tiny_single : tiny Ieee.single ≤ E * (1 / 1000) := by
  have h1 : tiny Ieee.single = p2 (-150) := rfl
  have h2 : p2 (-150) ≤ p2 (-34) := p2_le (by decide)
  have h3 : p2 (-34) = E * p2 (-10) := by unfold E; rw [← p2_add]; rfl
  have h4 : p2 (-10) * p2 10 = 1 := by rw [← p2_add, ← p2_zero]; rfl
  have h5 : p2 10 = 1024 := by have := p2_nat 10; simpa using this
  have h6 : p2 (-10) = 1 / 1024 := by rw [h5] at h4; grind
  have := E_pos
  rw [h1]; rw [h3, h6] at h2; grind
theorem ulp_double : ulp Ieee.double ≤ E * (1 / 100000) := by
  have h1 : ulp Ieee.double = p2 (-53) := rfl
  have h2 : p2 (-53) ≤ p2 (-44) := p2_le (by decide)
  have h3 : p2 (-44) = E * p2 (-20) := by unfold E; rw [← p2_add]; rfl
  have h4 : p2 (-20) * p2 20 = 1 := by rw [← p2_add, ← p2_zero]; rfl
  have h5 : p2 20 = 1048576 := by have := p2_nat 20; simpa using this
  have h6 : p2 (-20) = 1 / 1048576 := by rw [h5] at h4; grind
  have := E_pos
  rw [h1]; rw [h3, h6] at h2; grind
theorem tiny_double : tiny Ieee.double ≤ E * (1 / 100000) := by
  have h1 : tiny Ieee.double ≤ ulp Ieee.double := p2_le (by decide)
  have := ulp_double
  grind
theorem p100_big : 1000000000 ≤ p2 100 := by
  have h1 : p2 30 ≤ p2 100 := p2_le (by decide)
  have h2 : p2 30 = 1073741824 := by have := p2_nat 30; simpa using this
  grind
theorem p98_big : 1000000000 ≤ p2 98 := by
  have h1 : p2 30 ≤ p2 98 := p2_le (by decide)
  have h2 : p2 30 = 1073741824 := by have := p2_nat 30; simpa using this
  grind

/-- what an operation gives; nothing is said where it is invalid -/
def fop (op : BinOp) (k : FloatKind) (a b : Nat) : Nat := (floatBits op k a b).getD 0
theorem fop_some {op : BinOp} {k : FloatKind} {a b r : Nat} (h : floatBits op k a b = some r) : fop op k a b = r := by simp [fop, h]

abbrev fadd (a b : Nat) : Nat := fop .add .f32 a b
abbrev fsub (a b : Nat) : Nat := fop .sub .f32 a b
abbrev fmul (a b : Nat) : Nat := fop .mul .f32 a b
abbrev fdiv (a b : Nat) : Nat := fop .quo .f32 a b
abbrev dadd (a b : Nat) : Nat := fop .add .f64 a b
abbrev dsub (a b : Nat) : Nat := fop .sub .f64 a b
abbrev dmul (a b : Nat) : Nat := fop .mul .f64 a b
abbrev ddiv (a b : Nat) : Nat := fop .quo .f64 a b

/-- the operation is valid, and its word is within an error of a number -/
structure Ok (op : BinOp) (k : FloatKind) (a b : Nat) (v e : Rat) : Prop where
  ok : floatBits op k a b = some (fop op k a b)
  near : ∃ z, Is k.format (fop op k a b) z ∧ v - e ≤ z ∧ z ≤ v + e

theorem ok_mk {op : BinOp} {k : FloatKind} {a b r : Nat} {v e e' z : Rat} (h : floatBits op k a b = some r) (hz : Is k.format r z) (hn : Near z v e) (he : e ≤ e') : Ok op k a b v e' := by
  have := fop_some h
  refine ⟨by rw [this]; exact h, z, by rw [this]; exact hz, ?_⟩
  obtain ⟨h1, h2⟩ := hn
  constructor <;> grind

section single
variable {a b : Nat} {x y : Rat}
theorem fadd_ok (B : Rat) (ha : S a x) (hb : S b y) (h1 : -B ≤ x + y) (h2 : x + y ≤ B) (hB : B ≤ 1000000) : Ok .add .f32 a b (x + y) (E * (B + 1 / 1000)) := by
  have hp := p100_big; have ht := tiny_single; have hE := E_pos
  obtain ⟨r, z, h, hz, hn⟩ := add_near fine_single ha hb h1 h2 (by grind)
  exact ok_mk h hz hn (by rw [ulp_single]; grind)
theorem fsub_ok (B : Rat) (ha : S a x) (hb : S b y) (h1 : -B ≤ x - y) (h2 : x - y ≤ B) (hB : B ≤ 1000000) : Ok .sub .f32 a b (x - y) (E * (B + 1 / 1000)) := by
  have hp := p100_big; have ht := tiny_single; have hE := E_pos
  obtain ⟨r, z, h, hz, hn⟩ := sub_near fine_single ha hb h1 h2 (by grind)
  exact ok_mk h hz hn (by rw [ulp_single]; grind)
theorem fmul_ok (B : Rat) (ha : S a x) (hb : S b y) (h1 : -B ≤ x * y) (h2 : x * y ≤ B) (hB : B ≤ 1000000) : Ok .mul .f32 a b (x * y) (E * (B + 1 / 1000)) := by
  have hp := p100_big; have ht := tiny_single; have hE := E_pos
  obtain ⟨r, z, h, hz, hn⟩ := mul_near fine_single ha hb h1 h2 (by grind)
  exact ok_mk h hz hn (by rw [ulp_single]; grind)
theorem fdiv_ok (B : Rat) (ha : S a x) (hb : S b y) (hy : y ≠ 0) (h1 : -B ≤ x / y) (h2 : x / y ≤ B) (hB : B ≤ 1000000) : Ok .quo .f32 a b (x / y) (E * (3 * B + 1 / 1000)) := by
  have hp := p100_big; have ht := tiny_single; have hE := E_pos
  obtain ⟨r, z, h, hz, hn⟩ := div_near fine_single ha hb hy h1 h2 (by grind)
  exact ok_mk h hz hn (by rw [ulp_single]; grind)
theorem dadd_ok (B : Rat) (ha : D a x) (hb : D b y) (h1 : -B ≤ x + y) (h2 : x + y ≤ B) (hB : B ≤ 1000000) : Ok .add .f64 a b (x + y) (E * ((B + 1) / 100000)) := by
  have hp := p100_big; have ht := tiny_double; have hE := E_pos; have hu := ulp_double
  obtain ⟨r, z, h, hz, hn⟩ := add_near fine_double ha hb h1 h2 (by grind)
  have := Rat.mul_le_mul_of_nonneg_right hu (by grind : 0 ≤ B)
  exact ok_mk h hz hn (by grind)
theorem dsub_ok (B : Rat) (ha : D a x) (hb : D b y) (h1 : -B ≤ x - y) (h2 : x - y ≤ B) (hB : B ≤ 1000000) : Ok .sub .f64 a b (x - y) (E * ((B + 1) / 100000)) := by
  have hp := p100_big; have ht := tiny_double; have hE := E_pos; have hu := ulp_double
  obtain ⟨r, z, h, hz, hn⟩ := sub_near fine_double ha hb h1 h2 (by grind)
  have := Rat.mul_le_mul_of_nonneg_right hu (by grind : 0 ≤ B)
  exact ok_mk h hz hn (by grind)
theorem dmul_ok (B : Rat) (ha : D a x) (hb : D b y) (h1 : -B ≤ x * y) (h2 : x * y ≤ B) (hB : B ≤ 1000000) : Ok .mul .f64 a b (x * y) (E * ((B + 1) / 100000)) := by
  have hp := p100_big; have ht := tiny_double; have hE := E_pos; have hu := ulp_double
  obtain ⟨r, z, h, hz, hn⟩ := mul_near fine_double ha hb h1 h2 (by grind)
  have := Rat.mul_le_mul_of_nonneg_right hu (by grind : 0 ≤ B)
  exact ok_mk h hz hn (by grind)
theorem ddiv_ok (B : Rat) (ha : D a x) (hb : D b y) (hy : y ≠ 0) (h1 : -B ≤ x / y) (h2 : x / y ≤ B) (hB : B ≤ 1000000) : Ok .quo .f64 a b (x / y) (E * ((3 * B + 1) / 100000)) := by
  have hp := p100_big; have ht := tiny_double; have hE := E_pos; have hu := ulp_double
  obtain ⟨r, z, h, hz, hn⟩ := div_near fine_double ha hb hy h1 h2 (by grind)
  have := Rat.mul_le_mul_of_nonneg_right hu (by grind : 0 ≤ B)
  exact ok_mk h hz hn (by grind)
end single

/-! exact results -/
section exact
variable {a b : Nat} {x y : Rat}
/-- an operation whose exact result is a word's number -/
structure Ex (op : BinOp) (k : FloatKind) (a b : Nat) (v : Rat) : Prop where
  ok : floatBits op k a b = some (fop op k a b)
  is : Is k.format (fop op k a b) v
theorem ex_mk {op : BinOp} {k : FloatKind} {a b r : Nat} {v : Rat} (h : floatBits op k a b = some r) (hz : Is k.format r v) : Ex op k a b v := by
  have := fop_some h
  exact ⟨by rw [this]; exact h, by rw [this]; exact hz⟩
theorem Ex.near {op : BinOp} {k : FloatKind} {a b : Nat} {v : Rat} (h : Ex op k a b v) : Ok op k a b v 0 := ⟨h.ok, v, h.is, by constructor <;> grind⟩
theorem fadd_ex (ha : S a x) (hb : S b y) (h1 : -1000000 ≤ x + y) (h2 : x + y ≤ 1000000) (hr : Rep Ieee.single (x + y)) : Ex .add .f32 a b (x + y) := by
  have hp := p100_big
  obtain ⟨r, h, hz⟩ := add_exact fine_single ha hb (by grind) (by grind) hr
  exact ex_mk h hz
theorem fsub_ex (ha : S a x) (hb : S b y) (h1 : -1000000 ≤ x - y) (h2 : x - y ≤ 1000000) (hr : Rep Ieee.single (x - y)) : Ex .sub .f32 a b (x - y) := by
  have hp := p100_big
  obtain ⟨r, h, hz⟩ := sub_exact fine_single ha hb (by grind) (by grind) hr
  exact ex_mk h hz
theorem fmul_ex (ha : S a x) (hb : S b y) (h1 : -1000000 ≤ x * y) (h2 : x * y ≤ 1000000) (hr : Rep Ieee.single (x * y)) : Ex .mul .f32 a b (x * y) := by
  have hp := p100_big
  obtain ⟨r, h, hz⟩ := mul_exact fine_single ha hb (by grind) (by grind) hr
  exact ex_mk h hz
theorem fdiv_ex (ha : S a x) (hb : S b y) (hy : y ≠ 0) (h1 : -1000000 ≤ x / y) (h2 : x / y ≤ 1000000) (hr : Rep Ieee.single (x / y)) : Ex .quo .f32 a b (x / y) := by
  have hp := p100_big
  obtain ⟨r, h, hz⟩ := div_exact fine_single ha hb hy (by grind) (by grind) hr
  exact ex_mk h hz
theorem dadd_ex (ha : D a x) (hb : D b y) (h1 : -1000000 ≤ x + y) (h2 : x + y ≤ 1000000) (hr : Rep Ieee.double (x + y)) : Ex .add .f64 a b (x + y) := by
  have hp := p100_big
  obtain ⟨r, h, hz⟩ := add_exact fine_double ha hb (by grind) (by grind) hr
  exact ex_mk h hz
theorem dsub_ex (ha : D a x) (hb : D b y) (h1 : -1000000 ≤ x - y) (h2 : x - y ≤ 1000000) (hr : Rep Ieee.double (x - y)) : Ex .sub .f64 a b (x - y) := by
  have hp := p100_big
  obtain ⟨r, h, hz⟩ := sub_exact fine_double ha hb (by grind) (by grind) hr
  exact ex_mk h hz
theorem dmul_ex (ha : D a x) (hb : D b y) (h1 : -1000000 ≤ x * y) (h2 : x * y ≤ 1000000) (hr : Rep Ieee.double (x * y)) : Ex .mul .f64 a b (x * y) := by
  have hp := p100_big
  obtain ⟨r, h, hz⟩ := mul_exact fine_double ha hb (by grind) (by grind) hr
  exact ex_mk h hz
end exact

theorem rep_int (n k : Int) (x : Rat) (h1 : n.natAbs < 16777216) (h2 : -149 ≤ k) (h3 : x = (n : Rat) * p2 k) : Rep Ieee.single x :=
  ⟨n, k, h1, h2, h3⟩
theorem p2_val_neg (n : Nat) : p2 (-(n : Int)) * ((2 ^ n : Nat) : Rat) = 1 := by rw [cast2, ← p2_add, ← p2_zero]; congr 1; omega

/-! conversions -/
/-- a word of single precision, widened -/
def up (a : Nat) : Nat := (floatToFloatBits .f32 a .f64).getD 0
/-- a word of double precision, narrowed -/
def down (a : Nat) : Nat := (floatToFloatBits .f64 a .f32).getD 0

theorem not_inf_of_is {f : Ieee.Format} {w : Nat} {x : Rat} (h : Is f w x) : (f.read w).isInfinity = false := by
  obtain ⟨s, m, e, hr, _⟩ := is_read h
  rw [hr]; rfl

theorem up_ok {a : Nat} {x : Rat} (ha : S a x) (h1 : -1000000 ≤ x) (h2 : x ≤ 1000000) : floatToFloatBits .f32 a .f64 = some (up a) ∧ D (up a) x := by
  obtain ⟨s, m, e, hr, hv⟩ := is_read ha
  have hp := p100_big
  have hw := write_exact fine_double s m e hv (by grind) (by grind) (rep_double (rep_of_is ha))
  have h : floatToFloatBits .f32 a .f64 = some (Ieee.double.write (.number s m e)) := by
    unfold floatToFloatBits FloatKind.decode FloatKind.encode
    have hr' : FloatKind.f32.format.read a = .number s m e := hr
    rw [hr']
    have : (FloatKind.f64.format.read (FloatKind.f64.format.write (.number s m e))).isInfinity = false := not_inf_of_is hw
    simp only [reduceCtorEq, if_false, this, Bool.false_eq_true]
    rfl
  have hu : up a = Ieee.double.write (.number s m e) := by simp [up, h]
  rw [hu]; exact ⟨h, hw⟩

theorem down_ok {a : Nat} {x : Rat} (B : Rat) (ha : D a x) (h1 : -B ≤ x) (h2 : x ≤ B) (hB : B ≤ 1000000) : floatToFloatBits .f64 a .f32 = some (down a) ∧ ∃ z, S (down a) z ∧ x - E * (B + 1 / 1000) ≤ z ∧ z ≤ x + E * (B + 1 / 1000) := by
  obtain ⟨s, m, e, hr, hv⟩ := is_read ha
  have hp := p100_big; have ht := tiny_single; have hE := E_pos
  obtain ⟨z, hw, hn1, hn2⟩ := write_near fine_single s m e hv h1 h2 (by grind)
  have h : floatToFloatBits .f64 a .f32 = some (Ieee.single.write (.number s m e)) := by
    unfold floatToFloatBits FloatKind.decode FloatKind.encode
    have hr' : FloatKind.f64.format.read a = .number s m e := hr
    rw [hr']
    have : (FloatKind.f32.format.read (FloatKind.f32.format.write (.number s m e))).isInfinity = false := not_inf_of_is hw
    simp only [reduceCtorEq, if_false, this, Bool.false_eq_true]
    rfl
  have hu : down a = Ieee.single.write (.number s m e) := by simp [down, h]
  rw [hu]; rw [ulp_single] at hn1 hn2
  exact ⟨h, z, hw, by grind, by grind⟩

theorem down_ex {a : Nat} {x : Rat} (ha : D a x) (h1 : -1000000 ≤ x) (h2 : x ≤ 1000000) (hr : Rep Ieee.single x) : floatToFloatBits .f64 a .f32 = some (down a) ∧ S (down a) x := by
  obtain ⟨s, m, e, hrd, hv⟩ := is_read ha
  have hp := p100_big
  have hw := write_exact fine_single s m e hv (by grind) (by grind) hr
  have h : floatToFloatBits .f64 a .f32 = some (Ieee.single.write (.number s m e)) := by
    unfold floatToFloatBits FloatKind.decode FloatKind.encode
    have hr' : FloatKind.f64.format.read a = .number s m e := hrd
    rw [hr']
    have : (FloatKind.f32.format.read (FloatKind.f32.format.write (.number s m e))).isInfinity = false := not_inf_of_is hw
    simp only [reduceCtorEq, if_false, this, Bool.false_eq_true]
    rfl
  have hu : down a = Ieee.single.write (.number s m e) := by simp [down, h]
  rw [hu]; exact ⟨h, hw⟩

theorem sg_int (n : Int) : sg (decide (n < 0)) * (n.natAbs : Rat) * p2 0 = (n : Rat) := by
  rw [p2_zero]
  have := natAbs_sg n (decide (n < 0)) (Or.inr rfl)
  rw [this]; grind

/-- an integer as a word -/
theorem int_bounds (n : Int) (h : n.natAbs < 16777216) : -p2 100 ≤ (n : Rat) ∧ (n : Rat) ≤ p2 100 := by
  have hp := p100_big
  have h1 : (n : Rat) ≤ ((16777216 : Int) : Rat) := Rat.intCast_le_intCast.2 (by omega)
  have h2 : ((-16777216 : Int) : Rat) ≤ (n : Rat) := Rat.intCast_le_intCast.2 (by omega)
  have e1 : ((16777216 : Int) : Rat) = 16777216 := rfl
  have e2 : ((-16777216 : Int) : Rat) = -16777216 := rfl
  rw [e1] at h1; rw [e2] at h2
  constructor <;> grind
theorem int_ok (n : Int) (h : n.natAbs < 16777216) : S (floatOfInt .f32 n) (n : Rat) := by
  obtain ⟨h1, h2⟩ := int_bounds n h
  exact write_exact fine_single (decide (n < 0)) n.natAbs 0 (sg_int n) h1 h2 ⟨n, 0, h, by decide, by rw [p2_zero]; grind⟩
theorem intd_ok (n : Int) (h : n.natAbs < 16777216) : D (floatOfInt .f64 n) (n : Rat) := by
  obtain ⟨h1, h2⟩ := int_bounds n h
  have h3 : n.natAbs < 2 ^ (Ieee.double.fractionBits + 1) := by
    have e1 : Ieee.double.fractionBits + 1 = 53 := rfl
    have e2 : (2 : Nat) ^ 53 = 9007199254740992 := by decide
    rw [e1, e2]; omega
  exact write_exact fine_double (decide (n < 0)) n.natAbs 0 (sg_int n) h1 h2 ⟨n, 0, h3, by decide, by rw [p2_zero]; grind⟩

/-- a constant -/
theorem is_const {f : Ieee.Format} {w : Nat} {s : Bool} {m : Nat} {e : Int} {x : Rat} (hr : f.read w = .number s m e) (hlt : w < 2 * f.signWeight) (hx : sg s * m * p2 e = x) : Is f w x :=
  ⟨by simp [fin, hr], by simp [val, hr, hx], hlt⟩
theorem s_zero : S 0 0 := is_const (s := false) (m := 0) (e := -149) (by decide +kernel) (by decide) (by decide +kernel)
theorem s_one : S 1065353216 1 := is_const (s := false) (m := 8388608) (e := -23) (by decide +kernel) (by decide) (by decide +kernel)
theorem s_half : S 1056964608 (1 / 2) := is_const (s := false) (m := 8388608) (e := -24) (by decide +kernel) (by decide) (by decide +kernel)
theorem s_two : S 1073741824 2 := is_const (s := false) (m := 8388608) (e := -22) (by decide +kernel) (by decide) (by decide +kernel)
theorem s_four : S 1082130432 4 := is_const (s := false) (m := 8388608) (e := -21) (by decide +kernel) (by decide) (by decide +kernel)
theorem s_six : S 1086324736 6 := is_const (s := false) (m := 12582912) (e := -21) (by decide +kernel) (by decide) (by decide +kernel)
theorem d_zero : D 0 0 := is_const (s := false) (m := 0) (e := -1074) (by decide +kernel) (by decide) (by decide +kernel)

/-- the other sign -/
theorem neg_read {a : Nat} (h : a < 2 * Ieee.single.signWeight) : Ieee.single.read (Op.negFloat .f32 a) = (Ieee.single.read a).opposite ∧ Op.negFloat .f32 a < 2 * Ieee.single.signWeight := by
  have hsw : Ieee.single.signWeight = 2 ^ 31 := rfl
  have e0 : Op.negFloat .f32 a = a ^^^ 2 ^ 31 := rfl
  rw [hsw] at h
  have h1 : (a ^^^ 2 ^ 31) % 2 ^ 31 = a % 2 ^ 31 := by rw [Nat.xor_mod_two_pow, Nat.mod_self, Nat.xor_zero]
  have h2 : (a ^^^ 2 ^ 31) / 2 ^ 31 = (a / 2 ^ 31) ^^^ 1 := by rw [Nat.xor_div_two_pow]
  have h3 : a / 2 ^ 31 = 0 ∨ a / 2 ^ 31 = 1 := by omega
  have hlt : a ^^^ 2 ^ 31 < 2 * 2 ^ 31 := by
    have hq : (a ^^^ 2 ^ 31) / 2 ^ 31 < 2 := by
      rw [h2]; rcases h3 with h | h <;> rw [h] <;> decide
    omega
  rw [e0]
  refine ⟨?_, by rw [hsw]; exact hlt⟩
  unfold Ieee.Format.read
  rw [hsw]
  simp only [h1, h2]
  generalize hr : a % 2 ^ 31 = r
  generalize Ieee.single.binade = bn
  generalize Ieee.single.infRung = ir
  generalize Ieee.single.leastPlace = lp
  rcases h3 with h | h <;> rw [h]
  · by_cases c1 : r < bn
    · simp [c1, Ieee.Datum.opposite]
    · by_cases c2 : r < ir
      · simp [c1, c2, Ieee.Datum.opposite]
      · by_cases c3 : r = ir
        · subst c3; simp [c1, Ieee.Datum.opposite]
        · simp [c1, c2, c3, Ieee.Datum.opposite]
  · by_cases c1 : r < bn
    · simp [c1, Ieee.Datum.opposite]
    · by_cases c2 : r < ir
      · simp [c1, c2, Ieee.Datum.opposite]
      · by_cases c3 : r = ir
        · subst c3; simp [c1, Ieee.Datum.opposite]
        · simp [c1, c2, c3, Ieee.Datum.opposite]
theorem neg_ok {a : Nat} {x : Rat} (ha : S a x) : S (Op.negFloat .f32 a) (-x) := by
  obtain ⟨h1, h2⟩ := neg_read ha.lt
  obtain ⟨s, m, e, hr, hv⟩ := opposite_val (is_read ha)
  exact is_const (by rw [h1]; exact hr) h2 hv

/-! the square root of single precision, by way of double precision -/
def dsqrt (a : Nat) : Nat := (Ieee.double.sqrt a).getD 0
def froot (a : Nat) : Nat := down (dsqrt (up a))
theorem froot_ok {a : Nat} {x : Rat} (ha : S a x) (h0 : 0 ≤ x) (h1 : x ≤ 1000000) :
    floatToFloatBits .f32 a .f64 = some (up a) ∧ Ieee.double.sqrt (up a) = some (dsqrt (up a)) ∧ floatToFloatBits .f64 (dsqrt (up a)) .f32 = some (froot a) ∧
    ∃ v z, S (froot a) z ∧ 0 ≤ v ∧ v * v * (1 - E / 1000) ≤ x ∧ x ≤ v * v * (1 + E / 1000) ∧ v - E * (2 * v + 1 / 500) ≤ z ∧ z ≤ v + E * (2 * v + 1 / 500) := by
  obtain ⟨u1, u2⟩ := up_ok ha (by grind) h1
  have hp := p98_big
  obtain ⟨r, v, z, hr, hz, hv0, hv1, hv2, hn1, hn2⟩ := sqrt_near fine_double u2 h0 (by grind)
  have hd : dsqrt (up a) = r := by simp [dsqrt, hr]
  have hE := E_pos
  have hEv := E_val
  have hE10 : E ≤ 1 / 10 := by rw [E_val]; decide +kernel
  have hud := ulp_double
  have htd := tiny_double
  have hup := ulp_pos Ieee.double
  have hvv := Rat.mul_nonneg hv0 hv0
  have m1 := Rat.mul_le_mul_of_nonneg_left hud hvv
  have m2 := Rat.mul_le_mul_of_nonneg_right hud hv0
  have m3 := Rat.mul_nonneg hv0 (Rat.le_of_lt hE)
  have m4 := Rat.mul_nonneg hvv (Rat.le_of_lt hE)
  have a1 : v * v * (1 - E / 1000) ≤ x := by grind
  have a2 : x ≤ v * v * (1 + E / 1000) := by grind
  -- v is not great
  have hv3 : v ≤ 2000 := by
    by_cases hc : v ≤ 2000
    · exact hc
    · exfalso
      have h3 : 2000 ≤ v := by grind
      have h4 := Rat.mul_le_mul_of_nonneg_left h3 hv0
      have h5 : v * v * E ≤ v * v * (1 / 10) := Rat.mul_le_mul_of_nonneg_left hE10 hvv
      grind
  have m5 : v * E ≤ v * (1 / 10) := Rat.mul_le_mul_of_nonneg_left hE10 hv0
  have z1 : -(2 * v + 1 / 10000) ≤ z := by grind
  have z2 : z ≤ v + v * E * (1 / 100000) + E * (1 / 100000) := by grind
  have z3 : z ≤ v + v * (1 / 100) + 1 / 10000 := by
    grind
  obtain ⟨d1, y, hy, y1, y2⟩ := down_ok (v + v * (1 / 100) + 1 / 10000) hz (by grind) z3 (by grind)
  refine ⟨u1, by rw [hd]; exact hr, by rw [hd]; unfold froot; rw [hd]; exact d1, v, y, by unfold froot; rw [hd]; exact hy, hv0, a1, a2, ?_, ?_⟩
  · grind
  · grind
end Fl
