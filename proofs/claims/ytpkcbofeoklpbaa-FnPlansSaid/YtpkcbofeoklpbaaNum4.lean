/- Looks at a plan: at thirteen times, and late. -/
import Derived.Test.YtpkcbofeoklpbaaNum3
namespace Go.Proofs.Ytpkcbofeoklpbaa
open Go.RowKit Fl

def tW (tau k : Nat) : Nat := fdiv (fmul tau (floatOfInt .f32 (k : Int))) 1094713344
def xW (j r h c t : Nat) : Nat := (pst j r h c t 7).x
def before (j r h c tau : Nat) : Nat → Nat
  | 0 => 0
  | k + 1 => xW j r h c (tW tau k)

theorem t_near {tau : Nat} {tv : Rat} (ht : S tau tv) (t0 : 1 / 20 ≤ tv) (t46 : tv ≤ 46) (k : Nat) (hk : k ≤ 12) :
    floatBits .mul .f32 tau (floatOfInt .f32 (k : Int)) = some (fmul tau (floatOfInt .f32 (k : Int))) ∧ floatBits .quo .f32 (fmul tau (floatOfInt .f32 (k : Int))) 1094713344 = some (tW tau k) ∧
    ∃ z, S (tW tau k) z ∧ 0 ≤ z ∧ z - tv * k / 12 ≤ E * 190 ∧ tv * k / 12 - z ≤ E * 190 := by
  have hE := E_pos
  have hE1 : E * 200 ≤ 1 / 50000 := by rw [E_val]; decide +kernel
  have hE2 : E * 600 ≤ 1 / 10000 := by rw [E_val]; decide +kernel
  have hi := int_ok (k : Int) (by omega)
  rw [cast_int] at hi
  have hk0 : (0 : Rat) ≤ (k : Rat) := by exact_mod_cast Nat.zero_le k
  have hk12 : (k : Rat) ≤ 12 := by
    have : ((k : Nat) : Rat) ≤ ((12 : Nat) : Rat) := by exact_mod_cast hk
    exact this
  generalize (k : Rat) = kk at *
  have hp := mm (by grind : 0 ≤ tv) t46 hk0 hk12
  have m := fmul_ok 552 ht hi (by grind) (by grind) (by grind)
  obtain ⟨y, hy, y1, y2⟩ := m.near
  have hy' : S (fmul tau (floatOfInt .f32 (k : Int))) y := hy
  have y0 := fmul_nonneg ht hi hp.1 (by grind) hy'
  have ed : y / 12 = y * (1 / 12) := by grind
  have d := fdiv_ok 47 hy' s_twelve (by decide) (by grind) (by grind) (by grind)
  obtain ⟨z, hz, z1, z2⟩ := d.near
  have hz' : S (tW tau k) z := hz
  have z0 := fdiv_nonneg hy' s_twelve (by decide) y0 (by grind) hz'
  exact ⟨m.ok, d.ok, z, hz', z0, by grind, by grind⟩

theorem pos_nonneg {J R H C tv X : Rat} (p : Par J R H C) (h : Pos J R H C tv X) : 0 ≤ X := by
  have c7 := xs_chain p 0 7 (by omega)
  have e0 : Xs J R H C 0 = 0 := rfl
  rcases h with ⟨h, _⟩ | ⟨i, s, hi, s0, s1, _, _, rfl⟩
  · rw [h]; have := c7.1; simp only [Nat.zero_add] at this; grind
  · have c := (xs_chain p 0 i (by omega)).1
    have m := (inc_mono p i hi Rat.le_refl s0 (by grind)).1
    rw [inc_zero] at m
    simp only [Nat.zero_add] at c
    grind

/-- one look -/
structure LookOk (j r h c l tau k : Nat) : Prop where
  m : floatBits .mul .f32 tau (floatOfInt .f32 (k : Int)) = some (fmul tau (floatOfInt .f32 (k : Int)))
  d : floatBits .quo .f32 (fmul tau (floatOfInt .f32 (k : Int))) 1094713344 = some (tW tau k)
  t : ∃ z, S (tW tau k) z ∧ 0 ≤ z
  f : ∀ i, i < 7 → Fine7 j r h c (tW tau k) i
  x : ∃ z, S (xW j r h c (tW tau k)) z
  ux : floatToFloatBits .f32 (xW j r h c (tW tau k)) .f64 = some (up (xW j r h c (tW tau k)))
  ub : floatToFloatBits .f32 (before j r h c tau k) .f64 = some (up (before j r h c tau k))
  ul : floatToFloatBits .f32 l .f64 = some (up l)
  ol : floatBits .add .f64 dOne (up l) = some (dadd dOne (up l))
  ml : floatBits .mul .f64 dMilli (dadd dOne (up l)) = some (dmul dMilli (dadd dOne (up l)))
  sb : floatBits .sub .f64 (up (before j r h c tau k)) (dmul dMilli (dadd dOne (up l))) = some (dsub (up (before j r h c tau k)) (dmul dMilli (dadd dOne (up l))))
  lt : (FloatKind.f64.format.order (up (xW j r h c (tW tau k))) (dsub (up (before j r h c tau k)) (dmul dMilli (dadd dOne (up l)))) == some .lt) = false

theorem look_near {j r h c : Nat} {J K M L R H C al : Rat} {tau : Nat} {tv : Rat} (pl : Plan j r h c J K M L R H C al) (ht : S tau tv) (t0 : 1 / 20 ≤ tv) (t46 : tv ≤ 46) (k : Nat) (hk : k ≤ 12) :
    (∀ i, i < 7 → Fine7 j r h c (tW tau k) i) ∧ ∃ y z X, S (tW tau k) y ∧ 0 ≤ y ∧ y - tv * k / 12 ≤ E * 190 ∧ tv * k / 12 - y ≤ E * 190 ∧ S (xW j r h c (tW tau k)) z ∧ X - E * 8600 ≤ z ∧ z ≤ X + E * 8600 ∧ Pos J R H C y X := by
  obtain ⟨_, _, y, hy, y0, y1, y2⟩ := t_near ht t0 t46 k hk
  have hE1 : E * 200 ≤ 1 / 50000 := by rw [E_val]; decide +kernel
  have hE := E_pos
  have hk0 : (0 : Rat) ≤ (k : Rat) := by exact_mod_cast Nat.zero_le k
  have hk12 : (k : Rat) ≤ 12 := by
    have : ((k : Nat) : Rat) ≤ ((12 : Nat) : Rat) := by exact_mod_cast hk
    exact this
  have hp := mm (by grind : 0 ≤ tv) t46 hk0 hk12
  have y59 : y ≤ 59 := by generalize (k : Rat) = kk at *; grind
  obtain ⟨f, z, X, hz, z1, z2, hpos⟩ := way pl.p pl.w pl.al0 pl.al1 hy y0 y59
  exact ⟨f, y, z, X, hy, y0, y1, y2, hz, z1, z2, hpos⟩

theorem milli_near {l : Nat} {L : Rat} (hl : S l L) (l0 : 1 / 4 ≤ L) (l8 : L ≤ 8) :
    floatToFloatBits .f32 l .f64 = some (up l) ∧ D (up l) L ∧ floatBits .add .f64 dOne (up l) = some (dadd dOne (up l)) ∧ ∃ o, D (dadd dOne (up l)) o ∧ 1 + L - E * (1 / 1000) ≤ o ∧ o ≤ 1 + L + E * (1 / 1000) := by
  have hE := E_pos
  obtain ⟨u1, u2⟩ := up_ok hl (by grind) (by grind)
  have a := dadd_ok 9 d_one u2 (by grind) (by grind) (by grind)
  obtain ⟨o, ho, o1, o2⟩ := a.near
  exact ⟨u1, u2, a.ok, o, ho, by grind, by grind⟩

theorem look_ok {j r h c l : Nat} {J K M L R H C al : Rat} {tau : Nat} {tv : Rat} (pl : Plan j r h c J K M L R H C al) (hl : S l L) (l0 : 1 / 4 ≤ L) (l8 : L ≤ 8) (ht : S tau tv) (t0 : 1 / 20 ≤ tv) (t46 : tv ≤ 46) (k : Nat) (hk : k ≤ 12) :
    LookOk j r h c l tau k := by
  have hE := E_pos
  have hE1 : E * 17200 ≤ 1 / 1000 * (105 / 100) := by rw [E_val]; decide +kernel
  have hE2 : E * 1400 ≤ 1 / 10000 := by rw [E_val]; decide +kernel
  obtain ⟨m1, m2, _⟩ := t_near ht t0 t46 k hk
  obtain ⟨f, y, z, X, hy, y0, y1, y2, hz, z1, z2, hpos⟩ := look_near pl ht t0 t46 k hk
  have hX := pos_le pl.p hpos
  have hX0 := pos_nonneg pl.p hpos
  have hw1 := pl.w1
  -- the look ahead of it
  obtain ⟨b, hb, b1, b2⟩ : ∃ b, S (before j r h c tau k) b ∧ b ≤ X + E * 8600 ∧ -(1 / 100) ≤ b := by
    cases k with
    | zero => exact ⟨0, s_zero, by grind, by grind⟩
    | succ k =>
      obtain ⟨_, y', z', X', hy', y0', y1', y2', hz', z1', z2', hpos'⟩ := look_near pl ht t0 t46 k (by omega)
      have hX0' := pos_nonneg pl.p hpos'
      have ek : ((k + 1 : Nat) : Rat) = (k : Rat) + 1 := by simp
      rw [ek] at y1 y2
      have hg : y' + E * 1001 ≤ y := by
        generalize (k : Rat) = kk at *
        have e1 : tv * (kk + 1) / 12 = tv * kk / 12 + tv / 12 := by grind
        grind
      have := pos_mono pl.p hpos' hpos hg
      exact ⟨z', hz', by grind, by grind⟩
  obtain ⟨u1, u2, u3, o, ho, o1, o2⟩ := milli_near hl l0 l8
  obtain ⟨ux, dx⟩ := up_ok hz (by grind) (by grind)
  obtain ⟨ub, db⟩ := up_ok hb (by grind) (by grind)
  have ml := dmul_ok 1 d_milli ho (by grind) (by grind) (by grind)
  obtain ⟨w, hw, w1, w2⟩ := ml.near
  have hw' : D (dmul dMilli (dadd dOne (up l))) w := hw
  have sb := dsub_ok 20 db hw' (by grind) (by grind) (by grind)
  obtain ⟨v, hv, v1, v2⟩ := sb.near
  exact ⟨m1, m2, ⟨y, hy, y0⟩, f, ⟨z, hz⟩, ux, ub, u1, u3, ml.ok, sb.ok, dlt_f dx hv (by grind)⟩

/-- the end: where the plan ends, and five seconds later -/
structure EndOk (j r h c l tau : Nat) : Prop where
  a : floatBits .add .f32 tau 1084227584 = some (fadd tau 1084227584)
  t : ∃ z, S (fadd tau 1084227584) z ∧ 0 ≤ z
  f : ∀ i, i < 7 → Fine7 j r h c (fadd tau 1084227584) i
  x : ∃ z, S (xW j r h c (fadd tau 1084227584)) z
  ux : floatToFloatBits .f32 (xW j r h c (fadd tau 1084227584)) .f64 = some (up (xW j r h c (fadd tau 1084227584)))
  ub : floatToFloatBits .f32 (xW j r h c (tW tau 12)) .f64 = some (up (xW j r h c (tW tau 12)))
  ul : floatToFloatBits .f32 l .f64 = some (up l)
  ol : floatBits .add .f64 dOne (up l) = some (dadd dOne (up l))
  ml : floatBits .mul .f64 dFifty (dadd dOne (up l)) = some (dmul dFifty (dadd dOne (up l)))
  g1 : ∃ x y d, D (up (xW j r h c (tW tau 12))) x ∧ D (up l) y ∧
    (if x < y then floatBits .sub .f64 (up l) (up (xW j r h c (tW tau 12))) = some d else floatBits .sub .f64 (up (xW j r h c (tW tau 12))) (up l) = some d) ∧ (FloatKind.f64.format.order d (dmul dFifty (dadd dOne (up l))) == some .lt) = true
  g2 : ∃ x y d, D (up (xW j r h c (fadd tau 1084227584))) x ∧ D (up (xW j r h c (tW tau 12))) y ∧
    (if x < y then floatBits .sub .f64 (up (xW j r h c (tW tau 12))) (up (xW j r h c (fadd tau 1084227584))) = some d else floatBits .sub .f64 (up (xW j r h c (fadd tau 1084227584))) (up (xW j r h c (tW tau 12))) = some d) ∧ (FloatKind.f64.format.order d (dmul dFifty (dadd dOne (up l))) == some .lt) = true

theorem end_ok {j r h c l : Nat} {J K M L R H C al : Rat} {tau : Nat} {tv : Rat} (pl : Plan j r h c J K M L R H C al) (hl : S l L) (l0 : 1 / 4 ≤ L) (l8 : L ≤ 8) (ht : S tau tv) (t0 : 1 / 20 ≤ tv) (t46 : tv ≤ 46) (tT : tv - (4 * R + 2 * H + C) ≤ E * 110) (Tt : 4 * R + 2 * H + C - tv ≤ E * 110) :
    EndOk j r h c l tau := by
  have hE := E_pos
  have hE1 : E * 17200 ≤ 1 / 1000 * (105 / 100) := by rw [E_val]; decide +kernel
  have hE2 : E * 1400 ≤ 1 / 10000 := by rw [E_val]; decide +kernel
  have hd7 := dsum7 R H C
  obtain ⟨_, y, z, X, hy, y0, y1, y2, hz, z1, z2, hpos⟩ := look_near pl ht t0 t46 12 (Nat.le_refl 12)
  have e12 : ((12 : Nat) : Rat) = 12 := rfl
  rw [e12] at y1 y2
  have hX := pos_le pl.p hpos
  have hE' := pos_end pl.p hpos (d := E * 310) (by grind) (by grind)
  have a := fadd_ok 52 ht s_five (by grind) (by grind) (by grind)
  obtain ⟨q, hq, q1, q2⟩ := a.near
  have hq' : S (fadd tau 1084227584) q := hq
  obtain ⟨f, z', X', hz', z1', z2', hpos'⟩ := way pl.p pl.w pl.al0 pl.al1 hq' (by grind) (by grind)
  have hX' := pos_le pl.p hpos'
  have hE'' := pos_end pl.p hpos' (d := 0) (by grind) (by grind)
  have hw0 := pl.w0
  have hw1 := pl.w1
  have sz' : S (xW j r h c (fadd tau 1084227584)) z' := hz'
  obtain ⟨u1, u2, u3, o, ho, o1, o2⟩ := milli_near hl l0 l8
  obtain ⟨ux, dx⟩ := up_ok sz' (by grind) (by grind)
  obtain ⟨ub, db⟩ := up_ok hz (by grind) (by grind)
  have ml := dmul_ok 1 d_fifty ho (by grind) (by grind) (by grind)
  obtain ⟨w, hw, w1, w2⟩ := ml.near
  have hw' : D (dmul dFifty (dadd dOne (up l))) w := hw
  obtain ⟨d1, v1, g1, g2, g3⟩ := gap_near db u2 1 (by grind) (by grind) (by grind)
  obtain ⟨d2, v2, k1, k2, k3⟩ := gap_near dx db 1 (by grind) (by grind) (by grind)
  refine ⟨a.ok, ⟨q, hq', by grind⟩, f, ⟨z', sz'⟩, ux, ub, u1, u3, ml.ok, ⟨_, _, d1, db, u2, g1, dlt_t g2 hw' ?_⟩, ⟨_, _, d2, dx, db, k1, dlt_t k2 hw' ?_⟩⟩
  · rcases g3 with g3 | g3 <;> grind
  · rcases k3 with k3 | k3 <;> grind
end Go.Proofs.Ytpkcbofeoklpbaa
