/- The numbers of the law itself. -/
import Derived.Test.YtpkcbofeoklpbaaW3
import Derived.Test.YtpkcbofeoklpbaaSpeed
import Derived.Test.YtpkcbofeoklpbaaJerk3
namespace Go.Proofs.Ytpkcbofeoklpbaa
open Go.RowKit Fl

abbrev dMilli : Nat := 4562254508917369340
abbrev dCenti : Nat := 4576918229304087675
abbrev dOne : Nat := 4607182418800017408
abbrev dFifty : Nat := 4581421828931458171
abbrev dTwo : Nat := 4611686018427387904
theorem d_milli : D dMilli (4611686018427388 / 4611686018427387904) := is_const (s := false) (m := 4611686018427388) (e := -62) (by decide +kernel) (by decide) (by decide +kernel)
theorem d_centi : D dCenti (5764607523034235 / 576460752303423488) := is_const (s := false) (m := 5764607523034235) (e := -59) (by decide +kernel) (by decide) (by decide +kernel)
theorem d_fifty : D dFifty (5764607523034235 / 288230376151711744) := is_const (s := false) (m := 5764607523034235) (e := -58) (by decide +kernel) (by decide) (by decide +kernel)
theorem d_one : D dOne 1 := is_const (s := false) (m := 4503599627370496) (e := -52) (by decide +kernel) (by decide) (by decide +kernel)
theorem d_two : D dTwo 2 := is_const (s := false) (m := 4503599627370496) (e := -51) (by decide +kernel) (by decide) (by decide +kernel)
theorem s_twelve : S 1094713344 12 := is_const (s := false) (m := 12582912) (e := -20) (by decide +kernel) (by decide) (by decide +kernel)
theorem s_five : S 1084227584 5 := is_const (s := false) (m := 10485760) (e := -21) (by decide +kernel) (by decide) (by decide +kernel)

def qW (n : Nat) : Nat := fdiv (floatOfInt .f32 (n : Int)) 1082130432
def hW (n : Nat) : Nat := fdiv (floatOfInt .f32 (n : Int)) 1073741824
theorem cast_int (n : Nat) : (((n : Nat) : Int) : Rat) = (n : Rat) := by exact_mod_cast rfl
theorem q_ok (n : Nat) (h : n ≤ 32) : floatBits .quo .f32 (floatOfInt .f32 (n : Int)) 1082130432 = some (qW n) ∧ S (qW n) ((n : Rat) / 4) := by
  have hi := int_ok (n : Int) (by omega)
  rw [cast_int] at hi
  have hn : (n : Rat) ≤ ((32 : Nat) : Rat) := by exact_mod_cast h
  have e32 : ((32 : Nat) : Rat) = 32 := rfl
  have hn0 : (0 : Rat) ≤ (n : Rat) := by exact_mod_cast Nat.zero_le n
  have e := fdiv_ex hi s_four (by decide) (by grind) (by grind) (rep_int (n : Int) (-2) _ (by omega) (by omega) (by
    rw [cast_int]
    have : p2 (-2) = 1 / 4 := by decide +kernel
    rw [this]; grind))
  exact ⟨e.ok, e.is⟩
theorem h_ok (n : Nat) (h : n ≤ 32) : floatBits .quo .f32 (floatOfInt .f32 (n : Int)) 1073741824 = some (hW n) ∧ S (hW n) ((n : Rat) / 2) := by
  have hi := int_ok (n : Int) (by omega)
  rw [cast_int] at hi
  have hn : (n : Rat) ≤ ((32 : Nat) : Rat) := by exact_mod_cast h
  have e32 : ((32 : Nat) : Rat) = 32 := rfl
  have hn0 : (0 : Rat) ≤ (n : Rat) := by exact_mod_cast Nat.zero_le n
  have e := fdiv_ex hi s_two (by decide) (by grind) (by grind) (rep_int (n : Int) (-1) _ (by omega) (by omega) (by
    rw [cast_int]
    have : p2 (-1) = 1 / 2 := by decide +kernel
    rw [this]; grind))
  exact ⟨e.ok, e.is⟩

/-! the least time, in doubles -/
def leastW (lw : Nat → Nat) (m : Nat) : Nat → Nat
  | 0 => 0
  | k + 1 => dadd (leastW lw m k) (ddiv (up (lw k)) (up m))
structure LeastOk (lw : Nat → Nat) (m k : Nat) : Prop where
  u : floatToFloatBits .f32 (lw k) .f64 = some (up (lw k))
  um : floatToFloatBits .f32 m .f64 = some (up m)
  d : floatBits .quo .f64 (up (lw k)) (up m) = some (ddiv (up (lw k)) (up m))
  s : floatBits .add .f64 (leastW lw m k) (ddiv (up (lw k)) (up m)) = some (leastW lw m (k + 1))
theorem least_near {n : Nat} {m : Nat} {M : Rat} {lw : Nat → Nat} {L : Nat → Rat} (hp : Pcs n lw L) (hm : S m M) (m0 : 1 / 2 ≤ M) (m4 : M ≤ 4) (hn7 : n ≤ 7) (i : Nat) (hi : i ≤ n) :
    (∀ k, k < i → LeastOk lw m k) ∧ ∃ s, D (leastW lw m i) s ∧ s - leastR L M i ≤ E * i ∧ leastR L M i - s ≤ E * i ∧ 0 ≤ leastR L M i ∧ leastR L M i ≤ 8 * i := by
  induction i with
  | zero =>
    refine ⟨fun k hk => absurd hk (Nat.not_lt_zero k), 0, d_zero, ?_, ?_, ?_, ?_⟩ <;> (have e : ((0 : Nat) : Rat) = 0 := rfl; rw [show leastR L M 0 = 0 from rfl]; try rw [e]) <;> grind
  | succ i ih =>
    obtain ⟨h1, s, hs, s1, s2, s3, s4⟩ := ih (by omega)
    have hE := E_pos
    have hE1 : E ≤ 1 / 1000000 := by rw [E_val]; decide +kernel
    have hir : (i : Rat) ≤ 6 := by
      have : ((i : Nat) : Rat) ≤ ((6 : Nat) : Rat) := by exact_mod_cast (by omega : i ≤ 6)
      exact this
    have hi0 : (0 : Rat) ≤ (i : Rat) := by exact_mod_cast Nat.zero_le i
    have ei : ((i + 1 : Nat) : Rat) = (i : Rat) + 1 := by simp
    have hl := hp.s i (by omega)
    have l0 := hp.lo i (by omega)
    have l4 := hp.hi i (by omega)
    obtain ⟨u1, u2⟩ := up_ok hl (by grind) (by grind)
    obtain ⟨v1, v2⟩ := up_ok hm (by grind) (by grind)
    have hq : 0 ≤ L i / M ∧ L i / M ≤ 8 := by
      have hM0 : M ≠ 0 := by grind
      have hi0 : 0 < M⁻¹ := Rat.inv_pos.2 (by grind)
      have hi2 : M⁻¹ ≤ 2 := by
        have hji : M * M⁻¹ = 1 := Rat.mul_inv_cancel _ hM0
        have := Rat.mul_le_mul_of_nonneg_right m0 (Rat.le_of_lt hi0)
        grind
      have := mm (by grind : 0 ≤ L i) l4 (Rat.le_of_lt hi0) hi2
      rw [Rat.div_def]
      constructor <;> grind
    have d := ddiv_ok 8 u2 v2 (by grind) (by grind) (by grind) (by grind)
    obtain ⟨t, ht, t1, t2⟩ := d.near
    have ht' : D (ddiv (up (lw i)) (up m)) t := ht
    generalize hqq : L i / M = q at *
    have hEi := Rat.mul_le_mul_of_nonneg_left hir (Rat.le_of_lt hE)
    have b0 : 0 ≤ E * (i : Rat) := Rat.mul_nonneg (Rat.le_of_lt hE) hi0
    have b1 : E * (i : Rat) ≤ 1 / 1000 := Rat.le_trans hEi (by rw [E_val]; decide +kernel)
    have b2 : -1 ≤ s ∧ s ≤ 49 := by constructor <;> grind
    have b3 : -1 ≤ t ∧ t ≤ 9 := by constructor <;> grind
    have a := dadd_ok 60 hs ht' (by grind) (by grind) (by grind)
    obtain ⟨z, hz, z1, z2⟩ := a.near
    refine ⟨fun k hk => ?_, z, hz, ?_, ?_, ?_, ?_⟩
    · by_cases e : k = i
      · subst e; exact ⟨u1, v1, d.ok, a.ok⟩
      · exact h1 k (by omega)
    all_goals (try rw [ei])
    all_goals rw [show leastR L M (i + 1) = leastR L M i + L i / M from rfl, hqq]
    all_goals grind

theorem dlt_f {a b : Nat} {x y : Rat} (ha : D a x) (hb : D b y) (h : ¬ x < y) : (FloatKind.f64.format.order a b == some .lt) = false := by
  have := lss_is ha hb
  rw [show FloatKind.f64.format = Ieee.double from rfl, this]; simp [h]
theorem dlt_t {a b : Nat} {x y : Rat} (ha : D a x) (hb : D b y) (h : x < y) : (FloatKind.f64.format.order a b == some .lt) = true := by
  have := lss_is ha hb
  rw [show FloatKind.f64.format = Ieee.double from rfl, this]; simp [h]
theorem dgt_f {a b : Nat} {x y : Rat} (ha : D a x) (hb : D b y) (h : ¬ y < x) : (FloatKind.f64.format.order a b == some .gt) = false := by
  have := gtr_is ha hb
  rw [show FloatKind.f64.format = Ieee.double from rfl, this]; simp [h]

/-- the gap of two numbers -/
theorem gap_near {a b : Nat} {x y : Rat} (ha : D a x) (hb : D b y) (B : Rat) (hB : B ≤ 1000000) (h1 : -B ≤ x - y) (h2 : x - y ≤ B) :
    ∃ d z, (if x < y then floatBits .sub .f64 b a = some d else floatBits .sub .f64 a b = some d) ∧ D d z ∧ (z ≤ x - y + E * ((B + 1) / 100000) ∨ z ≤ y - x + E * ((B + 1) / 100000)) := by
  by_cases h : x < y
  · have g := dsub_ok B hb ha (by grind) (by grind) hB
    obtain ⟨z, hz, z1, z2⟩ := g.near
    exact ⟨_, z, by rw [if_pos h]; exact g.ok, hz, .inr z2⟩
  · have g := dsub_ok B ha hb (by grind) (by grind) hB
    obtain ⟨z, hz, z1, z2⟩ := g.near
    exact ⟨_, z, by rw [if_neg h]; exact g.ok, hz, .inl z2⟩

/-- what the law asks of one piece -/
structure PieceOk (V lw : Nat → Nat) (m r k : Nat) : Prop where
  u0 : floatToFloatBits .f32 (V k) .f64 = some (up (V k))
  u1 : floatToFloatBits .f32 (V (k + 1)) .f64 = some (up (V (k + 1)))
  ur : floatToFloatBits .f32 r .f64 = some (up r)
  lt0 : (FloatKind.f64.format.order (up (V k)) 0 == some .lt) = false
  am : floatBits .add .f64 (up m) dMilli = some (dadd (up m) dMilli)
  gt : (FloatKind.f64.format.order (up (V k)) (dadd (up m) dMilli) == some .gt) = false
  bb : floatBits .mul .f64 (up (V (k + 1))) (up (V (k + 1))) = some (dmul (up (V (k + 1))) (up (V (k + 1))))
  aa : floatBits .mul .f64 (up (V k)) (up (V k)) = some (dmul (up (V k)) (up (V k)))
  r2 : floatBits .mul .f64 dTwo (up r) = some (dmul dTwo (up r))
  rl : floatBits .mul .f64 (dmul dTwo (up r)) (up (lw k)) = some (dmul (dmul dTwo (up r)) (up (lw k)))
  rc : floatBits .add .f64 (dmul (dmul dTwo (up r)) (up (lw k))) dCenti = some (dadd (dmul (dmul dTwo (up r)) (up (lw k))) dCenti)
  gap : ∃ x y d, D (dmul (up (V (k + 1))) (up (V (k + 1)))) x ∧ D (dmul (up (V k)) (up (V k))) y ∧
    (if x < y then floatBits .sub .f64 (dmul (up (V k)) (up (V k))) (dmul (up (V (k + 1))) (up (V (k + 1)))) = some d else floatBits .sub .f64 (dmul (up (V (k + 1))) (up (V (k + 1)))) (dmul (up (V k)) (up (V k))) = some d) ∧
    (FloatKind.f64.format.order d (dadd (dmul (dmul dTwo (up r)) (up (lw k))) dCenti) == some .gt) = false

theorem piece_near {n : Nat} {m r : Nat} {M K : Rat} {V lw : Nat → Nat} {v L : Nat → Rat} (h : Spd n M V v) (hp : Pcs n lw L) (hm : S m M) (hk : S r K) (m0 : 1 / 2 ≤ M) (m4 : M ≤ 4) (k0 : 1 / 2 ≤ K) (k4 : K ≤ 4) (k : Nat) (hkn : k < n)
    (hB : v (k + 1) * v (k + 1) ≤ v k * v k + 2 * K * L k + E * 400) (hA : v k * v k ≤ v (k + 1) * v (k + 1) + 2 * K * L k + E * 400) : PieceOk V lw m r k := by
  have hE := E_pos
  have hE1 : E ≤ 1 / 1000000 := by rw [E_val]; decide +kernel
  have hE2 : E * 500 ≤ 1 / 10000 := by rw [E_val]; decide +kernel
  have s0 := h.s k (by omega)
  have s1 := h.s (k + 1) (by omega)
  have l0 := h.lo k (by omega)
  have l1 := h.lo (k + 1) (by omega)
  have t0 := h.hi k (by omega)
  have t1 := h.hi (k + 1) (by omega)
  have sl := hp.s k hkn
  have ll := hp.lo k hkn
  have lh := hp.hi k hkn
  clear h hp
  generalize v k = y at *
  generalize v (k + 1) = x at *
  generalize L k = l at *
  obtain ⟨u0, d0⟩ := up_ok s0 (by grind) (by grind)
  obtain ⟨u1, d1⟩ := up_ok s1 (by grind) (by grind)
  obtain ⟨um, dm⟩ := up_ok hm (by grind) (by grind)
  obtain ⟨ur, dr⟩ := up_ok hk (by grind) (by grind)
  obtain ⟨ul, dl⟩ := up_ok sl (by grind) (by grind)
  have a1 := dadd_ok 5 dm d_milli (by grind) (by grind) (by grind)
  obtain ⟨p, hp, p1, p2⟩ := a1.near
  have hx := mm l1 (by grind : x ≤ 4) l1 (by grind : x ≤ 4)
  have hy := mm l0 (by grind : y ≤ 4) l0 (by grind : y ≤ 4)
  have hkl := mm (by grind : 0 ≤ K) k4 (by grind : 0 ≤ l) lh
  have b1 := dmul_ok 16 d1 d1 (by grind) (by grind) (by grind)
  obtain ⟨xx, hxx, x1, x2⟩ := b1.near
  have b2 := dmul_ok 16 d0 d0 (by grind) (by grind) (by grind)
  obtain ⟨yy, hyy, y1, y2⟩ := b2.near
  have c1 := dmul_ok 8 d_two dr (by grind) (by grind) (by grind)
  obtain ⟨q, hq, q1, q2⟩ := c1.near
  have hq' : D (dmul dTwo (up r)) q := hq
  have hql : 2 * (K * l) - E * (1 / 1000) ≤ q * l ∧ q * l ≤ 2 * (K * l) + E * (1 / 1000) := by
    have w1 := Rat.mul_le_mul_of_nonneg_right (by grind : q - 2 * K ≤ E * ((8 + 1) / 100000)) (by grind : 0 ≤ l)
    have w2 := Rat.mul_le_mul_of_nonneg_right (by grind : 2 * K - q ≤ E * ((8 + 1) / 100000)) (by grind : 0 ≤ l)
    have w3 := Rat.mul_le_mul_of_nonneg_left lh (by grind : 0 ≤ E * ((8 + 1) / 100000))
    constructor <;> grind
  have c2 := dmul_ok 33 hq' dl (by grind) (by grind) (by grind)
  obtain ⟨t, ht, t1, t2⟩ := c2.near
  have ht' : D (dmul (dmul dTwo (up r)) (up (lw k))) t := ht
  have c3 := dadd_ok 34 ht' d_centi (by grind) (by grind) (by grind)
  obtain ⟨u, hu, u1', u2'⟩ := c3.near
  have hxx' : D (dmul (up (V (k + 1))) (up (V (k + 1)))) xx := hxx
  have hyy' : D (dmul (up (V k)) (up (V k))) yy := hyy
  obtain ⟨d, z, e1, e2, e3⟩ := gap_near hxx' hyy' 20 (by grind) (by grind) (by grind)
  refine ⟨u0, u1, ur, dlt_f d0 d_zero (by grind), a1.ok, dgt_f d0 hp (by grind), b1.ok, b2.ok, c1.ok, c2.ok, c3.ok, xx, yy, d, hxx', hyy', e1, dgt_f e2 hu ?_⟩
  have f1 : 2 * K * l = 2 * (K * l) := by grind
  rcases e3 with e3 | e3 <;> grind
end Go.Proofs.Ytpkcbofeoklpbaa
