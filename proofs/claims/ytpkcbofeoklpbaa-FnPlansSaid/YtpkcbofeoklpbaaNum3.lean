/- The numbers of the plan. -/
import Derived.Test.YtpkcbofeoklpbaaNum2
import Derived.Test.YtpkcbofeoklpbaaWay4
namespace Go.Proofs.Ytpkcbofeoklpbaa
open Go.RowKit Fl

theorem dsum7 (R H C : Rat) : Dsum R H C 7 = 4 * R + 2 * H + C := by simp only [Dsum, Ds]; grind

theorem total_near {j r h c : Nat} {J K M L R H C al : Rat} (pl : Plan j r h c J K M L R H C al) (l0 : 1 / 4 ≤ L) :
    TimeOk r h c ∧ ∃ tau, S (timeW r h c) tau ∧ tau - (4 * R + 2 * H + C) ≤ E * 110 ∧ 4 * R + 2 * H + C - tau ≤ E * 110 ∧ 1 / 20 ≤ tau ∧ tau ≤ 46 := by
  have hE := E_pos
  have hE1 : E * 200 ≤ 1 / 1000 := by rw [E_val]; decide +kernel
  have sr := pl.w.sr
  have sh := pl.w.sh
  have sc := pl.w.sc
  have r0 := pl.r0
  have r3 := pl.p.r3
  have h0 := pl.p.h0
  have h8 := pl.p.h8
  have c0 := pl.p.c0
  have c17 := pl.p.c17
  have hlong : 6 / 100 ≤ 4 * R + 2 * H + C := by
    have w0 := pl.w0
    rw [xs7] at w0
    have pp := pl.p.p
    have j0 := pl.p.j0
    have p0 : 0 ≤ J * R * (R + H) := Rat.mul_nonneg (Rat.mul_nonneg j0 (by grind)) (by grind)
    generalize J * R * (R + H) = P at *
    have w := Rat.mul_le_mul_of_nonneg_right pp (by grind : 0 ≤ 2 * R + H + C)
    grind
  clear pl
  have m1 := fmul_ok 12 s_four sr (by grind) (by grind) (by grind)
  obtain ⟨x, hx, x1, x2⟩ := m1.near
  have m2 := fmul_ok 16 s_two sh (by grind) (by grind) (by grind)
  obtain ⟨y, hy, y1, y2⟩ := m2.near
  have hx' : S (fmul wFour r) x := hx
  have hy' : S (fmul wTwo h) y := hy
  have a1 := fadd_ok 29 hx' hy' (by grind) (by grind) (by grind)
  obtain ⟨z, hz, z1, z2⟩ := a1.near
  have hz' : S (fadd (fmul wFour r) (fmul wTwo h)) z := hz
  have a2 := fadd_ok 47 hz' sc (by grind) (by grind) (by grind)
  obtain ⟨t, ht, t1, t2⟩ := a2.near
  have ht' : S (timeW r h c) t := ht
  exact ⟨⟨m1.ok, m2.ok, a1.ok, a2.ok, t, ht'⟩, t, ht', by grind, by grind, by grind, by grind⟩

theorem abs_mul {a u e B : Rat} (a1 : -e ≤ a) (a2 : a ≤ e) (u1 : -B ≤ u) (u2 : u ≤ B) : -(e * B) ≤ a * u ∧ a * u ≤ e * B := by
  have p1 := Rat.mul_nonneg (by grind : 0 ≤ e - a) (by grind : 0 ≤ B - u)
  have p2 := Rat.mul_nonneg (by grind : 0 ≤ e + a) (by grind : 0 ≤ B + u)
  have p3 := Rat.mul_nonneg (by grind : 0 ≤ e - a) (by grind : 0 ≤ B + u)
  have p4 := Rat.mul_nonneg (by grind : 0 ≤ e + a) (by grind : 0 ≤ B - u)
  constructor <;> grind
theorem yu {q y u s e : Rat} (q0 : 0 ≤ q) (q12 : q ≤ 12) (s0 : 0 ≤ s) (s12 : s ≤ 12) (e0 : 0 ≤ e) (e1 : e ≤ 1 / 10000000) (y1 : q - e ≤ y) (y2 : y ≤ q + e) (u1 : s - e ≤ u) (u2 : u ≤ s + e) :
    y * u ≤ q * s + 1 / 50000 ∧ -1000 ≤ y * u ∧ y * u ≤ 1000 := by
  have h1 := abs_mul (a := y - q) (u := u) (e := e) (B := 13) (by grind) (by grind) (by grind) (by grind)
  have h2 := abs_mul (a := u - s) (u := q) (e := e) (B := 12) (by grind) (by grind) (by grind) (by grind)
  have h3 := mm q0 q12 s0 s12
  have e3 : y * u = q * s + (y - q) * u + (u - s) * q := by grind
  rw [e3]
  generalize (y - q) * u = p at *
  generalize (u - s) * q = t at *
  generalize q * s = w at *
  refine ⟨?_, ?_, ?_⟩ <;> grind

/-- what the law asks of the plan -/
structure PlanOk (j r h c m k : Nat) : Prop where
  eq : (FloatKind.f32.format.order j j == some .eq) = true
  r0 : (FloatKind.f32.format.order r 0 == some .lt || FloatKind.f32.format.order r 0 == some .eq) = false
  h0 : (FloatKind.f32.format.order h 0 == some .lt) = false
  c0 : (FloatKind.f32.format.order c 0 == some .lt) = false
  t0 : (FloatKind.f32.format.order (timeW r h c) 0 == some .lt || FloatKind.f32.format.order (timeW r h c) 0 == some .eq) = false
  uj : floatToFloatBits .f32 j .f64 = some (up j)
  ur : floatToFloatBits .f32 r .f64 = some (up r)
  uh : floatToFloatBits .f32 h .f64 = some (up h)
  uk : floatToFloatBits .f32 k .f64 = some (up k)
  um : floatToFloatBits .f32 m .f64 = some (up m)
  rj : floatBits .mul .f64 (up r) (up j) = some (dmul (up r) (up j))
  ka : floatBits .add .f64 (up k) dMilli = some (dadd (up k) dMilli)
  g1 : (FloatKind.f64.format.order (dmul (up r) (up j)) (dadd (up k) dMilli) == some .gt) = false
  jr : floatBits .mul .f64 (up j) (up r) = some (dmul (up j) (up r))
  rh : floatBits .add .f64 (up r) (up h) = some (dadd (up r) (up h))
  pr : floatBits .mul .f64 (dmul (up j) (up r)) (dadd (up r) (up h)) = some (dmul (dmul (up j) (up r)) (dadd (up r) (up h)))
  ma : floatBits .add .f64 (up m) dCenti = some (dadd (up m) dCenti)
  g2 : (FloatKind.f64.format.order (dmul (dmul (up j) (up r)) (dadd (up r) (up h))) (dadd (up m) dCenti) == some .gt) = false

theorem leq_f {a b : Nat} {x y : Rat} (ha : S a x) (hb : S b y) (h : ¬ x ≤ y) : (FloatKind.f32.format.order a b == some .lt || FloatKind.f32.format.order a b == some .eq) = false := by
  have := leq_is ha hb
  rw [show FloatKind.f32.format = Ieee.single from rfl, this]; simp [h]

theorem plan_near {j r h c k m : Nat} {J K M L R H C al : Rat} (pl : Plan j r h c J K M L R H C al) (hk : S k K) (hm : S m M) (j0 : 1 / 2 ≤ J) (k0 : 1 / 2 ≤ K) (k4 : K ≤ 4) (m0 : 1 / 2 ≤ M) (m4 : M ≤ 4) (l0 : 1 / 4 ≤ L) : PlanOk j r h c m k := by
  obtain ⟨_, tau, ht, _, _, t0, _⟩ := total_near pl l0
  have hE := E_pos
  have hE1 : E * 200 ≤ 1 / 50000 := by rw [E_val]; decide +kernel
  have sj := pl.w.sj
  have sr := pl.w.sr
  have sh := pl.w.sh
  have sc := pl.w.sc
  have r0 := pl.r0
  have r3 := pl.p.r3
  have h0 := pl.p.h0
  have h8 := pl.p.h8
  have c0 := pl.p.c0
  have j4 := pl.p.j4
  have jr := pl.jr
  have pm := pl.pm
  clear pl
  obtain ⟨uj, dj⟩ := up_ok sj (by grind) (by grind)
  obtain ⟨ur, dr⟩ := up_ok sr (by grind) (by grind)
  obtain ⟨uh, dh⟩ := up_ok sh (by grind) (by grind)
  obtain ⟨uk, dk⟩ := up_ok hk (by grind) (by grind)
  obtain ⟨um, dm⟩ := up_ok hm (by grind) (by grind)
  have hjr := mm (by grind : 0 ≤ J) j4 (by grind : 0 ≤ R) r3
  have ejr : R * J = J * R := by grind
  have a1 := dmul_ok 12 dr dj (by grind) (by grind) (by grind)
  obtain ⟨x, hx, x1, x2⟩ := a1.near
  have hx' : D (dmul (up r) (up j)) x := hx
  have a2 := dmul_ok 12 dj dr (by grind) (by grind) (by grind)
  obtain ⟨y, hy, y1, y2⟩ := a2.near
  have hy' : D (dmul (up j) (up r)) y := hy
  have a3 := dadd_ok 5 dk d_milli (by grind) (by grind) (by grind)
  obtain ⟨z, hz, z1, z2⟩ := a3.near
  have hz' : D (dadd (up k) dMilli) z := hz
  have a4 := dadd_ok 12 dr dh (by grind) (by grind) (by grind)
  obtain ⟨u, hu, u1, u2⟩ := a4.near
  have hu' : D (dadd (up r) (up h)) u := hu
  have hE13 : E * ((12 + 1) / 100000) ≤ 1 / 10000000 := by rw [E_val]; decide +kernel
  have hyu := yu hjr.1 (by grind : J * R ≤ 12) (by grind : 0 ≤ R + H) (by grind : R + H ≤ 12) (by grind : 0 ≤ E * ((12 + 1) / 100000)) hE13 y1 y2 u1 u2
  have a5 := dmul_ok 1000 hy' hu' (by grind) (by grind) (by grind)
  obtain ⟨v, hv, v1, v2⟩ := a5.near
  have a6 := dadd_ok 5 dm d_centi (by grind) (by grind) (by grind)
  obtain ⟨w, hw, w1, w2⟩ := a6.near
  refine ⟨?_, leq_f sr s_zero (by grind), ?_, ?_, leq_f ht s_zero (by grind), uj, ur, uh, uk, um, a1.ok, a3.ok, dgt_f hx' hz' (by grind), a2.ok, a4.ok, a5.ok, a6.ok, dgt_f hv hw (by grind)⟩
  · have := eql_is sj sj
    rw [show FloatKind.f32.format = Ieee.single from rfl, this]; simp
  · have := lss_is sh s_zero
    rw [show FloatKind.f32.format = Ieee.single from rfl, this]; simp; grind
  · have := lss_is sc s_zero
    rw [show FloatKind.f32.format = Ieee.single from rfl, this]; simp; grind
end Go.Proofs.Ytpkcbofeoklpbaa
