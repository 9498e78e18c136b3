/- One step of PlanWay at the level of words, and how near it comes to the exact step. -/
import Derived.Test.YtpkcbofeoklpbaaAp
namespace Fl
open Go

abbrev wHalf : Nat := 1056964608
abbrev wSix : Nat := 1086324736

/-- the operations of one step are valid -/
structure StepOk (x v a s j : Nat) : Prop where
  m1 : floatBits .mul .f32 wHalf a = some (fmul wHalf a)
  m2 : floatBits .mul .f32 (fmul wHalf a) s = some (fmul (fmul wHalf a) s)
  m3 : floatBits .mul .f32 (fmul (fmul wHalf a) s) s = some (fmul (fmul (fmul wHalf a) s) s)
  n1 : floatBits .mul .f32 j s = some (fmul j s)
  n2 : floatBits .mul .f32 (fmul j s) s = some (fmul (fmul j s) s)
  n3 : floatBits .mul .f32 (fmul (fmul j s) s) s = some (fmul (fmul (fmul j s) s) s)
  q : floatBits .quo .f32 (fmul (fmul (fmul j s) s) s) wSix = some (fdiv (fmul (fmul (fmul j s) s) s) wSix)
  vs : floatBits .mul .f32 v s = some (fmul v s)
  s1 : floatBits .add .f32 (fmul v s) (fmul (fmul (fmul wHalf a) s) s) = some (fadd (fmul v s) (fmul (fmul (fmul wHalf a) s) s))
  s2 : floatBits .add .f32 (fadd (fmul v s) (fmul (fmul (fmul wHalf a) s) s)) (fdiv (fmul (fmul (fmul j s) s) s) wSix) = some (fadd (fadd (fmul v s) (fmul (fmul (fmul wHalf a) s) s)) (fdiv (fmul (fmul (fmul j s) s) s) wSix))
  sx : floatBits .add .f32 x (fadd (fadd (fmul v s) (fmul (fmul (fmul wHalf a) s) s)) (fdiv (fmul (fmul (fmul j s) s) s) wSix)) = some (fadd x (fadd (fadd (fmul v s) (fmul (fmul (fmul wHalf a) s) s)) (fdiv (fmul (fmul (fmul j s) s) s) wSix)))
  k1 : floatBits .mul .f32 wHalf j = some (fmul wHalf j)
  k2 : floatBits .mul .f32 (fmul wHalf j) s = some (fmul (fmul wHalf j) s)
  k3 : floatBits .mul .f32 (fmul (fmul wHalf j) s) s = some (fmul (fmul (fmul wHalf j) s) s)
  as : floatBits .mul .f32 a s = some (fmul a s)
  s3 : floatBits .add .f32 (fmul a s) (fmul (fmul (fmul wHalf j) s) s) = some (fadd (fmul a s) (fmul (fmul (fmul wHalf j) s) s))
  sv : floatBits .add .f32 v (fadd (fmul a s) (fmul (fmul (fmul wHalf j) s) s)) = some (fadd v (fadd (fmul a s) (fmul (fmul (fmul wHalf j) s) s)))
  sa : floatBits .add .f32 a (fmul j s) = some (fadd a (fmul j s))

def nx (x v a s j : Nat) : Nat := fadd x (fadd (fadd (fmul v s) (fmul (fmul (fmul wHalf a) s) s)) (fdiv (fmul (fmul (fmul j s) s) s) wSix))
def nv (v a s j : Nat) : Nat := fadd v (fadd (fmul a s) (fmul (fmul (fmul wHalf j) s) s))
def na (a s j : Nat) : Nat := fadd a (fmul j s)

theorem ap_half {a : Nat} {q c B : Rat} (h : Ap a q c) (hc2 : c ≤ 1000) (hb1 : -B ≤ q / 2) (hb2 : q / 2 ≤ B) (hB : B ≤ 100000) :
    floatBits .mul .f32 wHalf a = some (fmul wHalf a) ∧ Ap (fmul wHalf a) (q / 2) (c / 2 + B + 1 / 100) := by
  obtain ⟨z, hz, a1, a2⟩ := h
  have e1 : E * c ≤ 1 / 1000 := E_small (by grind)
  have b1 : -(B + 1 / 1000) ≤ 1 / 2 * z := by grind
  have b2 : 1 / 2 * z ≤ B + 1 / 1000 := by grind
  have hE := E_pos
  obtain ⟨ok, r, hr, r1, r2⟩ := fmul_ok (B + 1 / 1000) s_half hz b1 b2 (by grind)
  refine ⟨ok, r, hr, ?_, ?_⟩ <;> grind

/-- what a step is worth, exactly -/
def ex (X V A s j : Rat) : Rat := X + (V * s + A / 2 * s * s + j * s * s * s / 6)
def ev (V A s j : Rat) : Rat := V + (A * s + j / 2 * s * s)

/-- A step of the first kind: a short time, any jerk. -/
theorem k1 {x v a s j : Nat} {X V A sv jv cx cv ca : Rat} (hx : Ap x X cx) (hv : Ap v V cv) (ha : Ap a A ca) (hs : S s sv) (hj : S j jv)
    (s0 : 0 ≤ sv) (s3 : sv ≤ 3) (hcx : 0 ≤ cx ∧ cx ≤ 8500) (hcv : 0 ≤ cv ∧ cv ≤ 300) (hca : 0 ≤ ca ∧ ca ≤ 5)
    (ba : -5 ≤ A ∧ A ≤ 5) (bj : -5 ≤ jv ∧ jv ≤ 5)
    (b1 : -(5 : Rat) ≤ jv * sv ∧ jv * sv ≤ 5) (b2 : -(5 : Rat) ≤ jv * sv * sv ∧ jv * sv * sv ≤ 5) (b3 : -(9 : Rat) ≤ jv * sv * sv * sv ∧ jv * sv * sv * sv ≤ 9)
    (b4 : -(5 : Rat) ≤ A * sv ∧ A * sv ≤ 5) (b5 : -(9 : Rat) ≤ A * sv * sv ∧ A * sv * sv ≤ 9) (b6 : -(9 : Rat) ≤ V * sv ∧ V * sv ≤ 9) (b7 : -5 ≤ V ∧ V ≤ 5) (b8 : -9 ≤ X ∧ X ≤ 9) :
    StepOk x v a s j ∧ Ap (nx x v a s j) (ex X V A sv jv) (cx + 3 * cv + 9 / 2 * ca + 113) ∧ Ap (nv v a s j) (ev V A sv jv) (cv + 3 * ca + 58) ∧ Ap (na a s j) (A + jv * sv) (ca + 16) := by
  obtain ⟨hcx0, hcx1⟩ := hcx; obtain ⟨hcv0, hcv1⟩ := hcv; obtain ⟨hca0, hca1⟩ := hca
  have hj' := Ap.of hj
  obtain ⟨m1, M1⟩ := ap_half (B := 5 / 2) ha (by grind) (by grind) (by grind) (by grind)
  obtain ⟨m2, M2⟩ := M1.mul (B := 5 / 2) hs s0 s3 (by grind) (by grind) (by grind) (by grind) (by grind)
  obtain ⟨m3, M3⟩ := M2.mul (B := 9 / 2) hs s0 s3 (by grind) (by grind) (by grind) (by grind) (by grind)
  obtain ⟨n1, N1⟩ := hj'.mul (B := 5) hs s0 s3 (by grind) (by grind) b1.1 b1.2 (by grind)
  obtain ⟨n2, N2⟩ := N1.mul (B := 5) hs s0 s3 (by grind) (by grind) b2.1 b2.2 (by grind)
  obtain ⟨n3, N3⟩ := N2.mul (B := 9) hs s0 s3 (by grind) (by grind) b3.1 b3.2 (by grind)
  obtain ⟨q, Q⟩ := N3.six (B := 3 / 2) (by grind) (by grind) (by grind) (by grind)
  obtain ⟨vs, VS⟩ := hv.mul (B := 9) hs s0 s3 hcv0 (by grind) b6.1 b6.2 (by grind)
  obtain ⟨s1, S1⟩ := VS.add (B := 27 / 2) M3 (by grind) (by grind) (by grind) (by grind)
  obtain ⟨s2, S2⟩ := S1.add (B := 15) Q (by grind) (by grind) (by grind) (by grind)
  obtain ⟨sx, SX⟩ := hx.add (B := 24) S2 (by grind) (by grind) (by grind) (by grind)
  obtain ⟨k1, K1⟩ := ap_half (B := 5 / 2) hj' (by grind) (by grind) (by grind) (by grind)
  obtain ⟨k2, K2⟩ := K1.mul (B := 5 / 2) hs s0 s3 (by grind) (by grind) (by grind) (by grind) (by grind)
  obtain ⟨k3, K3⟩ := K2.mul (B := 5 / 2) hs s0 s3 (by grind) (by grind) (by grind) (by grind) (by grind)
  obtain ⟨as, AS⟩ := ha.mul (B := 5) hs s0 s3 hca0 (by grind) b4.1 b4.2 (by grind)
  obtain ⟨s3', S3⟩ := AS.add (B := 15 / 2) K3 (by grind) (by grind) (by grind) (by grind)
  obtain ⟨sv', SV⟩ := hv.add (B := 25 / 2) S3 (by grind) (by grind) (by grind) (by grind)
  obtain ⟨sa, SA⟩ := ha.add (B := 10) N1 (by grind) (by grind) (by grind) (by grind)
  refine ⟨⟨m1, m2, m3, n1, n2, n3, q, vs, s1, s2, sx, k1, k2, k3, as, s3', sv', sa⟩, ?_, ?_, ?_⟩
  · exact SX.mono (by grind)
  · exact SV.mono (by grind)
  · exact SA.mono (by grind)

/-- A step of the second kind: no jerk, a time up to 8. -/
theorem k2 {x v a s j : Nat} {X V A sv jv cx cv ca : Rat} (hx : Ap x X cx) (hv : Ap v V cv) (ha : Ap a A ca) (hs : S s sv) (hj : S j jv) (hj0 : jv = 0)
    (s0 : 0 ≤ sv) (s3 : sv ≤ 8) (hcx : 0 ≤ cx ∧ cx ≤ 7000) (hcv : 0 ≤ cv ∧ cv ≤ 300) (hca : 0 ≤ ca ∧ ca ≤ 5)
    (ba : -(41 / 10 : Rat) ≤ A ∧ A ≤ 41 / 10)
    (b4 : -(41 / 10 : Rat) ≤ A * sv ∧ A * sv ≤ 41 / 10) (b5 : -(41 / 5 : Rat) ≤ A * sv * sv ∧ A * sv * sv ≤ 41 / 5) (b6 : -(41 / 5 : Rat) ≤ V * sv ∧ V * sv ≤ 41 / 5) (b7 : -(41 / 10 : Rat) ≤ V ∧ V ≤ 41 / 10) (b8 : -(41 / 5 : Rat) ≤ X ∧ X ≤ 41 / 5) :
    StepOk x v a s j ∧ Ap (nx x v a s j) (ex X V A sv jv) (cx + 8 * cv + 32 * ca + 212) ∧ Ap (nv v a s j) (ev V A sv jv) (cv + 8 * ca + 18) ∧ Ap (na a s j) (A + jv * sv) (ca + 16) := by
  obtain ⟨hcx0, hcx1⟩ := hcx; obtain ⟨hcv0, hcv1⟩ := hcv; obtain ⟨hca0, hca1⟩ := hca
  subst hj0
  have hj' := Ap.of hj
  obtain ⟨m1, M1⟩ := ap_half (B := 41 / 20) ha (by grind) (by grind) (by grind) (by grind)
  obtain ⟨m2, M2⟩ := M1.mul (B := 41 / 20) hs s0 s3 (by grind) (by grind) (by grind) (by grind) (by grind)
  obtain ⟨m3, M3⟩ := M2.mul (B := 41 / 10) hs s0 s3 (by grind) (by grind) (by grind) (by grind) (by grind)
  obtain ⟨n1, N1⟩ := hj'.mul (B := 0) hs s0 s3 (by grind) (by grind) (by grind) (by grind) (by grind)
  obtain ⟨n2, N2⟩ := N1.mul (B := 0) hs s0 s3 (by grind) (by grind) (by grind) (by grind) (by grind)
  obtain ⟨n3, N3⟩ := N2.mul (B := 0) hs s0 s3 (by grind) (by grind) (by grind) (by grind) (by grind)
  obtain ⟨q, Q⟩ := N3.six (B := 0) (by grind) (by grind) (by grind) (by grind)
  obtain ⟨vs, VS⟩ := hv.mul (B := 41 / 5) hs s0 s3 hcv0 (by grind) b6.1 b6.2 (by grind)
  obtain ⟨s1, S1⟩ := VS.add (B := 123 / 10) M3 (by grind) (by grind) (by grind) (by grind)
  obtain ⟨s2, S2⟩ := S1.add (B := 123 / 10) Q (by grind) (by grind) (by grind) (by grind)
  obtain ⟨sx, SX⟩ := hx.add (B := 41 / 2) S2 (by grind) (by grind) (by grind) (by grind)
  obtain ⟨k1, K1⟩ := ap_half (B := 0) hj' (by grind) (by grind) (by grind) (by grind)
  obtain ⟨k2, K2⟩ := K1.mul (B := 0) hs s0 s3 (by grind) (by grind) (by grind) (by grind) (by grind)
  obtain ⟨k3, K3⟩ := K2.mul (B := 0) hs s0 s3 (by grind) (by grind) (by grind) (by grind) (by grind)
  obtain ⟨as, AS⟩ := ha.mul (B := 41 / 10) hs s0 s3 hca0 (by grind) b4.1 b4.2 (by grind)
  obtain ⟨s3', S3⟩ := AS.add (B := 41 / 10) K3 (by grind) (by grind) (by grind) (by grind)
  obtain ⟨sv', SV⟩ := hv.add (B := 41 / 5) S3 (by grind) (by grind) (by grind) (by grind)
  obtain ⟨sa, SA⟩ := ha.add (B := 5) N1 (by grind) (by grind) (by grind) (by grind)
  refine ⟨⟨m1, m2, m3, n1, n2, n3, q, vs, s1, s2, sx, k1, k2, k3, as, s3', sv', sa⟩, ?_, ?_, ?_⟩
  · exact (SX.mono (by grind)).to (by unfold ex; grind)
  · exact (SV.mono (by grind)).to (by unfold ev; grind)
  · exact (SA.mono (by grind)).to (by grind)

/-- A step of the third kind: no jerk, no change of speed, a time up to 17. -/
theorem k4 {x v a s j : Nat} {X V sv cx cv : Rat} (hx : Ap x X cx) (hv : Ap v V cv) (ha : S a 0) (hs : S s sv) (hj : S j 0)
    (s0 : 0 ≤ sv) (s3 : sv ≤ 17) (hcx : 0 ≤ cx ∧ cx ≤ 5000) (hcv : 0 ≤ cv ∧ cv ≤ 200)
    (b6 : -(41 / 5 : Rat) ≤ V * sv ∧ V * sv ≤ 41 / 5) (b7 : -(41 / 10 : Rat) ≤ V ∧ V ≤ 41 / 10) (b8 : -(41 / 5 : Rat) ≤ X ∧ X ≤ 41 / 5) :
    StepOk x v a s j ∧ Ap (nx x v a s j) (ex X V 0 sv 0) (cx + 17 * cv + 60) ∧ Ap (nv v a s j) (ev V 0 sv 0) (cv + 9) ∧ Ap (na a s j) 0 1 := by
  obtain ⟨hcx0, hcx1⟩ := hcx; obtain ⟨hcv0, hcv1⟩ := hcv
  have hj' := Ap.of hj
  have ha' := Ap.of ha
  obtain ⟨m1, M1⟩ := ap_half (B := 0) ha' (by grind) (by grind) (by grind) (by grind)
  obtain ⟨m2, M2⟩ := M1.mul (B := 0) hs s0 s3 (by grind) (by grind) (by grind) (by grind) (by grind)
  obtain ⟨m3, M3⟩ := M2.mul (B := 0) hs s0 s3 (by grind) (by grind) (by grind) (by grind) (by grind)
  obtain ⟨n1, N1⟩ := hj'.mul (B := 0) hs s0 s3 (by grind) (by grind) (by grind) (by grind) (by grind)
  obtain ⟨n2, N2⟩ := N1.mul (B := 0) hs s0 s3 (by grind) (by grind) (by grind) (by grind) (by grind)
  obtain ⟨n3, N3⟩ := N2.mul (B := 0) hs s0 s3 (by grind) (by grind) (by grind) (by grind) (by grind)
  obtain ⟨q, Q⟩ := N3.six (B := 0) (by grind) (by grind) (by grind) (by grind)
  obtain ⟨vs, VS⟩ := hv.mul (B := 41 / 5) hs s0 s3 hcv0 (by grind) b6.1 b6.2 (by grind)
  obtain ⟨s1, S1⟩ := VS.add (B := 41 / 5) M3 (by grind) (by grind) (by grind) (by grind)
  obtain ⟨s2, S2⟩ := S1.add (B := 41 / 5) Q (by grind) (by grind) (by grind) (by grind)
  obtain ⟨sx, SX⟩ := hx.add (B := 17) S2 (by grind) (by grind) (by grind) (by grind)
  obtain ⟨k1, K1⟩ := ap_half (B := 0) hj' (by grind) (by grind) (by grind) (by grind)
  obtain ⟨k2, K2⟩ := K1.mul (B := 0) hs s0 s3 (by grind) (by grind) (by grind) (by grind) (by grind)
  obtain ⟨k3, K3⟩ := K2.mul (B := 0) hs s0 s3 (by grind) (by grind) (by grind) (by grind) (by grind)
  obtain ⟨as, AS⟩ := ha'.mul (B := 0) hs s0 s3 (by grind) (by grind) (by grind) (by grind) (by grind)
  obtain ⟨s3', S3⟩ := AS.add (B := 0) K3 (by grind) (by grind) (by grind) (by grind)
  obtain ⟨sv', SV⟩ := hv.add (B := 41 / 10) S3 (by grind) (by grind) (by grind) (by grind)
  obtain ⟨sa, SA⟩ := ha'.add (B := 0) N1 (by grind) (by grind) (by grind) (by grind)
  refine ⟨⟨m1, m2, m3, n1, n2, n3, q, vs, s1, s2, sx, k1, k2, k3, as, s3', sv', sa⟩, ?_, ?_, ?_⟩
  · exact (SX.mono (by grind)).to (by unfold ex; grind)
  · exact (SV.mono (by grind)).to (by unfold ev; grind)
  · exact (SA.mono (by grind)).to (by grind)

/-- A step of no time. -/
theorem k0 {x v a s j : Nat} {X V A jv cx cv ca : Rat} (hx : Ap x X cx) (hv : Ap v V cv) (ha : Ap a A ca) (hs : S s 0) (hj : S j jv)
    (hcx : 0 ≤ cx ∧ cx ≤ 9000) (hcv : 0 ≤ cv ∧ cv ≤ 900) (hca : 0 ≤ ca ∧ ca ≤ 900)
    (ba : -9 ≤ A ∧ A ≤ 9) (bj : -5 ≤ jv ∧ jv ≤ 5) (b7 : -9 ≤ V ∧ V ≤ 9) (b8 : -9 ≤ X ∧ X ≤ 9) :
    StepOk x v a s j ∧ Ap (nx x v a s j) X (cx + 10) ∧ Ap (nv v a s j) V (cv + 10) ∧ Ap (na a s j) A (ca + 10) := by
  obtain ⟨hcx0, hcx1⟩ := hcx; obtain ⟨hcv0, hcv1⟩ := hcv; obtain ⟨hca0, hca1⟩ := hca
  have s0 : (0 : Rat) ≤ 0 := Rat.le_refl
  have hj' := Ap.of hj
  obtain ⟨m1, M1⟩ := ap_half (B := 5) ha (by grind) (by grind) (by grind) (by grind)
  obtain ⟨m2, M2⟩ := M1.mul (B := 0) hs s0 s0 (by grind) (by grind) (by grind) (by grind) (by grind)
  obtain ⟨m3, M3⟩ := M2.mul (B := 0) hs s0 s0 (by grind) (by grind) (by grind) (by grind) (by grind)
  obtain ⟨n1, N1⟩ := hj'.mul (B := 0) hs s0 s0 (by grind) (by grind) (by grind) (by grind) (by grind)
  obtain ⟨n2, N2⟩ := N1.mul (B := 0) hs s0 s0 (by grind) (by grind) (by grind) (by grind) (by grind)
  obtain ⟨n3, N3⟩ := N2.mul (B := 0) hs s0 s0 (by grind) (by grind) (by grind) (by grind) (by grind)
  obtain ⟨q, Q⟩ := N3.six (B := 0) (by grind) (by grind) (by grind) (by grind)
  obtain ⟨vs, VS⟩ := hv.mul (B := 0) hs s0 s0 hcv0 (by grind) (by grind) (by grind) (by grind)
  obtain ⟨s1, S1⟩ := VS.add (B := 0) M3 (by grind) (by grind) (by grind) (by grind)
  obtain ⟨s2, S2⟩ := S1.add (B := 0) Q (by grind) (by grind) (by grind) (by grind)
  obtain ⟨sx, SX⟩ := hx.add (B := 9) S2 (by grind) (by grind) (by grind) (by grind)
  obtain ⟨k1, K1⟩ := ap_half (B := 5 / 2) hj' (by grind) (by grind) (by grind) (by grind)
  obtain ⟨k2, K2⟩ := K1.mul (B := 0) hs s0 s0 (by grind) (by grind) (by grind) (by grind) (by grind)
  obtain ⟨k3, K3⟩ := K2.mul (B := 0) hs s0 s0 (by grind) (by grind) (by grind) (by grind) (by grind)
  obtain ⟨as, AS⟩ := ha.mul (B := 0) hs s0 s0 hca0 (by grind) (by grind) (by grind) (by grind)
  obtain ⟨s3', S3⟩ := AS.add (B := 0) K3 (by grind) (by grind) (by grind) (by grind)
  obtain ⟨sv', SV⟩ := hv.add (B := 9) S3 (by grind) (by grind) (by grind) (by grind)
  obtain ⟨sa, SA⟩ := ha.add (B := 9) N1 (by grind) (by grind) (by grind) (by grind)
  refine ⟨⟨m1, m2, m3, n1, n2, n3, q, vs, s1, s2, sx, k1, k2, k3, as, s3', sv', sa⟩, ?_, ?_, ?_⟩
  · exact (SX.mono (by grind)).to (by grind)
  · exact (SV.mono (by grind)).to (by grind)
  · exact (SA.mono (by grind)).to (by grind)
end Fl
