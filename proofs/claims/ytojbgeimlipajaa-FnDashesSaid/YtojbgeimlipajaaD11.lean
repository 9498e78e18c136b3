/- The law's last test. -/
import Derived.Test.YtojbgeimlipajaaD10
namespace Go.Proofs.Ytojbgeimlipajaa
open Fl

abbrev dCenti : Nat := 4576918229304087675
abbrev dTwenty : Nat := 4587366580439587226
theorem d_centi : D dCenti (5764607523034235 / 576460752303423488) := is_const (s := false) (m := 5764607523034235) (e := -59) (by decide +kernel) (by decide) (by decide +kernel)
theorem d_twenty : D dTwenty (7205759403792794 / 144115188075855872) := is_const (s := false) (m := 7205759403792794) (e := -57) (by decide +kernel) (by decide) (by decide +kernel)

theorem lam_pos (w : Path) : 2 / 5 ≤ w.Lam w.N := by
  have h1 := w.n0
  obtain ⟨k, hk⟩ : ∃ k, w.N = k + 1 := ⟨w.N - 1, by omega⟩
  have h2 := (w.lam_le k (by omega)).1
  have h3 := (w.seg k (by omega)).l0
  rw [hk]; simp only [Path.Lam]; grind

theorem covS_more {A B T e : Rat} (e0 : 0 ≤ e) (K d : Nat) (hA : 0 < A) (h : ∀ k, K ≤ k → cov A B T k ≤ e) : 0 ≤ covS A B T (K + d) - covS A B T K ∧ covS A B T (K + d) - covS A B T K ≤ e * d := by
  induction d with
  | zero => have e1 : ((0 : Nat) : Rat) = 0 := rfl
            rw [e1]; simp only [Nat.add_zero]; constructor <;> grind
  | succ d ih =>
    have h1 := h (K + d) (by omega)
    have h2 := (cov_bd (B := B) (T := T) hA (K + d)).1
    rw [cast_s, show K + (d + 1) = K + d + 1 by omega]
    simp only [covS]
    constructor <;> grind
theorem covS_lip {A B T T' e : Rat} (hA : 0 < A) (h1 : T - T' ≤ e) (h2 : T' - T ≤ e) (n : Nat) : covS A B T n - covS A B T' n ≤ e * n ∧ covS A B T' n - covS A B T n ≤ e * n := by
  induction n with
  | zero => have e1 : ((0 : Nat) : Rat) = 0 := rfl
            rw [e1]; simp only [covS]; constructor <;> grind
  | succ n ih =>
    have c1 := cov_lip (B := B) n h1 h2 hA
    have c2 := cov_lip (B := B) n h2 h1 hA
    rw [cast_s]; simp only [covS]
    constructor <;> grind

theorem gap_near {a b : Nat} {x y : Rat} (ha : D a x) (hb : D b y) (B : Rat) (hB : B ≤ 1000000) (h1 : -B ≤ x - y) (h2 : x - y ≤ B) :
    ∃ d z, (if x < y then floatBits .sub .f64 b a = some d else floatBits .sub .f64 a b = some d) ∧ D d z ∧ (z ≤ x - y + E * ((B + 1) / 100000) ∨ z ≤ y - x + E * ((B + 1) / 100000)) := by
  by_cases h : x < y
  · have g := dsub_ok B hb ha (by grind) (by grind) hB
    obtain ⟨z, hz, z1, z2⟩ := g.near
    exact ⟨_, z, by rw [if_pos h]; exact g.ok, hz, .inr z2⟩
  · have g := dsub_ok B ha hb (by grind) (by grind) hB
    obtain ⟨z, hz, z1, z2⟩ := g.near
    exact ⟨_, z, by rw [if_neg h]; exact g.ok, hz, .inl z2⟩

/-- what the law asks of a dash -/
structure LookOk (a k K : Nat) (ps : List Pt) : Prop where
  two : 2 ≤ ps.length
  n9 : ps.length ≤ 9
  pc : ∀ i, i + 1 < ps.length → PcOk ps i
  ua : floatToFloatBits .f32 a .f64 = some (up a)
  p : floatBits .add .f64 (up a) dCenti = some (dadd (up a) dCenti)
  m : floatBits .sub .f64 (up a) dCenti = some (dsub (up a) dCenti)
  gt : (FloatKind.f64.format.order (dashLen ps) (dadd (up a) dCenti) == some .gt) = false
  lt : k + 1 < K → (FloatKind.f64.format.order (dashLen ps) (dsub (up a) dCenti) == some .lt) = false

theorem look_ok {A B T : Rat} {outs : List (List Pt)} {a : Nat} (ha : S a A) (hA : 1 / 2 ≤ A) (hA2 : A ≤ 2) (k : Nat) (h : DashOk A B T (outs.getD k []) k) (hd : k + 1 < outs.length → Done A (outs.getD k [])) : LookOk a k outs.length (outs.getD k []) := by
  have hE := E_pos
  have hE1 : E * 100000 ≤ 6 / 1000 := by rw [E_val]; decide +kernel
  obtain ⟨v, hv, v1, v2, v3⟩ := h.len
  obtain ⟨r, sig, ac, _⟩ := h.acc
  obtain ⟨u1, da⟩ := up_ok ha (by grind) (by grind)
  have p := dadd_ok 3 da d_centi (by grind) (by grind) (by grind)
  obtain ⟨x, hx, x1, x2⟩ := p.near
  have m := dsub_ok 3 da d_centi (by grind) (by grind) (by grind)
  obtain ⟨y, hy, y1, y2⟩ := m.near
  refine ⟨h.two, ac.n9, ac.pc, u1, p.ok, m.ok, ?_, fun hk => ?_⟩
  · have := gtr_is hv hx
    rw [show FloatKind.f64.format = Ieee.double from rfl, this]; simp; grind
  · obtain ⟨v', hv', q⟩ := (hd hk).len
    have := lss_is hv' hy
    rw [show FloatKind.f64.format = Ieee.double from rfl, this]; simp; grind

theorem last_ok {w : Path} {a b na nb M : Nat} {tv : Rat} {t : Nat} {outs : List (List Pt)} (h2 : 2 ≤ na) (h8 : na ≤ 8) (h2' : 2 ≤ nb) (h8' : nb ≤ 8) (ha : S a ((na : Rat) / 4)) (hb : S b ((nb : Rat) / 4))
    (h16 : outs.length ≤ 16) (hd : ∀ k, k < outs.length → DashOk ((na : Rat) / 4) ((nb : Rat) / 4) (w.Lam w.N) (outs.getD k []) k) (hr : ∀ k, outs.length ≤ k → cov ((na : Rat) / 4) ((nb : Rat) / 4) (w.Lam w.N) k ≤ E * 800)
    (ht : D t tv) (t1 : tv - w.Lam w.N ≤ E * 6) (t2 : w.Lam w.N - tv ≤ E * 6) (hM : M ≤ 20) (hlt : ∀ k, k < M → (k : Rat) * ((na : Rat) / 4 + (nb : Rat) / 4) < tv) (hge : tv ≤ (M : Rat) * ((na : Rat) / 4 + (nb : Rat) / 4)) :
    ∃ x y d, D (sumD outs outs.length) x ∧ D (wantW a b t M) y ∧
      (if x < y then floatBits .sub .f64 (wantW a b t M) (sumD outs outs.length) = some d else floatBits .sub .f64 (sumD outs outs.length) (wantW a b t M) = some d) ∧
      (FloatKind.f64.format.order d dTwenty == some .lt) = true := by
  have hE := E_pos
  have hE1 : E * 650000 ≤ 4 / 100 := by rw [E_val]; decide +kernel
  have a8 : (na : Rat) ≤ 8 := cast_le (m := 8) h8
  have b8 : (nb : Rat) ≤ 8 := cast_le (m := 8) h8'
  have a2 : 2 ≤ (na : Rat) := cast_le (n := 2) h2
  have b2 : 2 ≤ (nb : Rat) := cast_le (n := 2) h2'
  have hL := w.lam_le w.N (Nat.le_refl _)
  have n6 : (w.N : Rat) ≤ 6 := cast_le (m := 6) w.n6
  have A0 : 1 / 2 ≤ (na : Rat) / 4 ∧ (na : Rat) / 4 ≤ 2 := by constructor <;> grind
  obtain ⟨_, x, hx, x1, x2⟩ := sum_near (outs := outs) A0.1 A0.2 h16 hd outs.length (Nat.le_refl _)
  have hgeM : ∀ k, M ≤ k → cov ((na : Rat) / 4) ((nb : Rat) / 4) tv k ≤ 0 := fun k hk => (cov_none (by grind) Rat.le_refl (by
    have := mul_mono hk (C := (na : Rat) / 4 + (nb : Rat) / 4) (by grind)
    grind)).2
  have hLp := lam_pos w
  have htv0 : 0 ≤ tv := by grind
  obtain ⟨_, y, hy, y1, y2⟩ := want_near ha hb h2 h8 h2' h8' ht (by grind) (by grind) M hM hlt
  generalize (na : Rat) / 4 = A at *
  generalize (nb : Rat) / 4 = B at *
  generalize w.Lam w.N = T at *
  have c1 := covS_more (e := E * 800) (by grind) outs.length M (by grind : 0 < A) hr
  have c2 := covS_more (e := 0) Rat.le_refl M outs.length (by grind : 0 < A) hgeM
  have c3 := covS_lip (B := B) (by grind : 0 < A) t1 t2 (outs.length + M)
  rw [show M + outs.length = outs.length + M by omega] at c2
  have k16 : (outs.length : Rat) ≤ 16 := cast_le (m := 16) h16
  have m20 : (M : Rat) ≤ 20 := cast_le (m := 20) hM
  have km : ((outs.length + M : Nat) : Rat) ≤ 36 := cast_le (m := 36) (by omega)
  have e1 := Rat.mul_le_mul_of_nonneg_left k16 (Rat.le_of_lt hE)
  have e2 := Rat.mul_le_mul_of_nonneg_left m20 (Rat.le_of_lt hE)
  have e3 := Rat.mul_le_mul_of_nonneg_left km (Rat.le_of_lt hE)
  generalize ((outs.length + M : Nat) : Rat) = nn at *
  generalize (outs.length : Rat) = kk at *
  generalize (M : Rat) = mm' at *
  generalize covS A B T outs.length = s1 at *
  generalize covS A B T (outs.length + M) = s2 at *
  generalize covS A B tv (outs.length + M) = s3 at *
  generalize covS A B tv M = s4 at *
  clear hd hr hlt hgeM hge hL
  obtain ⟨d, z, g1, g2, g3⟩ := gap_near hx hy 1 (by grind) (by grind) (by grind)
  refine ⟨x, y, d, hx, hy, g1, ?_⟩
  have := lss_is g2 d_twenty
  rw [show FloatKind.f64.format = Ieee.double from rfl, this]
  simp only [decide_eq_true_eq]
  rcases g3 with g3 | g3 <;> grind
end Go.Proofs.Ytojbgeimlipajaa
