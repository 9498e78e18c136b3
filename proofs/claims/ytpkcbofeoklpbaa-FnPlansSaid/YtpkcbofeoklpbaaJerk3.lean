/- JerkPlan at the level of words: its end. -/
import Derived.Test.YtpkcbofeoklpbaaJerk2
namespace Fl
open Go

/-- what is known of a plan that JerkPlan returns -/
structure Plan (j r h c : Nat) (J K M L R H C al : Rat) : Prop where
  w : Words j r h c J R H C al
  p : Par J R H C
  al0 : -10 ≤ al
  al1 : al ≤ 10
  r0 : 0 < R
  jr : J * R ≤ K + 1 / 1000 - 1 / 10000
  pm : J * R * (R + H) ≤ M + 1 / 200
  w0 : L - 1 / 1000 ≤ Xs J R H C 7
  w1 : Xs J R H C 7 ≤ L + 1 / 1000

theorem xs7 (J R H C : Rat) : Xs J R H C 7 = J * R * (R + H) * (2 * R + H) + J * R * (R + H) * C := by simp only [Xs]; grind

theorem al_of {j r : Nat} {q : Rat} (h : Ap (fmul j r) q (41 / 10)) (h0 : 0 ≤ q) (h1 : q ≤ 402 / 100) : ∃ al, S (fmul j r) al ∧ al - q ≤ E * (41 / 10) ∧ q - al ≤ E * (41 / 10) ∧ -10 ≤ al ∧ al ≤ 10 := by
  obtain ⟨z, hz, a1, a2⟩ := h
  have := E_small (c := 41 / 10) (B := 1 / 1000) (by grind)
  exact ⟨z, hz, by grind, by grind, by grind, by grind⟩

/-- The way is short enough: the rest is a cruise. -/
theorem caseA {j l r h : Nat} {J K M L R H : Rat} (hj : S j J) (hl : S l L) (hr : S r R) (hh : S h H) (b : Base J K M R H) (j0 : 1 / 2 ≤ J) (j4 : J ≤ 4) (_ : 1 / 2 ≤ K) (k4 : K ≤ 4) (m0 : 1 / 2 ≤ M) (m4 : M ≤ 4) (_ : 1 / 4 ≤ L) (l8 : L ≤ 8)
    (hle : ∀ z, S (wayW j r h) z → z ≤ L) :
    WayOk j r h ∧ floatBits .sub .f32 l (wayW j r h) = some (fsub l (wayW j r h)) ∧
      floatBits .quo .f32 (fsub l (wayW j r h)) (fmul (fmul j r) (fadd r h)) = some (fdiv (fsub l (wayW j r h)) (fmul (fmul j r) (fadd r h))) ∧
      ∃ C al, Plan j r h (fdiv (fsub l (wayW j r h)) (fmul (fmul j r) (fadd r h))) J K M L R H C al := by
  have hE := E_pos
  have P0 := Rat.mul_nonneg (by grind : 0 ≤ J) b.r0
  have b1 := b.r0; have b2 := b.r3; have b3 := b.h0; have b4 := b.h8; have b5 := b.jr; have b6 := b.p1; have b7 := b.p2
  obtain ⟨ok, Ajr, Ap1, Aw⟩ := way_near hj hr hh (by grind) b1 (by grind) b3 (by grind) (by grind) (by grind)
  have hPP : 0 ≤ J * R * (R + H) := Rat.mul_nonneg P0 (by grind)
  have hW : 0 ≤ J * R * (R + H) * (2 * R + H) := Rat.mul_nonneg hPP (by grind)
  have hx7 := fun C => xs7 J R H C
  generalize hPe : J * R * (R + H) = P at *
  generalize hWe : P * (2 * R + H) = W at *
  obtain ⟨wz, hwz, nw⟩ := Aw.nr
  have hwl := hle wz hwz
  obtain ⟨pz, hpz, np⟩ := Ap1.nr
  have e1600 := E_small (c := 1600) (B := 1 / 10000) (by grind)
  have e100 := E_small (c := 100) (B := 1 / 100000) (by grind)
  have hp0 : 49 / 100 ≤ pz := by have := np.2; grind
  have hp1 : pz ≤ 401 / 100 := by have := np.1; grind
  have hs := fsub_ok 9 hl hwz (by have := nw.2; grind) (by have := nw.2; grind) (by grind)
  obtain ⟨y, hy, y1, y2⟩ := hs.near
  have hy' : S (fsub l (wayW j r h)) y := hy
  have hy0 := fsub_nonneg hl hwz hwl (by have := nw.2; grind) hy'
  have e9 := E_small (c := 9 + 1 / 1000) (B := 1 / 100000) (by grind)
  have ny : Nr y (L - W) 1610 := by
    obtain ⟨n1, n2⟩ := nw
    constructor <;> grind
  have hpp : 0 < pz := by grind
  have hp00 : pz ≠ 0 := by grind
  have hdm := rat_div_mul (a := y) hp00
  have hi0 : 0 < pz⁻¹ := Rat.inv_pos.2 hpp
  have hq0 : 0 ≤ y / pz := by rw [Rat.div_def]; exact Rat.mul_nonneg hy0 (Rat.le_of_lt hi0)
  have hy81 : y ≤ 81 / 10 := by have := nw.2; grind
  have hq17 : y / pz ≤ 168 / 10 := by
    by_cases hc : y / pz ≤ 168 / 10
    · exact hc
    · exfalso
      have := mm (by grind : (0 : Rat) ≤ 168 / 10) (by grind : 168 / 10 ≤ y / pz) (by grind : (0 : Rat) ≤ 49 / 100) hp0
      grind
  have hd := fdiv_ok 17 hy' hpz hp00 (by grind) (by grind) (by grind)
  obtain ⟨C, hC, c1, c2⟩ := hd.near
  have hC' : S (fdiv (fsub l (wayW j r h)) (fmul (fmul j r) (fadd r h))) C := hC
  have hC0 := fdiv_nonneg hy' hpz hpp hy0 (by grind) hC'
  have e51 := E_small (c := 3 * 17 + 1 / 1000) (B := 1 / 100000) (by grind)
  have nC : Nr C (y / pz) 52 := by constructor <;> grind
  have hnp : Nr P pz 100 := by obtain ⟨n1, n2⟩ := np; constructor <;> grind
  have nPC : Nr (P * C) (y) (5 * 52 + 17 * 100) := by
    have := hnp.mul nC hPP (by grind : P ≤ 5) hq0 (by grind : y / pz ≤ 17) (by grind) (by grind)
    have e : pz * (y / pz) = y := by grind
    rw [e] at this; exact this
  have e3600 := E_small (c := 3600) (B := 1 / 1000 - 1 / 10000) (by grind)
  obtain ⟨al, hal, al1, al2, al3, al4⟩ := al_of Ajr P0 (by grind)
  have hWC : W + P * C ≤ L + 1 / 1000 ∧ L - 1 / 1000 ≤ W + P * C := by
    obtain ⟨n1, n2⟩ := nPC
    obtain ⟨n3, n4⟩ := ny
    constructor <;> grind
  have hr0 : 0 < R := by
    by_cases hc : 0 < R
    · exact hc
    · exfalso
      have : R = 0 := by grind
      have : P = 0 := by rw [← hPe, this]; grind
      grind
  refine ⟨ok, hs.ok, hd.ok, C, al, ⟨⟨hj, hr, hh, hC', ok.m1, hal, al1, al2⟩, ⟨by grind, j4, b1, by grind, b3, by grind, hC0, by grind, by grind, ?_, ?_⟩, al3, al4, hr0, by grind, ?_, ?_, ?_⟩⟩
  · rw [hPe]; grind
  · rw [hPe]
    have e : P * (2 * R + H + C) = W + P * C := by rw [← hWe]; grind
    rw [e]; grind
  · rw [hPe]; grind
  · rw [hx7 C]; grind
  · rw [hx7 C]; grind

/-- a plan's rise and hold, made shorter -/
theorem scale {r h m : Nat} {J K M R H x : Rat} (hr : S r R) (hh : S h H) (hm : S m x) (b : Base J K M R H) (j0 : 1 / 2 ≤ J) (j4 : J ≤ 4) (k4 : K ≤ 4) (m4 : M ≤ 4) (x0 : 0 ≤ x) (x1 : x ≤ 1 + 1 / 50000) :
    floatBits .mul .f32 m r = some (fmul m r) ∧ floatBits .mul .f32 m h = some (fmul m h) ∧ ∃ R1 H1, S (fmul m r) R1 ∧ S (fmul m h) H1 ∧ 0 ≤ R1 ∧ R1 ≤ 3 ∧ 0 ≤ H1 ∧ H1 ≤ 8 ∧ J * R1 ≤ 401 / 100 ∧
      J * R1 * (R1 + H1) ≤ 401 / 100 ∧ Nr (J * R1) (x * (J * R)) 13 ∧ Nr (J * R1 * (R1 + H1)) (x * x * (J * R * (R + H))) 200 ∧ Nr (J * R1 * (R1 + H1) * (2 * R1 + H1)) (x * x * x * (J * R * (R + H) * (2 * R + H))) 2900 := by
  have hE := E_pos
  have P0 := Rat.mul_nonneg (by grind : 0 ≤ J) b.r0
  have b1 := b.r0; have b2 := b.r3; have b3 := b.h0; have b4 := b.h8; have b5 := b.jr; have b6 := b.p1; have b7 := b.p2
  have hxR := mm x0 x1 b1 b2
  have hxH := mm x0 x1 b3 b4
  have m1 := fmul_ok (291 / 100) hm hr (by grind) (by grind) (by grind)
  have m2 := fmul_ok (796 / 100) hm hh (by grind) (by grind) (by grind)
  obtain ⟨R1, hR1, r1, r2⟩ := m1.near
  obtain ⟨H1, hH1, h1, h2⟩ := m2.near
  have hR1' : S (fmul m r) R1 := hR1
  have hH1' : S (fmul m h) H1 := hH1
  have R10 := fmul_nonneg hm hr hxR.1 (by grind) hR1'
  have H10 := fmul_nonneg hm hh hxH.1 (by grind) hH1'
  have e3 := E_small (c := 291 / 100 + 1 / 1000) (B := 1 / 100000) (by grind)
  have e8 := E_small (c := 796 / 100 + 1 / 1000) (B := 1 / 100000) (by grind)
  have nR : Nr R1 (x * R) (3) := by constructor <;> grind
  have nH : Nr H1 (x * H) (8) := by constructor <;> grind
  have nJR : Nr (J * R1) (x * (J * R)) 12 := by
    have := (Nr.refl J).mul nR (by grind) j4 hxR.1 (by grind : x * R ≤ 3) (by grind) (by grind)
    have e : J * (x * R) = x * (J * R) := by grind
    rw [e] at this; exact this.mono (by grind)
  have hxJ := mm x0 x1 P0 (by grind : J * R ≤ 4001 / 1000)
  have e12 := E_small (c := 12) (B := 1 / 100000) (by grind)
  have hJ1 : J * R1 ≤ 401 / 100 := by have := nJR.1; grind
  have nS : Nr (R1 + H1) (x * (R + H)) 11 := by
    have := nR.add nH
    have e : x * R + x * H = x * (R + H) := by grind
    rw [e] at this; exact this.mono (by grind)
  have hJR10 : 0 ≤ J * R1 := Rat.mul_nonneg (by grind) R10
  have nP : Nr (J * R1 * (R1 + H1)) (x * x * (J * R * (R + H))) 180 := by
    have := nJR.mul nS hJR10 hJ1 (by grind : 0 ≤ x * (R + H)) (by grind : x * (R + H) ≤ 109 / 10) (by grind) (by grind)
    have e : x * (J * R) * (x * (R + H)) = x * x * (J * R * (R + H)) := by grind
    rw [e] at this; exact this.mono (by grind)
  have hPP : 0 ≤ J * R * (R + H) := Rat.mul_nonneg P0 (by grind)
  have hxx := mm x0 x1 x0 x1
  have hxP := mm hxx.1 hxx.2 hPP (by grind : J * R * (R + H) ≤ 4001 / 1000)
  have e180 := E_small (c := 180) (B := 1 / 10000) (by grind)
  have hP1 : J * R1 * (R1 + H1) ≤ 401 / 100 := by have := nP.1; grind
  have nT : Nr (2 * R1 + H1) (x * (2 * R + H)) 14 := by
    have := (nR.add nR).add nH
    have e : x * R + x * R + x * H = x * (2 * R + H) := by grind
    have e2 : R1 + R1 + H1 = 2 * R1 + H1 := by grind
    rw [e, e2] at this; exact this.mono (by grind)
  have nW : Nr (J * R1 * (R1 + H1) * (2 * R1 + H1)) (x * x * x * (J * R * (R + H) * (2 * R + H))) (401 / 100 * 14 + 138 / 10 * 180) := by
    have := nP.mul nT (Rat.mul_nonneg hJR10 (by grind)) hP1 (by grind : 0 ≤ x * (2 * R + H)) (by grind : x * (2 * R + H) ≤ 138 / 10) (by grind) (by grind)
    have e : x * x * (J * R * (R + H)) * (x * (2 * R + H)) = x * x * x * (J * R * (R + H) * (2 * R + H)) := by grind
    rw [e] at this; exact this
  exact ⟨m1.ok, m2.ok, R1, H1, hR1', hH1', R10, by grind, H10, by grind, hJ1, hP1, nJR.mono (by grind), nP.mono (by grind), nW.mono (by grind)⟩

/-- the halving, in words -/
def bis (j r h l : Nat) : Nat → Nat × Nat
  | 0 => (0, 1065353216)
  | n + 1 =>
    let q := bis j r h l n
    let m := fdiv (fadd q.1 q.2) 1073741824
    if (Ieee.single.order (wayW j (fmul m r) (fmul m h)) l == some .lt || Ieee.single.order (wayW j (fmul m r) (fmul m h)) l == some .eq) = true then (m, q.2) else (q.1, m)
def bisM (j r h l n : Nat) : Nat := fdiv (fadd (bis j r h l n).1 (bis j r h l n).2) 1073741824
structure BisOk (j r h lo hi m : Nat) : Prop where
  a : floatBits .add .f32 lo hi = some (fadd lo hi)
  d : floatBits .quo .f32 (fadd lo hi) 1073741824 = some m
  m1 : floatBits .mul .f32 m r = some (fmul m r)
  m2 : floatBits .mul .f32 m h = some (fmul m h)
  w : WayOk j (fmul m r) (fmul m h)

def del : Nat → Rat
  | 0 => 1
  | n + 1 => del n / 2
theorem del_pos (n : Nat) : 0 ≤ del n ∧ del n ≤ 1 := by
  induction n with
  | zero => simp only [del]; constructor <;> grind
  | succ n ih => simp only [del]; constructor <;> grind

structure Half (W L : Rat) (n : Nat) (q : Nat × Nat) : Prop where
  v : ∃ x y, S q.1 x ∧ S q.2 y ∧ 0 ≤ x ∧ x ≤ 1 + E * (5 * n) ∧ 0 ≤ y ∧ y ≤ 1 + E * (5 * n) ∧ y - x ≤ del n + E * 9 ∧ x - y ≤ del n + E * 9 ∧ x * x * x * W ≤ L + E * 4600 ∧ L - E * 4600 ≤ y * y * y * W

theorem half_step {j l r h n : Nat} {J K M L R H : Rat} (hj : S j J) (hl : S l L) (hr : S r R) (hh : S h H) (b : Base J K M R H) (j0 : 1 / 2 ≤ J) (j4 : J ≤ 4) (k4 : K ≤ 4) (m4 : M ≤ 4) (hn : n < 30)
    (hi : Half (J * R * (R + H) * (2 * R + H)) L n (bis j r h l n)) :
    BisOk j r h (bis j r h l n).1 (bis j r h l n).2 (bisM j r h l n) ∧ Half (J * R * (R + H) * (2 * R + H)) L (n + 1) (bis j r h l (n + 1)) := by
  obtain ⟨x, y, hx, hy, x0, x1, y0, y1, d1, d2, l1, l2⟩ := hi.v
  have hE := E_pos
  have hn30 : (n : Rat) ≤ 29 := by
    have : ((n : Nat) : Rat) ≤ ((29 : Nat) : Rat) := by exact_mod_cast (by omega : n ≤ 29)
    exact this
  have hn0 : (0 : Rat) ≤ (n : Rat) := by exact_mod_cast Nat.zero_le n
  have hcn : ((n + 1 : Nat) : Rat) = (n : Rat) + 1 := by simp
  have e145 := E_small (c := 5 * (n : Rat)) (B := 1 / 100000) (by grind)
  have A := fadd_ok (201 / 100) hx hy (by grind) (by grind) (by grind)
  obtain ⟨s, hs, s1, s2⟩ := A.near
  have hs' : S (fadd (bis j r h l n).1 (bis j r h l n).2) s := hs
  have s0 := fadd_nonneg hx hy (by grind) (by grind) hs'
  have e2 := E_small (c := 201 / 100 + 1 / 1000) (B := 1 / 1000000) (by grind)
  have Dv := fdiv_ok (101 / 100) hs' s_two (by decide +kernel) (by grind) (by grind) (by grind)
  obtain ⟨m, hm, m1, m2⟩ := Dv.near
  have hm' : S (bisM j r h l n) m := hm
  have m0 := fdiv_nonneg hs' s_two (by grind) s0 (by grind) hm
  have e3 := E_small (c := 3 * (101 / 100) + 1 / 1000) (B := 1 / 1000000) (by grind)
  have ma : m ≤ (x + y) / 2 + E * (41 / 10) := by grind
  have mb : (x + y) / 2 - E * (41 / 10) ≤ m := by grind
  have mle : m ≤ 1 + E * (5 * ((n + 1 : Nat) : Rat)) := by rw [hcn]; grind
  have mle2 : m ≤ 1 + 1 / 50000 := by have := E_small (c := 41 / 10) (B := 1 / 1000000) (by grind); grind
  obtain ⟨o1, o2, R1, H1, hR1, hH1, R10, R13, H10, H18, c1, c2, n1, n2, n3⟩ := scale hr hh hm' b j0 j4 k4 m4 m0 mle2
  obtain ⟨ok, _, _, Aw⟩ := way_near hj hR1 hH1 (by grind) R10 (by grind) H10 (by grind) (by grind) (by grind)
  obtain ⟨z, hz, z1, z2⟩ := Aw
  have hle := leq_is hz hl
  obtain ⟨n31, n32⟩ := n3
  have hd := del_pos n
  have key : bis j r h l (n + 1) = if (Ieee.single.order (wayW j (fmul (bisM j r h l n) r) (fmul (bisM j r h l n) h)) l == some .lt || Ieee.single.order (wayW j (fmul (bisM j r h l n) r) (fmul (bisM j r h l n) h)) l == some .eq) = true then (bisM j r h l n, (bis j r h l n).2) else ((bis j r h l n).1, bisM j r h l n) := rfl
  refine ⟨⟨A.ok, Dv.ok, o1, o2, ok⟩, ?_⟩
  rw [key, hle]
  have hde : del (n + 1) = del n / 2 := rfl
  by_cases hc : z ≤ L
  · simp only [hc, decide_true, if_true]
    refine ⟨m, y, hm', hy, m0, mle, y0, by rw [hcn]; grind, ?_, ?_, by grind, l2⟩
    · rw [hde]; grind
    · rw [hde]; grind
  · simp only [hc, decide_false, Bool.false_eq_true, if_false]
    refine ⟨x, m, hx, hm', x0, by rw [hcn]; grind, m0, mle, ?_, ?_, l1, by grind⟩
    · rw [hde]; grind
    · rw [hde]; grind

theorem half_all {j l r h : Nat} {J K M L R H : Rat} (hj : S j J) (hl : S l L) (hr : S r R) (hh : S h H) (b : Base J K M R H) (j0 : 1 / 2 ≤ J) (j4 : J ≤ 4) (k4 : K ≤ 4) (m4 : M ≤ 4)
    (l0 : 0 ≤ L) (hW : L - E * 1600 ≤ J * R * (R + H) * (2 * R + H)) (n : Nat) (hn : n ≤ 30) :
    (∀ i, i < n → BisOk j r h (bis j r h l i).1 (bis j r h l i).2 (bisM j r h l i)) ∧ Half (J * R * (R + H) * (2 * R + H)) L n (bis j r h l n) := by
  induction n with
  | zero =>
    have hE := E_pos
    refine ⟨fun i hi => absurd hi (Nat.not_lt_zero i), ⟨0, 1, s_zero, s_one, Rat.le_refl, ?_, by grind, ?_, ?_, ?_, ?_, ?_⟩⟩
    · have e : ((0 : Nat) : Rat) = 0 := rfl
      rw [e]; grind
    · have e : ((0 : Nat) : Rat) = 0 := rfl
      rw [e]; grind
    · simp only [del]; grind
    · simp only [del]; grind
    · grind
    · grind
  | succ n ih =>
    obtain ⟨h1, h2⟩ := ih (by omega)
    obtain ⟨k1, k2⟩ := half_step hj hl hr hh b j0 j4 k4 m4 (by omega) h2
    refine ⟨fun i hi => ?_, k2⟩
    by_cases hc : i = n
    · subst hc; exact k1
    · exact h1 i (by omega)

theorem del30 : del 30 ≤ E := by
  rw [E_val]; decide +kernel

/-- The way is too long: the plan is made shorter. -/
theorem caseB {j l r h : Nat} {J K M L R H : Rat} (hj : S j J) (hl : S l L) (hr : S r R) (hh : S h H) (b : Base J K M R H) (j0 : 1 / 2 ≤ J) (j4 : J ≤ 4) (_ : 1 / 2 ≤ K) (k4 : K ≤ 4) (_ : 1 / 2 ≤ M) (m4 : M ≤ 4) (l0 : 1 / 4 ≤ L) (l8 : L ≤ 8)
    (hgt : ∀ z, S (wayW j r h) z → ¬ z ≤ L) :
    WayOk j r h ∧ (∀ i, i < 30 → BisOk j r h (bis j r h l i).1 (bis j r h l i).2 (bisM j r h l i)) ∧
      floatBits .mul .f32 (bis j r h l 30).1 r = some (fmul (bis j r h l 30).1 r) ∧ floatBits .mul .f32 (bis j r h l 30).1 h = some (fmul (bis j r h l 30).1 h) ∧
      ∃ R1 H1 al, Plan j (fmul (bis j r h l 30).1 r) (fmul (bis j r h l 30).1 h) 0 J K M L R1 H1 0 al := by
  have hE := E_pos
  have P0 := Rat.mul_nonneg (by grind : 0 ≤ J) b.r0
  have b1 := b.r0; have b2 := b.r3; have b3 := b.h0; have b4 := b.h8; have b5 := b.jr; have b6 := b.p1; have b7 := b.p2
  obtain ⟨ok, Ajr, Ap1, Aw⟩ := way_near hj hr hh (by grind) b1 (by grind) b3 (by grind) (by grind) (by grind)
  obtain ⟨wz, hwz, w1, w2⟩ := Aw
  have hwl := hgt wz hwz
  obtain ⟨hok, hf⟩ := half_all hj hl hr hh b j0 j4 k4 m4 (by grind) (by grind) 30 (Nat.le_refl 30)
  obtain ⟨x, y, hx, hy, x0, x1, y0, y1, d1, d2, a1, a2⟩ := hf.v
  have e30 : ((30 : Nat) : Rat) = 30 := rfl
  rw [e30] at x1 y1
  have hdl := del30
  have e150 := E_small (c := 5 * 30) (B := 1 / 50000) (by grind)
  have hPP : 0 ≤ J * R * (R + H) := Rat.mul_nonneg P0 (by grind)
  have hPm := mm hPP (by grind : J * R * (R + H) ≤ 4001 / 1000) (by grind : 0 ≤ 2 * R + H) (by grind : 2 * R + H ≤ 1375 / 100)
  have hW0 : 0 ≤ J * R * (R + H) * (2 * R + H) := hPm.1
  have hW56 : J * R * (R + H) * (2 * R + H) ≤ 56 := by grind
  obtain ⟨o1, o2, R1, H1, hR1, hH1, R10, R13, H10, H18, c1, c2, n1, n2, n3⟩ := scale hr hh hx b j0 j4 k4 m4 x0 (by grind)
  have hx7 := xs7 J R1 H1 0
  -- the cubes are near one another
  have hxy : y ≤ x + E * 10 := by grind
  have hcub : y * y * y ≤ x * x * x + E * 32 := by
    have y101 : y ≤ 101 / 100 := by grind
    have x101 : x ≤ 101 / 100 := by grind
    have q1 := mm y0 y101 y0 y101
    have q2 := mm x0 x101 y0 y101
    have q3 := mm x0 x101 x0 x101
    have hs : 0 ≤ y * y + x * y + x * x ∧ y * y + x * y + x * x ≤ 31 / 10 := by constructor <;> grind
    have e : y * y * y - x * x * x = (y - x) * (y * y + x * y + x * x) := by grind
    have m1 := Rat.mul_le_mul_of_nonneg_right (by grind : y - x ≤ E * 10) hs.1
    have m2 := Rat.mul_le_mul_of_nonneg_left hs.2 (by grind : 0 ≤ E * 10)
    grind
  have hcW : y * y * y * (J * R * (R + H) * (2 * R + H)) ≤ x * x * x * (J * R * (R + H) * (2 * R + H)) + E * 1800 := by
    have m1 := Rat.mul_le_mul_of_nonneg_right hcub hW0
    have m2 := Rat.mul_le_mul_of_nonneg_left hW56 (by grind : 0 ≤ E * 32)
    grind
  generalize hWe : J * R * (R + H) * (2 * R + H) = W at *
  obtain ⟨n31, n32⟩ := n3
  have e9500 := E_small (c := 9500) (B := 1 / 1000) (by grind)
  have hend : J * R1 * (R1 + H1) * (2 * R1 + H1) ≤ L + 1 / 1000 ∧ L - 1 / 1000 ≤ J * R1 * (R1 + H1) * (2 * R1 + H1) := by constructor <;> grind
  have hJR10 : 0 ≤ J * R1 := Rat.mul_nonneg (by grind) R10
  obtain ⟨ok1, Ajr1, _, _⟩ := way_near hj hR1 hH1 (by grind) R10 (by grind) H10 (by grind) (by grind) (by grind)
  obtain ⟨al, hal, al1, al2, al3, al4⟩ := al_of Ajr1 hJR10 (by grind)
  have hr0 : 0 < R1 := by
    by_cases hc : 0 < R1
    · exact hc
    · exfalso
      have : R1 = 0 := by grind
      have h2 : J * R1 * (R1 + H1) * (2 * R1 + H1) = 0 := by rw [this]; grind
      grind
  have e200 := E_small (c := 200) (B := 1 / 10000) (by grind)
  have x15 : x ≤ 1 + 1 / 50000 := by grind
  have hjr : J * R1 ≤ K + 1 / 1000 - 1 / 10000 := by
    have := (mm x0 x15 P0 b5).2
    have := n1.1
    have := E_small (c := 13) (B := 1 / 100000) (by grind)
    grind
  have hpm : J * R1 * (R1 + H1) ≤ M + 1 / 200 := by
    have hxx := mm x0 x15 x0 x15
    have := (mm hxx.1 hxx.2 hPP b6).2
    have := n2.1
    grind
  refine ⟨ok, hok, o1, o2, R1, H1, al, ⟨⟨hj, hR1, hH1, s_zero, ok1.m1, hal, al1, al2⟩, ⟨by grind, j4, R10, R13, H10, H18, Rat.le_refl, by grind, c1, c2, ?_⟩, al3, al4, hr0, hjr, hpm, ?_, ?_⟩⟩
  · have e : J * R1 * (R1 + H1) * (2 * R1 + H1 + 0) = J * R1 * (R1 + H1) * (2 * R1 + H1) := by grind
    rw [e]; grind
  · rw [hx7]; grind
  · rw [hx7]; grind
end Fl
