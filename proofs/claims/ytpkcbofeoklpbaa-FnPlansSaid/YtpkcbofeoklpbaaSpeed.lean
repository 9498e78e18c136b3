/- SpeedPlan at the level of words. -/
import Derived.Test.YtpkcbofeoklpbaaJerk
namespace Fl
open Go

/-- how fast at the other end -/
def reachW (v rise long : Nat) : Nat := froot (fadd (fmul v v) (fmul (fmul 1073741824 rise) long))
structure ReachOk (v rise long : Nat) : Prop where
  m1 : floatBits .mul .f32 v v = some (fmul v v)
  m2 : floatBits .mul .f32 1073741824 rise = some (fmul 1073741824 rise)
  m3 : floatBits .mul .f32 (fmul 1073741824 rise) long = some (fmul (fmul 1073741824 rise) long)
  a : floatBits .add .f32 (fmul v v) (fmul (fmul 1073741824 rise) long) = some (fadd (fmul v v) (fmul (fmul 1073741824 rise) long))
  s : ∃ q, S (fadd (fmul v v) (fmul (fmul 1073741824 rise) long)) q ∧ 0 ≤ q ∧ q ≤ 1000000

theorem rat_div_mul' {a b : Rat} (hb : b ≠ 0) : a / b * b = a := by
  rw [Rat.div_def, Rat.mul_assoc, Rat.inv_mul_cancel _ hb, Rat.mul_one]

theorem sq_le' {a b : Rat} (h : a * a ≤ b * b) (hb : 0 ≤ b) : a ≤ b := by
  by_cases hc : a ≤ b
  · exact hc
  · exfalso
    have h1 : b < a := by grind
    have h2 := Rat.mul_le_mul_of_nonneg_right (Rat.le_of_lt h1) hb
    have h3 := Rat.mul_lt_mul_of_pos_left h1 (by grind : 0 < a)
    grind
theorem le_sq {a b : Rat} (h0 : 0 ≤ a) (h : a ≤ b) : a * a ≤ b * b := (mm h0 h h0 h).2

theorem reach_near {v rise long : Nat} {x K L : Rat} (hv : S v x) (hk : S rise K) (hl : S long L) (x0 : 0 ≤ x) (x4 : x ≤ 4) (k0 : 1 / 2 ≤ K) (k4 : K ≤ 4) (l0 : 1 / 4 ≤ L) (l4 : L ≤ 4) :
    ReachOk v rise long ∧ ∃ z, S (reachW v rise long) z ∧ 2 / 5 ≤ z ∧ z ≤ 8 ∧ Nr (z * z) (x * x + 2 * K * L) 400 := by
  have hE := E_pos
  have hxx := mm x0 x4 x0 x4
  have hKL := mm (by grind : (0 : Rat) ≤ K) k4 (by grind : (0 : Rat) ≤ L) l4
  have hKL2 := mm (by grind : (0 : Rat) ≤ 1 / 2) k0 (by grind : (0 : Rat) ≤ 1 / 4) l0
  obtain ⟨m1, M1⟩ := (Ap.of hv).mul (B := 16) hv x0 x4 (by grind) (by grind) (by grind) (by grind) (by grind)
  obtain ⟨m2, M2⟩ := (Ap.of s_two).mul (B := 8) hk (by grind) k4 (by grind) (by grind) (by grind) (by grind) (by grind)
  obtain ⟨m3, M3⟩ := M2.mul (B := 32) hl (by grind) l4 (by grind) (by grind) (by grind) (by grind) (by grind)
  obtain ⟨a, A⟩ := M1.add (B := 48) M3 (by grind) (by grind) (by grind) (by grind)
  obtain ⟨q, hq, nq⟩ := (A.mono (c' := 130) (by grind)).nr
  have e130 := E_small (c := 130) (B := 1 / 1000) (by grind)
  obtain ⟨q1, q2⟩ := nq
  have q0 : 0 ≤ q := by grind
  refine ⟨⟨m1, m2, m3, a, q, hq, q0, by grind⟩, ?_⟩
  obtain ⟨_, _, _, r, z, hz, r0, r1, r2, z1, z2⟩ := froot_ok hq q0 (by grind)
  have hrr := Rat.mul_nonneg r0 r0
  have hEt : E ≤ 1 / 1000000 := by rw [E_val]; decide +kernel
  have b1 : r * r * E ≤ r * r * (1 / 1000000) := Rat.mul_le_mul_of_nonneg_left hEt hrr
  have hr49 : r * r ≤ 49 := by grind
  have hr7 : r ≤ 7 := sq_le' (by grind) (by grind)
  have b2 : r * r * E ≤ 49 * E := Rat.mul_le_mul_of_nonneg_right hr49 (Rat.le_of_lt hE)
  have b3 := Rat.mul_nonneg hrr (Rat.le_of_lt hE)
  have hrq : Nr (r * r) q 1 := by constructor <;> grind
  have hzr : Nr z r 15 := by
    have : E * r ≤ E * 7 := E_mul_le hr7
    constructor <;> grind
  have e15 := E_small (c := 15) (B := 1 / 100000) (by grind)
  have hr49' : 49 / 100 ≤ r := by
    have : 1 / 4 - 1 / 500 ≤ r * r := by
      have := E_small (c := 1) (B := 1 / 1000) (by grind)
      have := hrq.2
      grind
    exact sq_le' (by grind) r0
  have z0 : 0 ≤ z := by have := hzr.2; grind
  have z71 : z ≤ 71 / 10 := by have := hzr.1; grind
  have hzz := hzr.mul hzr z0 z71 r0 hr7 (by grind) (by grind)
  refine ⟨z, hz, by have := hzr.2; grind, by grind, ?_⟩
  obtain ⟨h1, h2⟩ := hzz
  obtain ⟨h3, h4⟩ := hrq
  constructor <;> grind

def upd (V : Nat → Nat) (i x : Nat) : Nat → Nat := fun k => if k = i then x else V k
def lowW (x y : Nat) : Bool := Ieee.single.order x y == some .lt

/-- the speeds, from the first piece on -/
def fwdA (V0 : Nat → Nat) (rise : Nat) (lw : Nat → Nat) : Nat → Nat → Nat
  | 0 => V0
  | i + 1 => let V := fwdA V0 rise lw i
             let x := reachW (V i) rise (lw i)
             if lowW x (V (i + 1)) = true then upd V (i + 1) x else V
/-- from the last piece back: j pieces are done -/
def bwdA (V0 : Nat → Nat) (rise : Nat) (lw : Nat → Nat) (n : Nat) : Nat → Nat → Nat
  | 0 => fwdA V0 rise lw n
  | j + 1 => let V := bwdA V0 rise lw n j
             let x := reachW (V (n - j)) rise (lw (n - 1 - j))
             if lowW x (V (n - 1 - j)) = true then upd V (n - 1 - j) x else V

/-- all speeds are numbers from nothing to the greatest one, and not nothing but at the ends -/
structure Spd (n : Nat) (M : Rat) (V : Nat → Nat) (v : Nat → Rat) : Prop where
  s : ∀ k, k ≤ n → S (V k) (v k)
  lo : ∀ k, k ≤ n → 0 ≤ v k
  hi : ∀ k, k ≤ n → v k ≤ M
  pos : ∀ k, 0 < k → k < n → 2 / 5 ≤ v k
  z0 : v 0 = 0
  zn : v n = 0

theorem lowW_iff {a b : Nat} {x y : Rat} (ha : S a x) (hb : S b y) : lowW a b = decide (x < y) := lss_is ha hb

/-- lowering one speed, to another that is not nothing -/
theorem Spd.lower {n : Nat} {M : Rat} {V : Nat → Nat} {v : Nat → Rat} (h : Spd n M V v) {i x : Nat} {z : Rat} (hx : S x z) (hz : 2 / 5 ≤ z) (hi : i ≤ n) (hc : z < v i) :
    Spd n M (upd V i x) (fun k => if k = i then z else v k) := by
  have hi0 : i ≠ 0 := by intro e; subst e; have := h.z0; grind
  have hin : i ≠ n := by intro e; subst e; have := h.zn; grind
  refine ⟨?_, ?_, ?_, ?_, ?_, ?_⟩
  · intro k hk
    by_cases e : k = i
    · subst e; simp [upd, hx]
    · simp [upd, e]; exact h.s k hk
  · intro k hk
    by_cases e : k = i
    · subst e; simp; grind
    · simp [e]; exact h.lo k hk
  · intro k hk
    by_cases e : k = i
    · subst e; simp; have := h.hi k hk; grind
    · simp [e]; exact h.hi k hk
  · intro k h1 h2
    by_cases e : k = i
    · subst e; simp; exact hz
    · simp [e]; exact h.pos k h1 h2
  · have e : ¬ (0 : Nat) = i := fun e => hi0 e.symm
    simp [e]; exact h.z0
  · have e : ¬ n = i := fun e => hin e.symm
    simp [e]; exact h.zn

/-- what the pieces are -/
structure Pcs (n : Nat) (lw : Nat → Nat) (L : Nat → Rat) : Prop where
  s : ∀ k, k < n → S (lw k) (L k)
  lo : ∀ k, k < n → 1 / 4 ≤ L k
  hi : ∀ k, k < n → L k ≤ 4

theorem fwd_inv {n : Nat} {M K : Rat} {V0 lw : Nat → Nat} {v0 L : Nat → Rat} {rise : Nat} (h0 : Spd n M V0 v0) (hp : Pcs n lw L) (hk : S rise K) (k0 : 1 / 2 ≤ K) (k4 : K ≤ 4) (m4 : M ≤ 4) (i : Nat) (hi : i ≤ n) :
    (∀ k, k < i → ReachOk (fwdA V0 rise lw k k) rise (lw k)) ∧
    ∃ v, Spd n M (fwdA V0 rise lw i) v ∧ (∀ k, k < i → v (k + 1) * v (k + 1) ≤ v k * v k + 2 * K * L k + E * 400) := by
  induction i with
  | zero => exact ⟨fun k hk => absurd hk (Nat.not_lt_zero k), v0, h0, fun k hk => absurd hk (Nat.not_lt_zero k)⟩
  | succ i ih =>
    obtain ⟨h1, v, h2, h3⟩ := ih (by omega)
    have hin : i < n := by omega
    obtain ⟨ok, z, hz, z0, z8, n1, n2⟩ := reach_near (h2.s i (by omega)) hk (hp.s i hin) (h2.lo i (by omega)) (by have := h2.hi i (by omega); grind) k0 k4 (hp.lo i hin) (hp.hi i hin)
    refine ⟨fun k hk => ?_, ?_⟩
    · by_cases hc : k = i
      · subst hc; exact ok
      · exact h1 k (by omega)
    · have key : fwdA V0 rise lw (i + 1) = if lowW (reachW (fwdA V0 rise lw i i) rise (lw i)) (fwdA V0 rise lw i (i + 1)) = true then upd (fwdA V0 rise lw i) (i + 1) (reachW (fwdA V0 rise lw i i) rise (lw i)) else fwdA V0 rise lw i := rfl
      rw [key, lowW_iff hz (h2.s (i + 1) (by omega))]
      by_cases hc : z < v (i + 1)
      · simp only [hc, decide_true, if_true]
        refine ⟨_, h2.lower hz z0 (by omega) hc, fun k hk => ?_⟩
        by_cases e : k = i
        · subst e
          have e2 : ¬ k = k + 1 := by omega
          simp only [if_true, e2, if_false]
          grind
        · have e1 : ¬ k + 1 = i + 1 := by omega
          have e2 : ¬ k = i + 1 := by omega
          simp only [e1, e2, if_false]
          exact h3 k (by omega)
      · simp only [hc, decide_false, Bool.false_eq_true, if_false]
        refine ⟨v, h2, fun k hk => ?_⟩
        by_cases e : k = i
        · subst e
          have := le_sq (h2.lo (k + 1) (by omega)) (by grind : v (k + 1) ≤ z)
          grind
        · exact h3 k (by omega)

theorem bwd_inv {n : Nat} {M K : Rat} {V0 lw : Nat → Nat} {v0 L : Nat → Rat} {rise : Nat} (h0 : Spd n M V0 v0) (hp : Pcs n lw L) (hk : S rise K) (k0 : 1 / 2 ≤ K) (k4 : K ≤ 4) (m4 : M ≤ 4) (j : Nat) (hj : j ≤ n) :
    (∀ k, k < j → ReachOk (bwdA V0 rise lw n k (n - k)) rise (lw (n - 1 - k))) ∧
    ∃ v, Spd n M (bwdA V0 rise lw n j) v ∧ (∀ k, k < n → v (k + 1) * v (k + 1) ≤ v k * v k + 2 * K * L k + E * 400) ∧ (∀ k, n - j ≤ k → k < n → v k * v k ≤ v (k + 1) * v (k + 1) + 2 * K * L k + E * 400) := by
  induction j with
  | zero =>
    obtain ⟨_, v, h2, h3⟩ := fwd_inv h0 hp hk k0 k4 m4 n (Nat.le_refl n)
    exact ⟨fun k hk => absurd hk (Nat.not_lt_zero k), v, h2, h3, fun k h1 h2 => absurd h1 (by omega)⟩
  | succ j ih =>
    obtain ⟨h1, v, h2, hB, hA⟩ := ih (by omega)
    have hin : n - 1 - j < n := by omega
    obtain ⟨ok, z, hz, z0, z8, n1, n2⟩ := reach_near (h2.s (n - j) (by omega)) hk (hp.s (n - 1 - j) hin) (h2.lo (n - j) (by omega)) (by have := h2.hi (n - j) (by omega); grind) k0 k4 (hp.lo _ hin) (hp.hi _ hin)
    refine ⟨fun k hk => ?_, ?_⟩
    · by_cases hc : k = j
      · subst hc; exact ok
      · exact h1 k (by omega)
    · have key : bwdA V0 rise lw n (j + 1) = if lowW (reachW (bwdA V0 rise lw n j (n - j)) rise (lw (n - 1 - j))) (bwdA V0 rise lw n j (n - 1 - j)) = true then upd (bwdA V0 rise lw n j) (n - 1 - j) (reachW (bwdA V0 rise lw n j (n - j)) rise (lw (n - 1 - j))) else bwdA V0 rise lw n j := rfl
      have ei : n - j = (n - 1 - j) + 1 := by omega
      have ei2 : n - (j + 1) = n - 1 - j := by omega
      have hLp := hp.lo _ hin
      have hKL := mm (by grind : (0 : Rat) ≤ K) k4 (by grind : (0 : Rat) ≤ L (n - 1 - j)) (hp.hi _ hin)
      have hE := E_pos
      rw [key, lowW_iff hz (h2.s (n - 1 - j) (by omega)), ei2]
      rw [ei] at n1 n2 hA
      generalize hI : n - 1 - j = i at *
      by_cases hc : z < v i
      · simp only [hc, decide_true, if_true]
        have zv := le_sq (by grind : 0 ≤ z) (Rat.le_of_lt hc)
        refine ⟨_, h2.lower hz z0 (by omega) hc, fun k hk => ?_, fun k hk1 hk2 => ?_⟩
        · by_cases e : k = i
          · subst e
            have e2 : ¬ k + 1 = k := by omega
            simp only [if_true, e2, if_false]
            grind
          · by_cases e3 : k + 1 = i
            · have hb := hB k hk
              subst e3
              simp only [if_true, e, if_false]
              grind
            · simp only [e, e3, if_false]
              exact hB k hk
        · by_cases e : k = i
          · subst e
            have e2 : ¬ k + 1 = k := by omega
            simp only [if_true, e2, if_false]
            grind
          · have e3 : ¬ k + 1 = i := by omega
            simp only [e, e3, if_false]
            exact hA k (by omega) hk2
      · simp only [hc, decide_false, Bool.false_eq_true, if_false]
        refine ⟨v, h2, hB, fun k hk1 hk2 => ?_⟩
        by_cases e : k = i
        · subst e
          have := le_sq (h2.lo k (by omega)) (by grind : v k ≤ z)
          grind
        · exact hA k (by omega) hk2

/-! the time -/
def bothW (V : Nat → Nat) (i : Nat) : Nat := fadd (V i) (V (i + 1))
def termW (V lw : Nat → Nat) (i : Nat) : Nat := fdiv (fmul 1073741824 (lw i)) (bothW V i)
def sumW (V lw : Nat → Nat) : Nat → Nat
  | 0 => 0
  | i + 1 => fadd (sumW V lw i) (termW V lw i)
structure SumOk (V lw : Nat → Nat) (i : Nat) : Prop where
  a : floatBits .add .f32 (V i) (V (i + 1)) = some (bothW V i)
  pos : ∃ b, S (bothW V i) b ∧ 0 < b
  m : floatBits .mul .f32 1073741824 (lw i) = some (fmul 1073741824 (lw i))
  d : floatBits .quo .f32 (fmul 1073741824 (lw i)) (bothW V i) = some (termW V lw i)
  s : floatBits .add .f32 (sumW V lw i) (termW V lw i) = some (sumW V lw (i + 1))

/-- the least time -/
def leastR (L : Nat → Rat) (M : Rat) : Nat → Rat
  | 0 => 0
  | i + 1 => leastR L M i + L i / M

theorem term_near {n : Nat} {M : Rat} {V lw : Nat → Nat} {v L : Nat → Rat} (h : Spd n M V v) (hp : Pcs n lw L) (m0 : 1 / 2 ≤ M) (m4 : M ≤ 4) (hn : 2 ≤ n) (i : Nat) (hi : i < n) :
    floatBits .add .f32 (V i) (V (i + 1)) = some (bothW V i) ∧ (∃ b, S (bothW V i) b ∧ 0 < b) ∧ floatBits .mul .f32 1073741824 (lw i) = some (fmul 1073741824 (lw i)) ∧
      floatBits .quo .f32 (fmul 1073741824 (lw i)) (bothW V i) = some (termW V lw i) ∧ ∃ t, S (termW V lw i) t ∧ 0 ≤ t ∧ t ≤ 22 ∧ L i / M - E * 300 ≤ t := by
  have hE := E_pos
  have a0 := h.lo i (by omega); have a1 := h.hi i (by omega)
  have b0 := h.lo (i + 1) (by omega); have b1 := h.hi (i + 1) (by omega)
  have hb25 : 2 / 5 ≤ v i + v (i + 1) := by
    by_cases hc : i = 0
    · have := h.pos (i + 1) (by omega) (by omega); grind
    · have := h.pos i (by omega) (by omega); grind
  have l0 := hp.lo i hi; have l4 := hp.hi i hi
  have A := fadd_ok 8 (h.s i (by omega)) (h.s (i + 1) (by omega)) (by grind) (by grind) (by grind)
  obtain ⟨b, hb, c1, c2⟩ := A.near
  have hb' : S (bothW V i) b := hb
  have e8 := E_small (c := 8 + 1 / 1000) (B := 1 / 1000) (by grind)
  have bpos : 39 / 100 ≤ b := by grind
  have bhi : b ≤ 2 * M + E * 9 := by grind
  have m := fmul_ok 8 s_two (hp.s i hi) (by grind) (by grind) (by grind)
  obtain ⟨p, hp', p1, p2⟩ := m.near
  have hp'' : S (fmul 1073741824 (lw i)) p := hp'
  have p0 : 0 ≤ p := by grind
  have bp : 0 < b := by grind
  have bne : b ≠ 0 := by grind
  have hdm := rat_div_mul' (a := p) bne
  have hi0 : 0 < b⁻¹ := Rat.inv_pos.2 bp
  have q0 : 0 ≤ p / b := by rw [Rat.div_def]; exact Rat.mul_nonneg p0 (Rat.le_of_lt hi0)
  have q21 : p / b ≤ 21 := by
    by_cases hc : p / b ≤ 21
    · exact hc
    · exfalso
      have := (mm (by grind : (0 : Rat) ≤ 21) (by grind : 21 ≤ p / b) (by grind : (0 : Rat) ≤ 39 / 100) bpos).2
      grind
  have d := fdiv_ok 21 hp'' hb' bne (by grind) q21 (by grind)
  obtain ⟨t, ht, t1, t2⟩ := d.near
  have ht' : S (termW V lw i) t := ht
  have t0 := fdiv_nonneg hp'' hb' bp p0 (by grind) ht
  have e63 := E_small (c := 3 * 21 + 1 / 1000) (B := 1 / 1000) (by grind)
  refine ⟨A.ok, ⟨b, hb', bp⟩, m.ok, d.ok, t, ht', t0, by grind, ?_⟩
  -- p / b is at least L / M, nearly
  have hM : 0 < M := by grind
  have hMne : M ≠ 0 := by grind
  have hlm := rat_div_mul' (a := L i) hMne
  have hmi : 0 < M⁻¹ := Rat.inv_pos.2 hM
  have lm0 : 0 ≤ L i / M := by rw [Rat.div_def]; exact Rat.mul_nonneg (by grind) (Rat.le_of_lt hmi)
  generalize hx : L i / M = x at *
  generalize hy : p / b = y at *
  have key : x * (2 * M) ≤ y * (2 * M) + E * (22 * 9) := by
    have k1 : y * b ≤ y * (2 * M + E * 9) := Rat.mul_le_mul_of_nonneg_left bhi q0
    have k2 : y * (E * 9) ≤ 21 * (E * 9) := Rat.mul_le_mul_of_nonneg_right q21 (by grind)
    grind
  have key2 : x ≤ y + E * 220 := by
    by_cases hc : x ≤ y + E * 220
    · exact hc
    · exfalso
      have h1 : y + E * 220 < x := by grind
      have h2 := Rat.mul_lt_mul_of_pos_right h1 (by grind : 0 < 2 * M)
      have h3 : E * 220 * 1 ≤ E * 220 * (2 * M) := Rat.mul_le_mul_of_nonneg_left (by grind) (by grind)
      grind
  grind

theorem sum_near {n : Nat} {M : Rat} {V lw : Nat → Nat} {v L : Nat → Rat} (h : Spd n M V v) (hp : Pcs n lw L) (m0 : 1 / 2 ≤ M) (m4 : M ≤ 4) (hn : 2 ≤ n) (hn7 : n ≤ 7) (i : Nat) (hi : i ≤ n) :
    (∀ k, k < i → SumOk V lw k) ∧ ∃ s, S (sumW V lw i) s ∧ 0 ≤ s ∧ s ≤ 22 * i + 1 / 100 * i ∧ leastR L M i - E * (500 * i) ≤ s := by
  induction i with
  | zero =>
    refine ⟨fun k hk => absurd hk (Nat.not_lt_zero k), 0, s_zero, Rat.le_refl, ?_, ?_⟩
    · have e : ((0 : Nat) : Rat) = 0 := rfl
      rw [e]; grind
    · have e : ((0 : Nat) : Rat) = 0 := rfl
      rw [e]; simp only [leastR]; grind
  | succ i ih =>
    obtain ⟨h1, s, hs, s0, s1, s2⟩ := ih (by omega)
    obtain ⟨o1, o2, o3, o4, t, ht, t0, t22, tl⟩ := term_near h hp m0 m4 hn i (by omega)
    have hir : (i : Rat) ≤ 6 := by
      have : ((i : Nat) : Rat) ≤ ((6 : Nat) : Rat) := by exact_mod_cast (by omega : i ≤ 6)
      exact this
    have hi0 : (0 : Rat) ≤ (i : Rat) := by exact_mod_cast Nat.zero_le i
    have hc1 : ((i + 1 : Nat) : Rat) = (i : Rat) + 1 := by simp
    have hE := E_pos
    have A := fadd_ok 156 hs ht (by grind) (by grind) (by grind)
    obtain ⟨y, hy, y1, y2⟩ := A.near
    have hy' : S (sumW V lw (i + 1)) y := hy
    have y0 := fadd_nonneg hs ht (by grind) (by grind) hy
    have e157 := E_small (c := 156 + 1 / 1000) (B := 1 / 100) (by grind)
    refine ⟨fun k hk => ?_, y, hy', y0, ?_, ?_⟩
    · by_cases hc : k = i
      · subst hc; exact ⟨o1, o2, o3, o4, A.ok⟩
      · exact h1 k (by omega)
    · rw [hc1]; grind
    · rw [hc1]; simp only [leastR]; grind
end Fl
