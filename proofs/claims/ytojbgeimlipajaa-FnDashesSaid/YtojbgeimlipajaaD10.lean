/- What the law wants. -/
import Derived.Test.YtojbgeimlipajaaD9
namespace Go.Proofs.Ytojbgeimlipajaa
open Fl

def totW (P : Nat → Pt) : Nat → Nat
  | 0 => 0
  | i + 1 => dadd (totW P i) (up (longW (subP (P (i + 1)) (P i))))
theorem tot_near (w : Path) (i : Nat) (hi : i ≤ w.N) :
    (∀ k, k < i → floatBits .add .f64 (totW w.P k) (up (longW (subP (w.P (k + 1)) (w.P k)))) = some (totW w.P (k + 1))) ∧ ∃ v, D (totW w.P i) v ∧ v - w.Lam i ≤ E * (i : Rat) ∧ w.Lam i - v ≤ E * (i : Rat) := by
  have hE := E_pos
  have hE1 : E * 1000000 ≤ 1 := by rw [E_val]; decide +kernel
  induction i with
  | zero => exact ⟨fun k hk => absurd hk (Nat.not_lt_zero k), 0, d_zero, by simp [Path.Lam]; grind, by simp [Path.Lam]; grind⟩
  | succ i ih =>
    obtain ⟨h1, v, hv, v1, v2⟩ := ih (by omega)
    have s := w.seg i (by omega)
    have l0 := s.l0
    have l1 := s.l1
    have i6 : (i : Rat) ≤ 6 := cast_le (m := 6) (by have := w.n6; omega)
    have i0 := cast_0 i
    have hL := w.lam_le i (by omega)
    have hEi := Rat.mul_le_mul_of_nonneg_left i6 (Rat.le_of_lt hE)
    obtain ⟨_, dl⟩ := up_ok s.sl (by grind) (by grind)
    have a := dadd_ok 20 hv dl (by grind) (by grind) (by grind)
    obtain ⟨z, hz, z1, z2⟩ := a.near
    refine ⟨fun k hk => ?_, z, hz, ?_, ?_⟩
    · by_cases e : k = i
      · subst e; exact a.ok
      · exact h1 k (by omega)
    · rw [cast_s]; simp only [Path.Lam]; grind
    · rw [cast_s]; simp only [Path.Lam]; grind

/-- quarters are exact -/
theorem rep_quarter (n : Nat) (h : n < 16777216) : Rep Ieee.double ((n : Rat) / 4) := rep_double (rep_int (n : Int) (-2) _ (by omega) (by omega) (by
  have e : (((n : Nat) : Int) : Rat) = (n : Rat) := by exact_mod_cast rfl
  have : p2 (-2) = 1 / 4 := by decide +kernel
  rw [e, this]; grind))

def atW (a b : Nat) : Nat → Nat
  | 0 => 0
  | m + 1 => dadd (atW a b m) (dadd (up a) (up b))
theorem at_near {a b na nb : Nat} (ha : S a ((na : Rat) / 4)) (hb : S b ((nb : Rat) / 4)) (h8 : na ≤ 8) (h8' : nb ≤ 8) (m : Nat) (hm : m ≤ 20) :
    floatBits .add .f64 (up a) (up b) = some (dadd (up a) (up b)) ∧ (∀ k, k < m → floatBits .add .f64 (atW a b k) (dadd (up a) (up b)) = some (atW a b (k + 1))) ∧ D (atW a b m) ((m : Rat) * ((na : Rat) / 4 + (nb : Rat) / 4)) := by
  have a8 : (na : Rat) ≤ 8 := cast_le (m := 8) h8
  have b8 : (nb : Rat) ≤ 8 := cast_le (m := 8) h8'
  have a0 := cast_0 na
  have b0 := cast_0 nb
  obtain ⟨_, da⟩ := up_ok ha (by grind) (by grind)
  obtain ⟨_, db⟩ := up_ok hb (by grind) (by grind)
  have eab : (na : Rat) / 4 + (nb : Rat) / 4 = ((na + nb : Nat) : Rat) / 4 := by rw [show ((na + nb : Nat) : Rat) = (na : Rat) + (nb : Rat) by simp]; grind
  have s := dadd_ex da db (by grind) (by grind) (by rw [eab]; exact rep_quarter _ (by omega))
  refine ⟨s.ok, ?_⟩
  induction m with
  | zero =>
    refine ⟨fun k hk => absurd hk (Nat.not_lt_zero k), ?_⟩
    have e : ((0 : Nat) : Rat) = 0 := rfl
    rw [e, Rat.zero_mul]; exact d_zero
  | succ m ih =>
    obtain ⟨h1, h2⟩ := ih (by omega)
    have m20 : (m : Rat) ≤ 20 := cast_le (m := 20) (by omega)
    have m0 := cast_0 m
    have hs := s.is
    generalize hc : (na : Rat) / 4 + (nb : Rat) / 4 = c at *
    have hmc := mm m0 m20 (by grind : 0 ≤ c) (by grind : c ≤ 4)
    have e2 : (m : Rat) * c + c = (((m + 1) * (na + nb) : Nat) : Rat) / 4 := by
      rw [show (((m + 1) * (na + nb) : Nat) : Rat) = ((m : Rat) + 1) * ((na : Rat) + (nb : Rat)) by simp]
      rw [← hc]; grind
    have t := dadd_ex h2 hs (by grind) (by grind) (by rw [e2]; exact rep_quarter _ (by
      have : (m + 1) * (na + nb) ≤ 20 * 16 := Nat.mul_le_mul (by omega) (by omega)
      omega))
    refine ⟨fun k hk => ?_, ?_⟩
    · by_cases e : k = m
      · subst e; exact t.ok
      · exact h1 k (by omega)
    · rw [cast_s]
      have := t.is
      have e3 : ((m : Rat) + 1) * c = (m : Rat) * c + c := by grind
      rw [e3]; exact this

def minW (x y : Nat) : Nat := match Ieee.double.order x y with
  | some .lt => x
  | some .gt => y
  | _ => if (FloatKind.decode .f64 x).neg then x else y
theorem min_is {a b : Nat} {x y : Rat} (ha : D a x) (hb : D b y) : Ieee.double.order a b ≠ none ∧ D (minW a b) (if x < y then x else y) := by
  have h := order_is ha hb
  unfold minW
  rw [h]
  by_cases h1 : x < y
  · simp [h1]; exact ha
  · by_cases h2 : x = y
    · simp [h2]
      split
      · rw [← h2]; exact ha
      · exact hb
    · simp [h1, h2]; exact hb

def wantW (a b t : Nat) : Nat → Nat
  | 0 => 0
  | m + 1 => dadd (wantW a b t m) (minW (up a) (dsub t (atW a b m)))
structure WantOk (a b t k : Nat) : Prop where
  s : floatBits .sub .f64 t (atW a b k) = some (dsub t (atW a b k))
  o : Ieee.double.order (up a) (dsub t (atW a b k)) ≠ none
  a : floatBits .add .f64 (wantW a b t k) (minW (up a) (dsub t (atW a b k))) = some (wantW a b t (k + 1))

theorem want_near {a b na nb t : Nat} {T : Rat} (ha : S a ((na : Rat) / 4)) (hb : S b ((nb : Rat) / 4)) (h2 : 2 ≤ na) (h8 : na ≤ 8) (h2' : 2 ≤ nb) (h8' : nb ≤ 8) (ht : D t T) (t0 : 0 ≤ T) (t14 : T ≤ 14) (m : Nat) (hm : m ≤ 20)
    (hlt : ∀ k, k < m → (k : Rat) * ((na : Rat) / 4 + (nb : Rat) / 4) < T) :
    (∀ k, k < m → WantOk a b t k) ∧ ∃ v, D (wantW a b t m) v ∧ v - covS ((na : Rat) / 4) ((nb : Rat) / 4) T m ≤ E * (m : Rat) ∧ covS ((na : Rat) / 4) ((nb : Rat) / 4) T m - v ≤ E * (m : Rat) := by
  have hE := E_pos
  have hE1 : E * 1000000 ≤ 1 := by rw [E_val]; decide +kernel
  have a8 : (na : Rat) ≤ 8 := cast_le (m := 8) h8
  have b8 : (nb : Rat) ≤ 8 := cast_le (m := 8) h8'
  have a2 : 2 ≤ (na : Rat) := cast_le (n := 2) h2
  have b2 : 2 ≤ (nb : Rat) := cast_le (n := 2) h2'
  obtain ⟨_, da⟩ := up_ok ha (by grind) (by grind)
  induction m with
  | zero => exact ⟨fun k hk => absurd hk (Nat.not_lt_zero k), 0, d_zero, by simp [covS]; grind, by simp [covS]; grind⟩
  | succ m ih =>
    obtain ⟨h1, v, hv, v1, v2⟩ := ih (by omega) (fun k hk => hlt k (by omega))
    have hl := hlt m (by omega)
    obtain ⟨_, _, hat⟩ := at_near ha hb h8 h8' m (by omega)
    have m20 : (m : Rat) ≤ 20 := cast_le (m := 20) (by omega)
    have m0 := cast_0 m
    have hEm := Rat.mul_le_mul_of_nonneg_left m20 (Rat.le_of_lt hE)
    have hEm0 := Rat.mul_nonneg (Rat.le_of_lt hE) m0
    have sb := covS_bd (A := (na : Rat) / 4) (B := (nb : Rat) / 4) (T := T) (by grind) (by grind) m
    have ecov : cov ((na : Rat) / 4) ((nb : Rat) / 4) T m = if (na : Rat) / 4 ≤ T - (m : Rat) * ((na : Rat) / 4 + (nb : Rat) / 4) then (na : Rat) / 4 else T - (m : Rat) * ((na : Rat) / 4 + (nb : Rat) / 4) := by
      unfold cov; rw [if_neg (by grind)]
    have hmc := Rat.mul_nonneg m0 (by grind : 0 ≤ (na : Rat) / 4 + (nb : Rat) / 4)
    rw [cast_s]; simp only [covS]; rw [ecov]
    have A1 : 1 / 2 ≤ (na : Rat) / 4 ∧ (na : Rat) / 4 ≤ 2 := by constructor <;> grind
    generalize (m : Rat) * ((na : Rat) / 4 + (nb : Rat) / 4) = z at *
    generalize covS ((na : Rat) / 4) ((nb : Rat) / 4) T m = cs at *
    generalize (na : Rat) / 4 = A at *
    have s := dsub_ok 14 ht hat (by grind) (by grind) (by grind)
    obtain ⟨y, hy, y1, y2⟩ := s.near
    have hy' : D (dsub t (atW a b m)) y := hy
    obtain ⟨o, hmin⟩ := min_is da hy'
    have hmn : (if A < y then A else y) - (if A ≤ T - z then A else T - z) ≤ E * (1 / 1000) ∧ (if A ≤ T - z then A else T - z) - (if A < y then A else y) ≤ E * (1 / 1000) := by
      split <;> split <;> constructor <;> grind
    have hmb : -1 ≤ (if A < y then A else y) ∧ (if A < y then A else y) ≤ 3 := by
      split <;> constructor <;> grind
    generalize (if A < y then A else y) = mn at *
    generalize (if A ≤ T - z then A else T - z) = cv at *
    have g := dadd_ok 50 hv hmin (by grind) (by grind) (by grind)
    obtain ⟨x, hx, x1, x2⟩ := g.near
    refine ⟨fun k hk => ?_, x, hx, by grind, by grind⟩
    by_cases e : k = m
    · subst e; exact ⟨s.ok, o, g.ok⟩
    · exact h1 k (by omega)
end Go.Proofs.Ytojbgeimlipajaa
