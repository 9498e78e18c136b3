/- The path that is drawn, in words. -/
import Derived.Test.YtojbgeimlipajaaD13
namespace Go.Proofs.Ytojbgeimlipajaa
open Fl

/-- a quarter of a small integer -/
def q4W (n : Int) : Nat := fdiv (floatOfInt .f32 n) 1082130432
theorem q4_rep (n : Int) (h : n.natAbs ≤ 1000) : Rep Ieee.single ((n : Rat) / 4) := rep_int n (-2) _ (by omega) (by decide) (by
  have : p2 (-2) = 1 / 4 := by decide +kernel
  rw [this]; grind)
theorem int_cast_bd (n : Int) (m : Nat) (h : n.natAbs ≤ m) : -(m : Rat) ≤ (n : Rat) ∧ (n : Rat) ≤ (m : Rat) := by
  have h1 : -(m : Int) ≤ n := by omega
  have h2 : n ≤ (m : Int) := by omega
  have e : (((m : Nat) : Int) : Rat) = (m : Rat) := by exact_mod_cast rfl
  constructor
  · have : ((-(m : Int) : Int) : Rat) ≤ (n : Rat) := by exact_mod_cast h1
    rwa [Rat.intCast_neg, e] at this
  · have : (n : Rat) ≤ (((m : Int) : Int) : Rat) := by exact_mod_cast h2
    rwa [e] at this
theorem q4_ok (n : Int) (h : n.natAbs ≤ 1000) : floatBits .quo .f32 (floatOfInt .f32 n) 1082130432 = some (q4W n) ∧ S (q4W n) ((n : Rat) / 4) := by
  have b := int_cast_bd n 1000 h
  have e : ((1000 : Nat) : Rat) = 1000 := rfl
  rw [e] at b
  have g := fdiv_ex (int_ok n (by omega)) s_four (by decide) (by grind) (by grind) (q4_rep n h)
  exact ⟨g.ok, g.is⟩

/-- a step of the path: two picks -/
def stepZ (z : Pt) (ab : Nat × Nat) : Pt := (fadd z.1 (q4W (2 + (ab.1 : Int))), fadd z.2 (q4W ((ab.2 : Int) - 4)))
def zW (as : List (Nat × Nat)) : Pt := as.foldl stepZ (0, 0)
def mX (as : List (Nat × Nat)) : Int := (as.map fun ab => 2 + (ab.1 : Int)).sum
def mY (as : List (Nat × Nat)) : Int := (as.map fun ab => (ab.2 : Int) - 4).sum
def PicksOk (as : List (Nat × Nat)) : Prop := ∀ ab ∈ as, ab.1 < 7 ∧ ab.2 < 9
theorem zW_snoc (as : List (Nat × Nat)) (ab : Nat × Nat) : zW (as ++ [ab]) = stepZ (zW as) ab := by simp [zW]
theorem mX_snoc (as : List (Nat × Nat)) (ab : Nat × Nat) : mX (as ++ [ab]) = mX as + (2 + (ab.1 : Int)) := by simp [mX]
theorem mY_snoc (as : List (Nat × Nat)) (ab : Nat × Nat) : mY (as ++ [ab]) = mY as + ((ab.2 : Int) - 4) := by simp [mY]
theorem m_bd (as : List (Nat × Nat)) (h : PicksOk as) : 0 ≤ mX as ∧ mX as ≤ 8 * as.length ∧ -(4 * (as.length : Int)) ≤ mY as ∧ mY as ≤ 4 * as.length := by
  induction as with
  | nil => simp [mX, mY]
  | cons ab as ih =>
    obtain ⟨h1, h2, h3, h4⟩ := ih (fun x hx => h x (List.mem_cons_of_mem _ hx))
    obtain ⟨g1, g2⟩ := h ab (List.mem_cons_self ..)
    have e1 : mX (ab :: as) = 2 + (ab.1 : Int) + mX as := by simp [mX]
    have e2 : mY (ab :: as) = (ab.2 : Int) - 4 + mY as := by simp [mY]
    have e3 : ((ab :: as).length : Int) = as.length + 1 := by simp
    rw [e1, e2, e3]
    omega
theorem step_ok {z : Pt} {x y : Int} {ab : Nat × Nat} (hx : S z.1 ((x : Rat) / 4)) (hy : S z.2 ((y : Rat) / 4)) (x1 : x.natAbs ≤ 200) (y1 : y.natAbs ≤ 200) (h1 : ab.1 < 7) (h2 : ab.2 < 9) :
    floatBits .add .f32 z.1 (q4W (2 + (ab.1 : Int))) = some (stepZ z ab).1 ∧ floatBits .add .f32 z.2 (q4W ((ab.2 : Int) - 4)) = some (stepZ z ab).2 ∧
    S (stepZ z ab).1 (((x + (2 + (ab.1 : Int)) : Int) : Rat) / 4) ∧ S (stepZ z ab).2 (((y + ((ab.2 : Int) - 4) : Int) : Rat) / 4) := by
  have q1 := (q4_ok (2 + (ab.1 : Int)) (by omega)).2
  have q2 := (q4_ok ((ab.2 : Int) - 4) (by omega)).2
  have e1 : (x : Rat) / 4 + ((2 + (ab.1 : Int) : Int) : Rat) / 4 = ((x + (2 + (ab.1 : Int)) : Int) : Rat) / 4 := by rw [Rat.intCast_add x]; grind
  have e2 : (y : Rat) / 4 + (((ab.2 : Int) - 4 : Int) : Rat) / 4 = ((y + ((ab.2 : Int) - 4) : Int) : Rat) / 4 := by rw [Rat.intCast_add y]; grind
  have b1 := int_cast_bd (x + (2 + (ab.1 : Int))) 1000 (by omega)
  have b2 := int_cast_bd (y + ((ab.2 : Int) - 4)) 1000 (by omega)
  have e : ((1000 : Nat) : Rat) = 1000 := rfl
  rw [e] at b1 b2
  have g1 := fadd_ex hx q1 (by rw [e1]; grind) (by rw [e1]; grind) (by rw [e1]; exact q4_rep _ (by omega))
  have g2 := fadd_ex hy q2 (by rw [e2]; grind) (by rw [e2]; grind) (by rw [e2]; exact q4_rep _ (by omega))
  have i1 := g1.is
  have i2 := g2.is
  rw [e1] at i1
  rw [e2] at i2
  exact ⟨g1.ok, g2.ok, i1, i2⟩
theorem zW_is (as : List (Nat × Nat)) (h : PicksOk as) (h20 : as.length ≤ 20) : S (zW as).1 ((mX as : Rat) / 4) ∧ S (zW as).2 ((mY as : Rat) / 4) := by
  obtain ⟨n, hn⟩ : ∃ n, as.length = n := ⟨_, rfl⟩
  induction n generalizing as with
  | zero =>
    obtain rfl : as = [] := List.eq_nil_of_length_eq_zero hn
    have e : ((0 : Int) : Rat) / 4 = 0 := by decide +kernel
    show S 0 (((0 : Int) : Rat) / 4) ∧ S 0 (((0 : Int) : Rat) / 4)
    rw [e]; exact ⟨s_zero, s_zero⟩
  | succ n ih =>
    rcases List.eq_nil_or_concat as with rfl | ⟨bs, b, rfl⟩
    · simp at hn
    · rw [List.concat_eq_append] at *
      have hb : PicksOk bs := fun x hx => h x (List.mem_append_left _ hx)
      have hb1 := h b (List.mem_append_right _ (List.mem_singleton.2 rfl))
      have hl : bs.length = n := by simpa using hn
      have i := ih bs hb (by omega) hl
      have m := m_bd bs hb
      rw [zW_snoc, mX_snoc, mY_snoc]
      exact (step_ok i.1 i.2 (by omega) (by omega) hb1.1 hb1.2).2.2

theorem take_snoc' {α : Type} (as : List α) (k : Nat) (h : k < as.length) : as.take (k + 1) = as.take k ++ [as[k]] := by
  rw [List.take_succ_eq_append_getElem h]

theorem path_mk (as : List (Nat × Nat)) (h : PicksOk as) (h2 : 2 ≤ as.length) (h7 : as.length ≤ 7) : ∃ w : Path, w.N + 1 = as.length ∧ ∀ i, w.P i = zW (as.take i) := by
  have seg : ∀ i, i < as.length - 1 → ∃ lam, Seg (zW (as.take i)) (zW (as.take (i + 1))) ((mX (as.take i) : Rat) / 4) ((mY (as.take i) : Rat) / 4)
      (((2 + ((as.getD i (0, 0)).1 : Int) : Int) : Rat) / 4) ((((as.getD i (0, 0)).2 : Int) - 4 : Int) / 4) lam := by
    intro i hi
    have hi' : i < as.length := by omega
    have eg : as.getD i (0, 0) = as[i] := by rw [List.getD_eq_getElem?_getD, List.getElem?_eq_getElem hi']; rfl
    have hb : PicksOk (as.take i) := fun x hx => h x (List.mem_of_mem_take hx)
    have hb1 := h as[i] (List.getElem_mem hi')
    have hl : (as.take i).length = i := by simp; omega
    have i0 := zW_is (as.take i) hb (by omega)
    have m := m_bd (as.take i) hb
    rw [hl] at m
    have st := (step_ok (ab := as[i]) i0.1 i0.2 (by omega) (by omega) hb1.1 hb1.2).2.2
    rw [take_snoc' as i hi', zW_snoc, eg]
    generalize mX (as.take i) = x at *
    generalize mY (as.take i) = y at *
    generalize zW (as.take i) = z at *
    generalize as[i] = ab at *
    obtain ⟨a, b⟩ := ab
    dsimp only at *
    have e1 : (x : Rat) / 4 + ((2 + (a : Int) : Int) : Rat) / 4 = ((x + (2 + (a : Int)) : Int) : Rat) / 4 := by rw [Rat.intCast_add x]; grind
    have e2 : (y : Rat) / 4 + (((b : Int) - 4 : Int) : Rat) / 4 = ((y + ((b : Int) - 4) : Int) : Rat) / 4 := by rw [Rat.intCast_add y]; grind
    have x0 : ((0 : Int) : Rat) ≤ (x : Rat) := by exact_mod_cast m.1
    have x1 : (x : Rat) ≤ ((48 : Int) : Rat) := by exact_mod_cast (by omega : x ≤ 48)
    have y0 : ((-24 : Int) : Rat) ≤ (y : Rat) := by exact_mod_cast (by omega : -24 ≤ y)
    have y1 : (y : Rat) ≤ ((24 : Int) : Rat) := by exact_mod_cast (by omega : y ≤ 24)
    have a0 : ((2 : Int) : Rat) ≤ ((2 + (a : Int) : Int) : Rat) := by exact_mod_cast (by omega : (2 : Int) ≤ 2 + (a : Int))
    have a1 : ((2 + (a : Int) : Int) : Rat) ≤ ((8 : Int) : Rat) := by exact_mod_cast (by omega : 2 + (a : Int) ≤ 8)
    have b0 : ((-4 : Int) : Rat) ≤ (((b : Int) - 4 : Int) : Rat) := by exact_mod_cast (by omega : (-4 : Int) ≤ (b : Int) - 4)
    have b1 : (((b : Int) - 4 : Int) : Rat) ≤ ((4 : Int) : Rat) := by exact_mod_cast (by omega : (b : Int) - 4 ≤ 4)
    have c0 : ((0 : Int) : Rat) = 0 := rfl
    have c48 : ((48 : Int) : Rat) = 48 := rfl
    have cm24 : ((-24 : Int) : Rat) = -24 := rfl
    have c24 : ((24 : Int) : Rat) = 24 := rfl
    have c2 : ((2 : Int) : Rat) = 2 := rfl
    have c8 : ((8 : Int) : Rat) = 8 := rfl
    have cm4 : ((-4 : Int) : Rat) = -4 := rfl
    have c4 : ((4 : Int) : Rat) = 4 := rfl
    rw [c0] at x0; rw [c48] at x1; rw [cm24] at y0; rw [c24] at y1; rw [c2] at a0; rw [c8] at a1; rw [cm4] at b0; rw [c4] at b1
    refine seg_mk i0.1 i0.2 (by rw [e1]; exact st.1) (by rw [e2]; exact st.2) ?_ ?_ ?_ ?_ ?_ ?_ ?_ ?_ (q4_rep _ (by omega)) (q4_rep _ (by omega)) <;> grind
  refine ⟨⟨as.length - 1, fun i => zW (as.take i), fun i => (mX (as.take i) : Rat) / 4, fun i => (mY (as.take i) : Rat) / 4, fun i => ((2 + ((as.getD i (0, 0)).1 : Int) : Int) : Rat) / 4,
    fun i => ((((as.getD i (0, 0)).2 : Int) - 4 : Int) : Rat) / 4, fun i => if hi : i < as.length - 1 then (seg i hi).choose else 0, by omega, by omega, fun i hi => ?_⟩, by show as.length - 1 + 1 = _; omega, fun i => rfl⟩
  rw [dif_pos hi]
  exact (seg i hi).choose_spec
end Go.Proofs.Ytojbgeimlipajaa
