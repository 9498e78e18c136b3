/- What DashPath gives: dashes that cover the path in their turn. -/
import Derived.Test.YtojbgeimlipajaaD7
namespace Go.Proofs.Ytojbgeimlipajaa
open Fl

def outsD (s : DS) : List (List Pt) := if s.cnt % 2 = 0 ∧ 1 < s.dash.length then s.out ++ [s.dash] else s.out

theorem brk_even (A B : Rat) (m : Nat) : brk A B (2 * m) = (m : Rat) * (A + B) ∧ brk A B (2 * m + 1) = (m : Rat) * (A + B) + A := by
  induction m with
  | zero => have e : ((0 : Nat) : Rat) = 0 := rfl
            rw [e]; simp only [brk]; constructor <;> simp <;> grind
  | succ m ih =>
    have e : ((m + 1 : Nat) : Rat) = (m : Rat) + 1 := by simp
    have e1 : 2 * (m + 1) = 2 * m + 1 + 1 := by omega
    have h1 : brk A B (2 * m + 1 + 1) = brk A B (2 * m + 1) + (if (2 * m + 1) % 2 = 0 then A else B) := rfl
    have h2 : brk A B (2 * m + 1 + 1 + 1) = brk A B (2 * m + 1 + 1) + (if (2 * m + 1 + 1) % 2 = 0 then A else B) := rfl
    have p1 : ¬ (2 * m + 1) % 2 = 0 := by omega
    have p2 : (2 * m + 1 + 1) % 2 = 0 := by omega
    simp only [p1, p2, if_true, if_false] at h1 h2
    rw [e1, e, h2, h1, ih.2]
    constructor <;> grind

/-- how much of the k-th dash the path has -/
def cov (A B T : Rat) (k : Nat) : Rat := if T ≤ (k : Rat) * (A + B) then 0 else if A ≤ T - (k : Rat) * (A + B) then A else T - (k : Rat) * (A + B)

theorem cov_full {A B T e : Rat} {k : Nat} (hA : 0 < A) (e0 : 0 ≤ e) (h : A - e ≤ T - (k : Rat) * (A + B)) : cov A B T k ≤ A ∧ A - cov A B T k ≤ e := by
  unfold cov
  split
  · constructor <;> grind
  · split
    · constructor <;> grind
    · constructor <;> grind
theorem cov_none {A B T e : Rat} {k : Nat} (hA : 0 < A) (e0 : 0 ≤ e) (h : T - (k : Rat) * (A + B) ≤ e) : 0 ≤ cov A B T k ∧ cov A B T k ≤ e := by
  unfold cov
  split
  · constructor <;> grind
  · split
    · constructor <;> grind
    · constructor <;> grind
theorem cov_part {A B T e : Rat} {k : Nat} (hA : 0 < A) (e0 : 0 ≤ e) (h0 : -e ≤ T - (k : Rat) * (A + B)) (h1 : T - (k : Rat) * (A + B) ≤ A + e) : cov A B T k - (T - (k : Rat) * (A + B)) ≤ e ∧ T - (k : Rat) * (A + B) - cov A B T k ≤ e := by
  unfold cov
  split
  · constructor <;> grind
  · split
    · constructor <;> grind
    · constructor <;> grind

theorem mul_mono {k m : Nat} (h : k ≤ m) {C : Rat} (hC : 0 ≤ C) : (k : Rat) * C ≤ (m : Rat) * C := by
  have : (k : Rat) ≤ (m : Rat) := by exact_mod_cast h
  exact Rat.mul_le_mul_of_nonneg_right this hC

/-- the k-th dash -/
structure DashOk (A B T : Rat) (ps : List Pt) (k : Nat) : Prop where
  two : 2 ≤ ps.length
  acc : ∃ r sig, Acc ps r sig ∧ sig - cov A B T k ≤ E * 2400 ∧ cov A B T k - sig ≤ E * 2400 ∧ sig ≤ A + E * 2400

theorem ends {w : Path} {A B : Rat} {s : DS} (v : Mid w A B w.N s) (hA : 1 / 2 ≤ A) (hA2 : A ≤ 2) (hB : 1 / 2 ≤ B) (hB2 : B ≤ 2) :
    (outsD s).length ≤ 16 ∧ (∀ k, k < (outsD s).length → DashOk A B (w.Lam w.N) ((outsD s).getD k []) k) ∧
    (∀ k, k + 1 < (outsD s).length → Done A ((outsD s).getD k [])) ∧ (∀ k, (outsD s).length ≤ k → cov A B (w.Lam w.N) k ≤ E * 800) := by
  have hE := E_pos
  have hE1 : E * 10000 ≤ 1 / 1000 := by rw [E_val]; decide +kernel
  have hi6 := w.n6
  have hc30 := v.c30
  have hol := v.olen
  obtain ⟨rho, hr, r0, r2', b1, b2⟩ := v.rho
  obtain ⟨cb0, cb1⟩ := c_bound (n := w.N + s.cnt) (by omega)
  have hAB : 0 ≤ A + B := by grind
  have hA0 : 0 < A := by grind
  have doneAt : ∀ k, k < s.out.length → Done A (s.out.getD k []) := fun k hk => v.out _ (by
    rw [List.getD_eq_getElem?_getD, List.getElem?_eq_getElem hk]; exact List.getElem_mem hk)
  generalize hT : w.Lam w.N = T at *
  by_cases hp : s.cnt % 2 = 0
  · -- within a dash
    obtain ⟨m, hm⟩ : ∃ m, s.cnt = 2 * m := ⟨s.cnt / 2, by omega⟩
    have hom : s.out.length = m := by omega
    obtain ⟨k1, k2⟩ := brk_even A B m
    simp only [hp, if_true] at r2'
    obtain ⟨sig, ac, hlen, s1, s2⟩ := v.dash hp
    rw [hm] at b1 b2 s1 s2 cb0 cb1 r2'
    rw [k2] at b1 b2
    rw [k1] at s1 s2
    rw [hT] at s1 s2
    generalize ((w.N + 2 * m : Nat) : Rat) = cc at *
    have t0 : -(E * 1200) ≤ T - (m : Rat) * (A + B) := by grind
    have t1 : T - (m : Rat) * (A + B) ≤ A + E * 400 := by grind
    have full : ∀ k, k < m → cov A B T k ≤ A ∧ A - cov A B T k ≤ 0 := fun k hk => cov_full hA0 Rat.le_refl (by
      have h := mul_mono (show k + 1 ≤ m by omega) hAB
      have e : ((k + 1 : Nat) : Rat) = (k : Rat) + 1 := by simp
      rw [e] at h
      grind)
    have past : ∀ k, m < k → cov A B T k ≤ E * 800 := fun k hk => (cov_none hA0 (by grind) (by
      have h := mul_mono (show m + 1 ≤ k by omega) hAB
      have e : ((m + 1 : Nat) : Rat) = (m : Rat) + 1 := by simp
      rw [e] at h
      grind)).2
    have dk : ∀ k, k < m → DashOk A B T (s.out.getD k []) k := fun k hk => by
      obtain ⟨d1, r, sg, d2, d3, d4⟩ := doneAt k (by omega)
      obtain ⟨f1, f2⟩ := full k hk
      exact ⟨d1, r, sg, d2, by grind, by grind, by grind⟩
    by_cases hl : 1 < s.dash.length
    · have eo : outsD s = s.out ++ [s.dash] := by unfold outsD; rw [if_pos ⟨hp, hl⟩]
      rw [eo]
      have elen : (s.out ++ [s.dash]).length = m + 1 := by simp [hom]
      rw [elen]
      refine ⟨by omega, fun k hk => ?_, fun k hk => ?_, fun k hk => past k (by omega)⟩
      · by_cases hkm : k < m
        · rw [getD_app _ _ _ _ (by omega)]; exact dk k hkm
        · obtain rfl : k = m := by omega
          have : (s.out ++ [s.dash]).getD k [] = s.dash := by rw [← hom]; simp [List.getD_eq_getElem?_getD]
          rw [this]
          obtain ⟨c1, c2⟩ := cov_part (B := B) (T := T) (k := k) (e := E * 1200) hA0 (by grind) t0 (by grind)
          exact ⟨hl, _, sig, ac, by grind, by grind, by grind⟩
      · rw [getD_app _ _ _ _ (by omega)]; exact doneAt k (by omega)
    · have eo : outsD s = s.out := by unfold outsD; rw [if_neg (fun h => hl h.2)]
      rw [eo, hom]
      refine ⟨by omega, dk, fun k hk => doneAt k (by omega), fun k hk => ?_⟩
      by_cases hkm : m < k
      · exact past k hkm
      · obtain rfl : k = m := by omega
        -- nothing of it
        have hne := ac.ne
        have h1 : s.dash.length - 1 = 0 := by omega
        obtain ⟨v0, hv0, q1, q2⟩ := ac.v
        rw [h1] at hv0 q1 q2
        have := hv0.uniq d_zero
        subst this
        have e0 : ((0 : Nat) : Rat) = 0 := rfl
        rw [e0] at q1 q2
        exact (cov_none hA0 (by grind) (by grind)).2
  · -- within a gap
    obtain ⟨m, hm⟩ : ∃ m, s.cnt = 2 * m + 1 := ⟨s.cnt / 2, by omega⟩
    have hom : s.out.length = m + 1 := by omega
    obtain ⟨k1, k2⟩ := brk_even A B m
    obtain ⟨k3, k4⟩ := brk_even A B (m + 1)
    simp only [hp, if_false] at r2'
    have e2 : 2 * m + 1 + 1 = 2 * (m + 1) := by omega
    rw [hm] at b1 b2 cb0 cb1 r2'
    rw [e2, k3] at b1 b2
    have e : ((m + 1 : Nat) : Rat) = (m : Rat) + 1 := by simp
    rw [e] at b1 b2
    generalize ((w.N + (2 * m + 1) : Nat) : Rat) = cc at *
    have t0 : A - E * 1200 ≤ T - (m : Rat) * (A + B) := by grind
    have t1 : T - ((m : Rat) + 1) * (A + B) ≤ E * 400 := by grind
    have eo : outsD s = s.out := by unfold outsD; rw [if_neg (fun h => hp h.1)]
    rw [eo, hom]
    refine ⟨by omega, fun k hk => ?_, fun k hk => doneAt k (by omega), fun k hk => ?_⟩
    · obtain ⟨d1, r, sg, d2, d3, d4⟩ := doneAt k (by omega)
      have h := mul_mono (show k ≤ m by omega) hAB
      obtain ⟨f1, f2⟩ := cov_full (B := B) (T := T) (k := k) (e := E * 1200) hA0 (by grind) (by grind)
      exact ⟨d1, r, sg, d2, by grind, by grind, by grind⟩
    · have h := mul_mono (show m + 1 ≤ k by omega) hAB
      rw [e] at h
      exact (cov_none hA0 (by grind) (by grind)).2
end Go.Proofs.Ytojbgeimlipajaa
