/- SpeedPlan: the loop back, in whatever order. -/
import Derived.Test.YtpkcbofeoklpbaaW10
namespace Go.Proofs.Ytpkcbofeoklpbaa
open Go.RowKit Go.Shelf Fl

def stepB (rise : Nat) (lw V : Nat → Nat) (i : Nat) : Nat → Nat :=
  if lowW (reachW (V (i + 1)) rise (lw i)) (V i) = true then upd V i (reachW (V (i + 1)) rise (lw i)) else V
def foldB (n rise : Nat) (lw V : Nat → Nat) (pre : List (Fin n)) : Nat → Nat := pre.foldl (fun V x => stepB rise lw V x.1) V
theorem foldB_snoc (n rise : Nat) (lw V : Nat → Nat) (pre : List (Fin n)) (x : Fin n) : foldB n rise lw V (pre ++ [x]) = stepB rise lw (foldB n rise lw V pre) x.1 := by simp [foldB]

theorem stepB_spd {n : Nat} {M K : Rat} {V lw : Nat → Nat} {v L : Nat → Rat} {rise : Nat} (h2 : Spd n M V v) (hp : Pcs n lw L) (hk : S rise K) (k0 : 1 / 2 ≤ K) (k4 : K ≤ 4) (m4 : M ≤ 4) (i : Nat) (hin : i < n) :
    ReachOk (V (i + 1)) rise (lw i) ∧ ∃ v, Spd n M (stepB rise lw V i) v := by
  obtain ⟨ok, z, hz, z0, z8, n1, n2⟩ := reach_near (h2.s (i + 1) (by omega)) hk (hp.s i hin) (h2.lo (i + 1) (by omega)) (by have := h2.hi (i + 1) (by omega); grind) k0 k4 (hp.lo i hin) (hp.hi i hin)
  refine ⟨ok, ?_⟩
  unfold stepB
  rw [lowW_iff hz (h2.s i (by omega))]
  by_cases hc : z < v i
  · simp only [hc, decide_true, if_true]
    exact ⟨_, h2.lower hz z0 (by omega) hc⟩
  · simp only [hc, decide_false, Bool.false_eq_true, if_false]
    exact ⟨v, h2⟩
theorem foldB_spd {n : Nat} {M K : Rat} {lw : Nat → Nat} {L : Nat → Rat} {rise : Nat} (hp : Pcs n lw L) (hk : S rise K) (k0 : 1 / 2 ≤ K) (k4 : K ≤ 4) (m4 : M ≤ 4) (pre : List (Fin n)) : ∀ (V : Nat → Nat), (∃ v, Spd n M V v) → ∃ v, Spd n M (foldB n rise lw V pre) v := by
  induction pre with
  | nil => intro V h; exact h
  | cons x pre ih =>
    intro V ⟨v, h⟩
    exact ih _ (stepB_spd h hp hk k0 k4 m4 x.1 x.2).2
theorem foldB_bwd (n : Nat) (V0 : Nat → Nat) (rise : Nat) (lw : Nat → Nat) (hn : 0 < n) (j : Nat) (hj : j ≤ n) : foldB n rise lw (fwdA V0 rise lw n) (upto (bk n hn) j) = bwdA V0 rise lw n j := by
  induction j with
  | zero => rfl
  | succ j ih =>
    rw [upto_succ, foldB_snoc, ih (by omega)]
    show stepB rise lw (bwdA V0 rise lw n j) (n - 1 - j) = (if lowW (reachW (bwdA V0 rise lw n j (n - j)) rise (lw (n - 1 - j))) (bwdA V0 rise lw n j (n - 1 - j)) = true then upd (bwdA V0 rise lw n j) (n - 1 - j) (reachW (bwdA V0 rise lw n j (n - j)) rise (lw (n - 1 - j))) else bwdA V0 rise lw n j)
    have e : n - j = (n - 1 - j) + 1 := by omega
    rw [e]; rfl
end Go.Proofs.Ytpkcbofeoklpbaa
