/- The runs without a cut. -/
import Derived.Test.YtojbgeimlipajaaD11
namespace Go.Proofs.Ytojbgeimlipajaa
open Fl

def pathL (P : Nat → Pt) (i : Nat) : List Pt := (List.range (i + 1)).map P
theorem pathL_succ (P : Nat → Pt) (i : Nat) : pathL P (i + 1) = pathL P i ++ [P (i + 1)] := by simp [pathL, List.range_succ]
theorem pathL_len (P : Nat → Pt) (i : Nat) : (pathL P i).length = i + 1 := by simp [pathL]
theorem pathL_get (P : Nat → Pt) (n i : Nat) (h : i ≤ n) : (pathL P n).getD i (0, 0) = P i := by
  have : i < n + 1 := by omega
  simp [pathL, List.getD_eq_getElem?_getD, this]

/-- a long rest: no cut -/
theorem rest_near {w : Path} {i r : Nat} {rho : Rat} (hi : i < w.N) (hr : S r rho) (h1 : 900 ≤ rho) (h2 : rho ≤ 1000) :
    floatBits .sub .f32 (longW (subP (w.P (i + 1)) (w.P i))) 0 = some (fsub (longW (subP (w.P (i + 1)) (w.P i))) 0) ∧ condW (w.P i) (w.P (i + 1)) 0 r = false ∧
    floatBits .sub .f32 r (fsub (longW (subP (w.P (i + 1)) (w.P i))) 0) = some (fsub r (fsub (longW (subP (w.P (i + 1)) (w.P i))) 0)) ∧
    ∃ z, S (fsub r (fsub (longW (subP (w.P (i + 1)) (w.P i))) 0)) z ∧ rho - 3 ≤ z ∧ z ≤ 1000 := by
  have hE := E_pos
  have hE1 : E * 100000 ≤ 1 / 100 := by rw [E_val]; decide +kernel
  have s := w.seg i hi
  have l0 := s.l0
  have l1 := s.l1
  have a := fsub_ok 3 s.sl s_zero (by grind) (by grind) (by grind)
  obtain ⟨y, hy, y1, y2⟩ := a.near
  have hy' : S (fsub (longW (subP (w.P (i + 1)) (w.P i))) 0) y := hy
  have b := fsub_ok 1000 hr hy' (by grind) (by grind) (by grind)
  obtain ⟨z, hz, z1, z2⟩ := b.near
  refine ⟨a.ok, ?_, b.ok, z, hz, by grind, by grind⟩
  have := gtr_is hy' hr
  unfold condW
  rw [this]; simp; grind

theorem run_long {w : Path} {pa pb r c : Nat} {rho : Rat} (hr : S r rho) (h1 : 950 ≤ rho) (h2 : rho ≤ 1000) (hc : c ≤ 1) (i : Nat) (hi : i ≤ w.N) :
    ∃ r' rho', runD pa pb w.P i ⟨c, r, [], [w.P 0]⟩ = ⟨c, r', [], if c % 2 = 0 then pathL w.P i else [w.P 0]⟩ ∧ S r' rho' ∧ rho - 3 * i ≤ rho' ∧ rho' ≤ 1000 := by
  induction i with
  | zero =>
    have e : ((0 : Nat) : Rat) = 0 := rfl
    refine ⟨r, rho, ?_, hr, by rw [e]; grind, h2⟩
    show (⟨c, r, [], [w.P 0]⟩ : DS) = _
    split <;> simp [pathL]
  | succ i ih =>
    obtain ⟨r', rho', e, hr', q1, q2⟩ := ih (by omega)
    have i6 : (i : Rat) ≤ 6 := cast_le (m := 6) (by have := w.n6; omega)
    obtain ⟨_, hcond, _, z, hz, z1, z2⟩ := rest_near (w := w) (i := i) (by omega) hr' (by grind) q2
    refine ⟨_, z, ?_, hz, by rw [cast_s]; grind, z2⟩
    show segGo pa pb 50 (w.P i) (w.P (i + 1)) 0 (runD pa pb w.P i ⟨c, r, [], [w.P 0]⟩) = _
    rw [e]
    unfold segGo
    simp only [hcond, Bool.false_eq_true, if_false]
    unfold endD
    dsimp only
    rw [pathL_succ]
    congr 1
    split <;> rfl
end Go.Proofs.Ytojbgeimlipajaa
