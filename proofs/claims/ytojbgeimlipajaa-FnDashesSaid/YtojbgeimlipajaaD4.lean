/- The run of DashPath, in words. -/
import Derived.Test.YtojbgeimlipajaaD3
namespace Go.Proofs.Ytojbgeimlipajaa
open Fl

/-- the length of a row of points, in doubles -/
def lenW (ps : List Pt) : Nat → Nat
  | 0 => 0
  | i + 1 => dadd (lenW ps i) (up (longW (subP (ps.getD (i + 1) (0, 0)) (ps.getD i (0, 0)))))
structure PcOk (ps : List Pt) (i : Nat) : Prop where
  s1 : floatBits .sub .f32 (ps.getD (i + 1) (0, 0)).1 (ps.getD i (0, 0)).1 = some (fsub (ps.getD (i + 1) (0, 0)).1 (ps.getD i (0, 0)).1)
  s2 : floatBits .sub .f32 (ps.getD (i + 1) (0, 0)).2 (ps.getD i (0, 0)).2 = some (fsub (ps.getD (i + 1) (0, 0)).2 (ps.getD i (0, 0)).2)
  lk : LongOk (subP (ps.getD (i + 1) (0, 0)) (ps.getD i (0, 0)))
  a : floatBits .add .f64 (lenW ps i) (up (longW (subP (ps.getD (i + 1) (0, 0)) (ps.getD i (0, 0))))) = some (lenW ps (i + 1))

theorem getD_snoc (ps : List Pt) (q : Pt) (i : Nat) (h : i < ps.length) : (ps ++ [q]).getD i (0, 0) = ps.getD i (0, 0) := by
  simp [List.getD_eq_getElem?_getD, List.getElem?_append_left h]
theorem getD_last (ps : List Pt) (q : Pt) : (ps ++ [q]).getD ps.length (0, 0) = q := by
  simp [List.getD_eq_getElem?_getD]
theorem lenW_snoc (ps : List Pt) (q : Pt) (i : Nat) (h : i < ps.length) : lenW (ps ++ [q]) i = lenW ps i := by
  induction i with
  | zero => rfl
  | succ i ih => simp only [lenW]; rw [ih (by omega), getD_snoc _ _ _ h, getD_snoc _ _ _ (by omega)]

/-- a row of points, the last of which is r, is about so long -/
structure Acc (ps : List Pt) (r : Pt) (sig : Rat) : Prop where
  ne : 1 ≤ ps.length
  n9 : ps.length ≤ 9
  last : ps.getD (ps.length - 1) (0, 0) = r
  pc : ∀ i, i + 1 < ps.length → PcOk ps i
  v : ∃ v, D (lenW ps (ps.length - 1)) v ∧ v - sig ≤ E * (4300 * ((ps.length - 1 : Nat) : Rat)) ∧ sig - v ≤ E * (4300 * ((ps.length - 1 : Nat) : Rat))
  fin : ∀ i, i < ps.length → ∃ x y, S (ps.getD i (0, 0)).1 x ∧ S (ps.getD i (0, 0)).2 y

theorem Acc.one {r : Pt} {x y : Rat} (hx : S r.1 x) (hy : S r.2 y) : Acc [r] r 0 := by
  refine ⟨by simp, by simp, by simp, fun i h => absurd h (by simp), ⟨0, d_zero, by simp; grind, by simp; grind⟩, fun i h => ?_⟩
  obtain rfl : i = 0 := by simp at h; omega
  exact ⟨x, y, hx, hy⟩

theorem Acc.snoc {ps : List Pt} {r q : Pt} {sig d : Rat} (h : Acc ps r sig) (n8 : ps.length ≤ 8) (s0 : -(1 / 100) ≤ sig) (s9 : sig ≤ 20) {xq yq : Rat} (hx : S q.1 xq) (hy : S q.2 yq)
    (p1 : floatBits .sub .f32 q.1 r.1 = some (fsub q.1 r.1)) (p2 : floatBits .sub .f32 q.2 r.2 = some (fsub q.2 r.2)) (lk : LongOk (subP q r)) (hl : ∃ l, S (longW (subP q r)) l ∧ l - d ≤ E * 4200 ∧ d - l ≤ E * 4200) (d0 : -(1 / 100) ≤ d) (d4 : d ≤ 4) :
    Acc (ps ++ [q]) q (sig + d) := by
  have hE := E_pos
  have hE1 : E * 100000 ≤ 1 / 100 := by rw [E_val]; decide +kernel
  obtain ⟨v, hv, v1, v2⟩ := h.v
  obtain ⟨l, hl, l1, l2⟩ := hl
  have hm : ((ps.length - 1 : Nat) : Rat) ≤ 8 := by
    have : ((ps.length - 1 : Nat) : Rat) ≤ ((8 : Nat) : Rat) := by exact_mod_cast (by omega : ps.length - 1 ≤ 8)
    exact this
  have hm0 : (0 : Rat) ≤ ((ps.length - 1 : Nat) : Rat) := by exact_mod_cast Nat.zero_le _
  have hEm := Rat.mul_le_mul_of_nonneg_left hm (Rat.le_of_lt hE)
  obtain ⟨ul, dl⟩ := up_ok hl (by grind) (by grind)
  have a := dadd_ok 30 hv dl (by grind) (by grind) (by grind)
  obtain ⟨z, hz, z1, z2⟩ := a.near
  have hne := h.ne
  have e1 : ps.length - 1 + 1 = ps.length := by omega
  have hlast : (ps ++ [q]).getD (ps.length - 1) (0, 0) = r := by rw [getD_snoc _ _ _ (by omega)]; exact h.last
  have hstep : lenW (ps ++ [q]) ps.length = dadd (lenW ps (ps.length - 1)) (up (longW (subP q r))) := by
    have : lenW (ps ++ [q]) (ps.length - 1 + 1) = dadd (lenW (ps ++ [q]) (ps.length - 1)) (up (longW (subP ((ps ++ [q]).getD (ps.length - 1 + 1) (0, 0)) ((ps ++ [q]).getD (ps.length - 1) (0, 0))))) := rfl
    have e2 := lenW_snoc ps q (ps.length - 1) (by omega)
    rw [e1, getD_last, hlast, e2] at this
    exact this
  have elen : (ps ++ [q]).length - 1 = ps.length := by simp
  refine ⟨by simp, by simp; omega, by rw [elen]; exact getD_last ps q, fun i hi => ?_, ?_, fun i hi => ?_⟩
  · by_cases e : i + 1 = ps.length
    · have ei : i = ps.length - 1 := by omega
      subst ei
      refine ⟨?_, ?_, ?_, ?_⟩
      · rw [e1, getD_last, hlast]; exact p1
      · rw [e1, getD_last, hlast]; exact p2
      · rw [e1, getD_last, hlast]; exact lk
      · rw [e1, getD_last, hlast, hstep, lenW_snoc _ _ _ (by omega)]; exact a.ok
    · have hi2 : i + 1 < ps.length := by simp at hi; omega
      obtain ⟨c1, c2, c3, c4⟩ := h.pc i hi2
      refine ⟨?_, ?_, ?_, ?_⟩
      · rw [getD_snoc _ _ _ hi2, getD_snoc _ _ _ (by omega)]; exact c1
      · rw [getD_snoc _ _ _ hi2, getD_snoc _ _ _ (by omega)]; exact c2
      · rw [getD_snoc _ _ _ hi2, getD_snoc _ _ _ (by omega)]; exact c3
      · rw [getD_snoc _ _ _ hi2, getD_snoc _ _ _ (by omega), lenW_snoc _ _ _ hi2, lenW_snoc _ _ _ (by omega)]; exact c4
  · rw [elen, hstep]
    have ec : ((ps.length : Nat) : Rat) = ((ps.length - 1 : Nat) : Rat) + 1 := by
      have : ((ps.length - 1 + 1 : Nat) : Rat) = ((ps.length - 1 : Nat) : Rat) + 1 := by simp
      rw [e1] at this; exact this
    rw [ec]
    generalize ((ps.length - 1 : Nat) : Rat) = m at *
    exact ⟨z, hz, by grind, by grind⟩
  · by_cases e : i < ps.length
    · rw [getD_snoc _ _ _ e]; exact h.fin i e
    · have : i = ps.length := by simp at hi; omega
      subst this
      rw [getD_last]; exact ⟨xq, yq, hx, hy⟩
end Go.Proofs.Ytojbgeimlipajaa
