/- There is a dash at all. -/
import Derived.Test.YtojbgeimlipajaaD12
namespace Go.Proofs.Ytojbgeimlipajaa
open Fl

theorem seg_cnt (pa pb : Nat) (f : Nat) : ∀ (p q : Pt) (g : Nat) (s : DS), s.cnt ≤ (segGo pa pb f p q g s).cnt := by
  induction f with
  | zero => intro p q g s; exact Nat.le_refl _
  | succ f ih =>
    intro p q g s
    unfold segGo
    split
    · exact Nat.le_trans (Nat.le_succ _) (ih p q (fadd g s.rest) (stepD pa pb p q g s))
    · exact Nat.le_refl _
theorem run_zero (pa pb r : Nat) (P : Nat → Pt) (i : Nat) : (runD pa pb P i ⟨0, r, [], [P 0]⟩).cnt = 0 → (runD pa pb P i ⟨0, r, [], [P 0]⟩).dash = pathL P i := by
  induction i with
  | zero => intro _; simp [runD, pathL]
  | succ i ih =>
    intro h
    have e : runD pa pb P (i + 1) ⟨0, r, [], [P 0]⟩ = segGo pa pb 50 (P i) (P (i + 1)) 0 (runD pa pb P i ⟨0, r, [], [P 0]⟩) := rfl
    rw [e] at h ⊢
    have h0 : (runD pa pb P i ⟨0, r, [], [P 0]⟩).cnt = 0 := by
      have := seg_cnt pa pb 50 (P i) (P (i + 1)) 0 (runD pa pb P i ⟨0, r, [], [P 0]⟩)
      omega
    have hd := ih h0
    generalize runD pa pb P i ⟨0, r, [], [P 0]⟩ = s at *
    unfold segGo at h ⊢
    by_cases hc : condW (P i) (P (i + 1)) 0 s.rest = true
    · rw [if_pos hc] at h
      have := seg_cnt pa pb 49 (P i) (P (i + 1)) (fadd 0 s.rest) (stepD pa pb (P i) (P (i + 1)) 0 s)
      rw [h] at this
      simp [stepD] at this
    · rw [if_neg hc]
      unfold endD
      dsimp only
      rw [pathL_succ, hd, if_pos (by rw [h0])]

/-- the dashes begin where the path does -/
theorem outs_first {w : Path} {A B : Rat} {pa pb r : Nat} (v : Mid w A B w.N (runD pa pb w.P w.N ⟨0, r, [], [w.P 0]⟩)) :
    1 ≤ (outsD (runD pa pb w.P w.N ⟨0, r, [], [w.P 0]⟩)).length ∧ ((outsD (runD pa pb w.P w.N ⟨0, r, [], [w.P 0]⟩)).getD 0 []).getD 0 (0, 0) = w.P 0 := by
  have hz := run_zero pa pb r w.P w.N
  have n0 := w.n0
  generalize runD pa pb w.P w.N ⟨0, r, [], [w.P 0]⟩ = s at *
  have hol := v.olen
  by_cases h0 : s.cnt = 0
  · have hd := hz h0
    have ho : s.out = [] := List.eq_nil_of_length_eq_zero (by omega)
    have eo : outsD s = [s.dash] := by
      unfold outsD
      rw [if_pos ⟨by rw [h0], by rw [hd, pathL_len]; omega⟩, ho]; rfl
    rw [eo, hd]
    exact ⟨by simp, pathL_get w.P w.N 0 (Nat.zero_le _)⟩
  · have hf := v.first.2 h0
    have h1 : 0 < s.out.length := by omega
    unfold outsD
    split
    · rw [getD_app _ _ _ _ h1]
      exact ⟨by simp, hf⟩
    · exact ⟨h1, hf⟩
end Go.Proofs.Ytojbgeimlipajaa
