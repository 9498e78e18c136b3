/- The run of DashPath, in words: from segment to segment. -/
import Derived.Test.YtojbgeimlipajaaD6
namespace Go.Proofs.Ytojbgeimlipajaa
open Fl

/-- what holds ahead of a segment, and at the end -/
structure Mid (w : Path) (A B : Rat) (i : Nat) (s : DS) : Prop where
  rho : ∃ rho, S s.rest rho ∧ 0 ≤ rho ∧ rho ≤ (if s.cnt % 2 = 0 then A else B) + E * (20 * ((i + s.cnt : Nat) : Rat)) ∧ w.Lam i + rho - brk A B (s.cnt + 1) ≤ E * (10 * ((i + s.cnt : Nat) : Rat)) ∧ brk A B (s.cnt + 1) - (w.Lam i + rho) ≤ E * (10 * ((i + s.cnt : Nat) : Rat))
  c30 : s.cnt ≤ 30
  dash : s.cnt % 2 = 0 → ∃ sig, Acc s.dash (w.P i) sig ∧ s.dash.length ≤ i + 1 ∧ sig - (w.Lam i - brk A B s.cnt) ≤ E * (10 * ((i + s.cnt : Nat) : Rat)) ∧ w.Lam i - brk A B s.cnt - sig ≤ E * (10 * ((i + s.cnt : Nat) : Rat))
  out : ∀ ps ∈ s.out, Done A ps
  olen : s.out.length = (s.cnt + 1) / 2
  first : (s.cnt = 0 → s.dash.getD 0 (0, 0) = w.P 0) ∧ (s.cnt ≠ 0 → (s.out.getD 0 []).getD 0 (0, 0) = w.P 0)

theorem Mid.enter {w : Path} {A B : Rat} {i : Nat} {s : DS} (v : Mid w A B i s) (hi : i < w.N) : Inv w A B i 0 0 s := by
  have hE := E_pos
  have sgm := w.seg i hi
  have l0 := sgm.l0
  have e0 : w.lam i * 0 = 0 := by grind
  refine ⟨by rw [e0]; exact s_zero, Rat.le_refl, by grind, by grind, ?_, v.c30, fun hp => ?_, v.out, v.olen, v.first⟩
  · obtain ⟨rho, h1, h2, h3, h4, h5⟩ := v.rho
    exact ⟨rho, h1, h2, h3, by grind, by grind⟩
  · obtain ⟨sig, h1, h2, h3, h4⟩ := v.dash hp
    exact ⟨w.P i, sig, h1, sgm.start, h2, by grind, by grind⟩

theorem Inv.leave {w : Path} {A B u : Rat} {i g : Nat} {s : DS} (v : Inv w A B i u g s) (hi : i < w.N) (hA : 1 / 2 ≤ A) (hA2 : A ≤ 2) (hB : 1 / 2 ≤ B) (hB2 : B ≤ 2)
    (hc : condW (w.P i) (w.P (i + 1)) g s.rest = false) :
    floatBits .sub .f32 s.rest (fsub (longW (subP (w.P (i + 1)) (w.P i))) g) = some (endD (w.P i) (w.P (i + 1)) g s).rest ∧ Mid w A B (i + 1) (endD (w.P i) (w.P (i + 1)) g s) := by
  have hE := E_pos
  have hE1 : E * 10000 ≤ 1 / 1000 := by rw [E_val]; decide +kernel
  have hi6 := w.n6
  have hc30 := v.c30
  obtain ⟨_, z, hz, z1, z2, lu0, lu1⟩ := v.sub hi
  have sgm := w.seg i hi
  have l0 := sgm.l0
  have l1 := sgm.l1
  have lu := v.lu
  obtain ⟨rho, hr, r0, r2', b1, b2⟩ := v.rho
  obtain ⟨cb0, cb1⟩ := c_bound (n := i + s.cnt) (by omega)
  have r2 : rho ≤ 21 / 10 := by
    split at r2' <;> grind
  have hcz : z ≤ rho := by
    have := gtr_is hz hr
    unfold condW at hc
    rw [this] at hc
    simp at hc
    grind
  have o := fsub_ok 3 hr hz (by grind) (by grind) (by grind)
  obtain ⟨r', hr', q1, q2⟩ := o.near
  have hr'' : S (fsub s.rest (fsub (longW (subP (w.P (i + 1)) (w.P i))) g)) r' := hr'
  have r'0 := fsub_nonneg hr hz (by grind) (by grind) hr''
  have ecc : ((i + 1 + s.cnt : Nat) : Rat) = ((i + s.cnt : Nat) : Rat) + 1 := by
    have : i + 1 + s.cnt = (i + s.cnt) + 1 := by omega
    rw [this]; simp
  have eL : w.Lam (i + 1) = w.Lam i + w.lam i := rfl
  have ebrk0 : brk A B (s.cnt + 1) = brk A B s.cnt + (if s.cnt % 2 = 0 then A else B) := rfl
  refine ⟨o.ok, ?_, hc30, ?_, v.out, v.olen, ?_⟩
  · refine ⟨r', hr'', r'0, ?_, ?_, ?_⟩
    all_goals
      rw [show (endD (w.P i) (w.P (i + 1)) g s).cnt = s.cnt from rfl, ecc]
      try rw [eL]
      generalize ((i + s.cnt : Nat) : Rat) = cc at *
      generalize (if s.cnt % 2 = 0 then A else B) = pr at *
      grind
  · intro hp
    have hp : s.cnt % 2 = 0 := hp
    obtain ⟨r, sig, ac, atr, hlen, s1, s2⟩ := v.dash hp
    have u0 := v.u0
    have u1 := v.u1
    simp only [hp, if_true] at ebrk0 r2'
    obtain ⟨p1, p2, lk, l, hl, k1, k2⟩ := sgm.pair atr sgm.stop (by grind) (by grind) (by grind) (by grind) (by grind)
    have eud : w.lam i * (1 - u) = w.lam i - w.lam i * u := by grind
    rw [eud] at k1 k2
    have ac' := ac.snoc (by omega) (by generalize ((i + s.cnt : Nat) : Rat) = cc at *; grind) (by generalize ((i + s.cnt : Nat) : Rat) = cc at *; grind) sgm.tx sgm.ty p1 p2 lk ⟨l, hl, k1, k2⟩ (by grind) (by grind)
    refine ⟨_, by show Acc (if s.cnt % 2 = 0 then s.dash ++ [w.P (i + 1)] else s.dash) _ _; rw [if_pos hp]; exact ac', ?_, ?_, ?_⟩
    · show (if s.cnt % 2 = 0 then s.dash ++ [w.P (i + 1)] else s.dash).length ≤ i + 1 + 1
      rw [if_pos hp]; simp; exact hlen
    all_goals
      rw [show (endD (w.P i) (w.P (i + 1)) g s).cnt = s.cnt from rfl, ecc, eL]
      generalize ((i + s.cnt : Nat) : Rat) = cc at *
      grind
  · refine ⟨fun h => ?_, v.first.2⟩
    have h : s.cnt = 0 := h
    have hp : s.cnt % 2 = 0 := by rw [h]
    obtain ⟨r, sig, ac, _⟩ := v.dash hp
    show (if s.cnt % 2 = 0 then s.dash ++ [w.P (i + 1)] else s.dash).getD 0 (0, 0) = w.P 0
    rw [if_pos hp, getD_snoc _ _ _ (by have := ac.ne; omega)]
    exact v.first.1 h

theorem seg_mid {w : Path} {A B : Rat} {i pa pb : Nat} (hi : i < w.N) (hA : 1 / 2 ≤ A) (hA2 : A ≤ 2) (hB : 1 / 2 ≤ B) (hB2 : B ≤ 2) (sa : S pa A) (sb : S pb B) (f : Nat) :
    ∀ (u : Rat) (g : Nat) (s : DS), Inv w A B i u g s → 32 ≤ f + s.cnt → Mid w A B (i + 1) (segGo pa pb f (w.P i) (w.P (i + 1)) g s) := by
  induction f with
  | zero => intro u g s v hf; have := v.c30; omega
  | succ f ih =>
    intro u g s v hf
    unfold segGo
    by_cases hc : condW (w.P i) (w.P (i + 1)) g s.rest = true
    · rw [if_pos hc]
      obtain ⟨_, u', v'⟩ := v.cut (pa := pa) (pb := pb) hi hA hA2 hB hB2 sa sb hc
      exact ih u' _ _ v' (by show 32 ≤ f + (s.cnt + 1); omega)
    · rw [if_neg hc]
      exact (v.leave hi hA hA2 hB hB2 (Bool.eq_false_iff.2 hc)).2

theorem run_mid {w : Path} {A B : Rat} {pa pb : Nat} (hA : 1 / 2 ≤ A) (hA2 : A ≤ 2) (hB : 1 / 2 ≤ B) (hB2 : B ≤ 2) (sa : S pa A) (sb : S pb B) {s0 : DS} (h0 : Mid w A B 0 s0) (i : Nat) (hi : i ≤ w.N) : Mid w A B i (runD pa pb w.P i s0) := by
  induction i with
  | zero => exact h0
  | succ i ih => exact seg_mid (by omega) hA hA2 hB hB2 sa sb 50 0 0 _ ((ih (by omega)).enter (by omega)) (by omega)

theorem start_mid {w : Path} {A B : Rat} {r : Nat} (hr : S r A) (hA : 1 / 2 ≤ A) : Mid w A B 0 ⟨0, r, [], [w.P 0]⟩ := by
  have s := w.seg 0 (by have := w.n0; omega)
  have e0 : ((0 + 0 : Nat) : Rat) = 0 := rfl
  refine ⟨⟨A, hr, by grind, ?_, ?_, ?_⟩, Nat.zero_le _, fun _ => ⟨0, Acc.one s.sx s.sy, by simp, ?_, ?_⟩, fun ps h => absurd h (by simp), by simp, ⟨fun _ => rfl, fun h => absurd rfl h⟩⟩
  all_goals
    dsimp only
    rw [e0]
    simp only [Path.Lam, brk]
    simp
    try grind
end Go.Proofs.Ytojbgeimlipajaa
