/- The run of DashPath, in words: one cut. -/
import Derived.Test.YtojbgeimlipajaaD5
namespace Go.Proofs.Ytojbgeimlipajaa
open Fl

theorem getD_app {α : Type} (l m : List α) (i : Nat) (d : α) (h : i < l.length) : (l ++ m).getD i d = l.getD i d := by
  rw [List.getD_eq_getElem?_getD, List.getD_eq_getElem?_getD, List.getElem?_append_left h]
theorem div_mul {a b : Rat} (hb : b ≠ 0) : b * (a / b) = a := by
  rw [Rat.div_def, Rat.mul_comm a, ← Rat.mul_assoc, Rat.mul_inv_cancel _ hb]; grind

/-- plain: the share where the next cut lies -/
theorem share {lam u g' : Rat} (l0 : 2 / 5 ≤ lam) (l1 : lam ≤ 9 / 4) (h0 : 0 ≤ g') (h1 : g' ≤ lam + E * 8) (h2 : lam * u ≤ g' + E * 4) :
    ∃ u', lam * u' = g' ∧ 0 ≤ u' ∧ u' ≤ 1 + E * 50 ∧ u ≤ u' + E * 50 := by
  have hE := E_pos
  have hl : lam ≠ 0 := by grind
  have hi : 0 < lam⁻¹ := Rat.inv_pos.2 (by grind)
  have hi2 : lam⁻¹ ≤ 5 / 2 := by
    have hji : lam * lam⁻¹ = 1 := Rat.mul_inv_cancel _ hl
    have := Rat.mul_le_mul_of_nonneg_right l0 (Rat.le_of_lt hi)
    grind
  have hji : lam * lam⁻¹ = 1 := Rat.mul_inv_cancel _ hl
  have e := div_mul (a := g') hl
  have hu' : 0 ≤ g' / lam := by rw [Rat.div_def]; exact Rat.mul_nonneg h0 (Rat.le_of_lt hi)
  refine ⟨g' / lam, e, hu', ?_, ?_⟩
  · have := Rat.mul_le_mul_of_nonneg_right h1 (Rat.le_of_lt hi)
    have h8 := Rat.mul_le_mul_of_nonneg_left hi2 (by grind : 0 ≤ E * 8)
    rw [Rat.div_def]
    grind
  · have := Rat.mul_le_mul_of_nonneg_right h2 (Rat.le_of_lt hi)
    have h8 := Rat.mul_le_mul_of_nonneg_left hi2 (by grind : 0 ≤ E * 4)
    have h9 : lam * u * lam⁻¹ = u := by rw [Rat.mul_comm lam u, Rat.mul_assoc, hji]; grind
    rw [Rat.div_def]
    rw [h9] at this
    grind

structure CutOk (p q : Pt) (g rest : Nat) : Prop where
  a : floatBits .add .f32 g rest = some (fadd g rest)
  pl : PlaceOk p q (fadd g rest)

theorem Inv.sub {w : Path} {A B u : Rat} {i g : Nat} {s : DS} (v : Inv w A B i u g s) (hi : i < w.N) :
    floatBits .sub .f32 (longW (subP (w.P (i + 1)) (w.P i))) g = some (fsub (longW (subP (w.P (i + 1)) (w.P i))) g) ∧ ∃ z, S (fsub (longW (subP (w.P (i + 1)) (w.P i))) g) z ∧ z - (w.lam i - w.lam i * u) ≤ E * 4 ∧ w.lam i - w.lam i * u - z ≤ E * 4 ∧ 0 ≤ w.lam i * u ∧ w.lam i * u ≤ w.lam i + E * 120 := by
  have hE := E_pos
  have hE1 : E * 10000 ≤ 1 / 1000 := by rw [E_val]; decide +kernel
  have sg := w.seg i hi
  have l0 := sg.l0
  have l1 := sg.l1
  have u0 := v.u0
  have lu := Rat.mul_le_mul_of_nonneg_left v.u1 (by grind : 0 ≤ w.lam i)
  have lE := Rat.mul_le_mul_of_nonneg_right l1 (by grind : 0 ≤ E * 50)
  have lu0 := Rat.mul_nonneg (by grind : 0 ≤ w.lam i) u0
  have o := fsub_ok 3 sg.sl v.sg (by grind) (by grind) (by grind)
  obtain ⟨z, hz, z1, z2⟩ := o.near
  exact ⟨o.ok, z, hz, by grind, by grind, lu0, by grind⟩

theorem c_bound {n : Nat} (h : n ≤ 40) : 0 ≤ E * (10 * ((n : Nat) : Rat)) ∧ E * (10 * ((n : Nat) : Rat)) ≤ E * 400 := by
  have hE := E_pos
  have h1 : (n : Rat) ≤ 40 := by
    have : ((n : Nat) : Rat) ≤ ((40 : Nat) : Rat) := by exact_mod_cast h
    exact this
  have h0 : (0 : Rat) ≤ (n : Rat) := by exact_mod_cast Nat.zero_le n
  exact ⟨Rat.mul_nonneg (Rat.le_of_lt hE) (by grind), Rat.mul_le_mul_of_nonneg_left (by grind) (Rat.le_of_lt hE)⟩

theorem Inv.cut {w : Path} {A B u : Rat} {i g : Nat} {s : DS} {pa pb : Nat} (v : Inv w A B i u g s) (hi : i < w.N) (hA : 1 / 2 ≤ A) (hA2 : A ≤ 2) (hB : 1 / 2 ≤ B) (hB2 : B ≤ 2) (sa : S pa A) (sb : S pb B)
    (hc : condW (w.P i) (w.P (i + 1)) g s.rest = true) : CutOk (w.P i) (w.P (i + 1)) g s.rest ∧ ∃ u', Inv w A B i u' (fadd g s.rest) (stepD pa pb (w.P i) (w.P (i + 1)) g s) := by
  have hE := E_pos
  have hE1 : E * 10000 ≤ 1 / 1000 := by rw [E_val]; decide +kernel
  have hi6 := w.n6
  have hc30 := v.c30
  obtain ⟨_, z, hz, z1, z2, lu0, lu1⟩ := v.sub hi
  have sgm := w.seg i hi
  have l0 := sgm.l0
  have l1 := sgm.l1
  obtain ⟨rho, hr, r0, r2', b1, b2⟩ := v.rho
  obtain ⟨cb0, cb1⟩ := c_bound (n := i + s.cnt) (by omega)
  have r2 : rho ≤ 21 / 10 := by
    split at r2' <;> grind
  have hcz : rho < z := by
    have := gtr_is hz hr
    unfold condW at hc
    rw [this] at hc
    simpa using hc
  have o := fadd_ok 3 v.sg hr (by grind) (by grind) (by grind)
  obtain ⟨g', hg', g1, g2⟩ := o.near
  have hg'' : S (fadd g s.rest) g' := hg'
  have g0 := fadd_nonneg v.sg hr (by grind) (by grind) hg''
  obtain ⟨u', eu, u0', u1', uu⟩ := share (u := u) (g' := g') l0 l1 g0 (by grind) (by grind)
  rw [← eu] at hg''
  obtain ⟨pk, pat'⟩ := sgm.place hg'' u0' (by grind)
  have hL := w.lam_le i (by omega)
  have ei6 : (i : Rat) ≤ 5 := by
    have : ((i : Nat) : Rat) ≤ ((5 : Nat) : Rat) := by exact_mod_cast (by omega : i ≤ 5)
    exact this
  have hbk := brk_ge hA hB (s.cnt + 1)
  have hcn : s.cnt + 1 ≤ 30 := by
    have h1 : ((s.cnt + 1 : Nat) : Rat) ≤ ((30 : Nat) : Rat) := by
      have e30 : ((30 : Nat) : Rat) = 30 := rfl
      rw [e30]
      generalize ((s.cnt + 1 : Nat) : Rat) = cc at *
      grind
    exact_mod_cast h1
  have ecc : ((i + (s.cnt + 1) : Nat) : Rat) = ((i + s.cnt : Nat) : Rat) + 1 := by
    have : i + (s.cnt + 1) = (i + s.cnt) + 1 := by omega
    rw [this]; simp
  have ebrk : brk A B (s.cnt + 1 + 1) = brk A B (s.cnt + 1) + (if (s.cnt + 1) % 2 = 0 then A else B) := rfl
  have ebrk0 : brk A B (s.cnt + 1) = brk A B s.cnt + (if s.cnt % 2 = 0 then A else B) := rfl
  refine ⟨⟨o.ok, pk⟩, u', hg'', u0', u1', by rw [eu]; grind, ?_, hcn, ?_, ?_, ?_, ?_⟩
  · -- the rest
    show ∃ rho, S (pat pa pb (s.cnt + 1)) rho ∧ _
    unfold pat
    rw [show (stepD pa pb (w.P i) (w.P (i + 1)) g s).cnt = s.cnt + 1 from rfl, ecc, ebrk]
    generalize ((i + s.cnt : Nat) : Rat) = cc at *
    by_cases hp : (s.cnt + 1) % 2 = 0
    · simp only [hp, if_true]
      exact ⟨A, sa, by grind, by grind, by grind, by grind⟩
    · simp only [hp, if_false]
      exact ⟨B, sb, by grind, by grind, by grind, by grind⟩
  · -- the dash
    intro hp
    have hp0 : ¬ s.cnt % 2 = 0 := by simp [stepD] at hp; omega
    obtain ⟨x, y, hx, hy, _⟩ := pat'
    have pat'' := (sgm.place hg'' u0' (by grind)).2
    refine ⟨placeW (w.P i) (w.P (i + 1)) (fadd g s.rest), 0, ?_, pat'', ?_, ?_, ?_⟩
    · show Acc (if s.cnt % 2 = 0 then s.dash else [placeW (w.P i) (w.P (i + 1)) (fadd g s.rest)]) _ _
      rw [if_neg hp0]; exact Acc.one hx hy
    · show (if s.cnt % 2 = 0 then s.dash else [placeW (w.P i) (w.P (i + 1)) (fadd g s.rest)]).length ≤ i + 1
      rw [if_neg hp0]; simp
    all_goals
      rw [show (stepD pa pb (w.P i) (w.P (i + 1)) g s).cnt = s.cnt + 1 from rfl, ecc]
      generalize ((i + s.cnt : Nat) : Rat) = cc at *
      grind
  · -- what is out
    show ∀ ps ∈ (if s.cnt % 2 = 0 then s.out ++ [s.dash ++ [placeW (w.P i) (w.P (i + 1)) (fadd g s.rest)]] else s.out), Done A ps
    by_cases hp : s.cnt % 2 = 0
    · rw [if_pos hp]
      intro ps hps
      rcases List.mem_append.1 hps with h | h
      · exact v.out ps h
      · simp at h
        subst h
        obtain ⟨r, sig, ac, atr, hlen, s1, s2⟩ := v.dash hp
        simp only [hp, if_true] at ebrk0 r2'
        obtain ⟨p1, p2, lk, l, hl, q1, q2⟩ := sgm.pair atr pat' (by have := v.u0; grind) (by have := v.u1; grind) (by grind) (by grind) uu
        obtain ⟨x, y, hx, hy, _⟩ := pat'
        have eud : w.lam i * (u' - u) = g' - w.lam i * u := by rw [← eu]; grind
        rw [eud] at q1 q2
        generalize ((i + s.cnt : Nat) : Rat) = cc at *
        have ac' := ac.snoc (by omega) (by grind) (by grind) hx hy p1 p2 lk ⟨l, hl, q1, q2⟩ (by grind) (by grind)
        exact ⟨by have := ac.ne; simp; omega, _, _, ac', by grind, by grind⟩
    · rw [if_neg hp]; exact v.out
  · show (if s.cnt % 2 = 0 then s.out ++ [s.dash ++ [placeW (w.P i) (w.P (i + 1)) (fadd g s.rest)]] else s.out).length = (s.cnt + 1 + 1) / 2
    have := v.olen
    by_cases hp : s.cnt % 2 = 0
    · rw [if_pos hp]; simp; omega
    · rw [if_neg hp]; omega
  · refine ⟨fun h => absurd h (by simp [stepD]), fun _ => ?_⟩
    show ((if s.cnt % 2 = 0 then s.out ++ [s.dash ++ [placeW (w.P i) (w.P (i + 1)) (fadd g s.rest)]] else s.out).getD 0 []).getD 0 (0, 0) = w.P 0
    have hol := v.olen
    by_cases hp : s.cnt % 2 = 0
    · rw [if_pos hp]
      by_cases h0 : s.cnt = 0
      · have hne := (v.dash hp)
        obtain ⟨r, sig, ac, _⟩ := hne
        have hol0 : s.out = [] := List.eq_nil_of_length_eq_zero (by omega)
        rw [hol0]
        show (s.dash ++ [placeW (w.P i) (w.P (i + 1)) (fadd g s.rest)]).getD 0 (0, 0) = _
        rw [getD_snoc _ _ _ (by have := ac.ne; omega)]
        exact v.first.1 h0
      · have : 0 < s.out.length := by omega
        rw [getD_app _ _ _ _ this]
        exact v.first.2 h0
    · rw [if_neg hp]
      exact v.first.2 (by intro h; rw [h] at hp; exact hp rfl)
end Go.Proofs.Ytojbgeimlipajaa
