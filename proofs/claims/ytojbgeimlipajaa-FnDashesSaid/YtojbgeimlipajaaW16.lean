/- All that the law's walk needs to know of words. -/
import Derived.Test.YtojbgeimlipajaaW15
namespace Go.Proofs.Ytojbgeimlipajaa
open Go.RowKit Fl

structure LawIn (N : Nat) (P : Nat → Pt) (a b : Nat) (outs : List (List Pt)) (M : Nat) : Prop where
  fin : ∀ k, k < N + 1 → FinP (P k)
  seg : ∀ k, k + 1 < N + 1 → floatBits .sub .f32 (P (k + 1)).1 (P k).1 = some (fsub (P (k + 1)).1 (P k).1) ∧ floatBits .sub .f32 (P (k + 1)).2 (P k).2 = some (fsub (P (k + 1)).2 (P k).2) ∧ LongOk (subP (P (k + 1)) (P k))
  tot : ∀ k, k < N → floatBits .add .f64 (totW P k) (up (longW (subP (P (k + 1)) (P k)))) = some (totW P (k + 1))
  ua : floatToFloatBits .f32 a .f64 = some (up a)
  ub : floatToFloatBits .f32 b .f64 = some (up b)
  ab : floatBits .add .f64 (up a) (up b) = some (dadd (up a) (up b))
  o1 : 1 ≤ outs.length
  o16 : outs.length ≤ 16
  look : ∀ k, k < outs.length → LookOk a k outs.length (outs.getD k [])
  sum : ∀ k, k < outs.length → floatBits .add .f64 (sumD outs k) (dashLen (outs.getD k [])) = some (sumD outs (k + 1))
  m20 : M ≤ 20
  step : ∀ k, k < M → floatBits .add .f64 (atW a b k) (dadd (up a) (up b)) = some (atW a b (k + 1))
  lt : ∀ k, k < M → (FloatKind.f64.format.order (atW a b k) (totW P N) == some .lt) = true
  ge : (FloatKind.f64.format.order (atW a b M) (totW P N) == some .lt) = false
  want : ∀ k, k < M → WantOk a b (totW P N) k
  gap : ∃ x y d, D (sumD outs outs.length) x ∧ D (wantW a b (totW P N) M) y ∧
      (if x < y then floatBits .sub .f64 (wantW a b (totW P N) M) (sumD outs outs.length) = some d else floatBits .sub .f64 (sumD outs outs.length) (wantW a b (totW P N) M) = some d) ∧
      (FloatKind.f64.format.order d dTwenty == some .lt) = true
  first : (outs.getD 0 []).getD 0 (0, 0) = P 0

theorem first_past (C t : Rat) (K : Nat) : t ≤ (K : Rat) * C → ∃ M, M ≤ K ∧ (∀ k, k < M → (k : Rat) * C < t) ∧ t ≤ (M : Rat) * C := by
  induction K with
  | zero => intro h; exact ⟨0, Nat.le_refl _, fun k hk => absurd hk (Nat.not_lt_zero k), h⟩
  | succ K ih =>
    intro h
    by_cases hc : t ≤ (K : Rat) * C
    · obtain ⟨M, h1, h2, h3⟩ := ih hc
      exact ⟨M, by omega, h2, h3⟩
    · by_cases hex : ∃ k, k < K + 1 ∧ t ≤ (k : Rat) * C
      · obtain ⟨k, hk, hk2⟩ := hex
        by_cases hkK : k = K
        · subst hkK; exact absurd hk2 hc
        · -- not reached for C at least 0; taken by the claim at k
          have : ∀ m, m ≤ K → t ≤ (m : Rat) * C → ∃ M, M ≤ m ∧ (∀ k, k < M → (k : Rat) * C < t) ∧ t ≤ (M : Rat) * C := by
            intro m
            induction m using Nat.strongRecOn with
            | _ m ih2 =>
              intro hm hmt
              by_cases he : ∃ j, j < m ∧ t ≤ (j : Rat) * C
              · obtain ⟨j, hj, hjt⟩ := he
                obtain ⟨M, h1, h2, h3⟩ := ih2 j hj (by omega) hjt
                exact ⟨M, by omega, h2, h3⟩
              · exact ⟨m, Nat.le_refl _, fun j hj => by
                  by_cases hl : (j : Rat) * C < t
                  · exact hl
                  · exact absurd ⟨j, hj, by grind⟩ he, hmt⟩
          obtain ⟨M, h1, h2, h3⟩ := this k (by omega) hk2
          exact ⟨M, by omega, h2, h3⟩
      · exact ⟨K + 1, Nat.le_refl _, fun j hj => by
          by_cases hl : (j : Rat) * C < t
          · exact hl
          · exact absurd ⟨j, hj, by grind⟩ hex, h⟩

theorem law_in {w : Path} {a b na nb r0 : Nat} (h2 : 2 ≤ na) (h8 : na ≤ 8) (h2' : 2 ≤ nb) (h8' : nb ≤ 8) (ha : S a ((na : Rat) / 4)) (hb : S b ((nb : Rat) / 4)) (hr : S r0 ((na : Rat) / 4)) :
    ∃ M, LawIn w.N w.P a b (outsD (runD a b w.P w.N ⟨0, r0, [], [w.P 0]⟩)) M := by
  have a8 : (na : Rat) ≤ 8 := cast_le (m := 8) h8
  have b8 : (nb : Rat) ≤ 8 := cast_le (m := 8) h8'
  have a2 : 2 ≤ (na : Rat) := cast_le (n := 2) h2
  have b2 : 2 ≤ (nb : Rat) := cast_le (n := 2) h2'
  have A1 : (1 : Rat) / 2 ≤ (na : Rat) / 4 := by grind
  have A2 : (na : Rat) / 4 ≤ 2 := by grind
  have B1 : (1 : Rat) / 2 ≤ (nb : Rat) / 4 := by grind
  have B2 : (nb : Rat) / 4 ≤ 2 := by grind
  have v := run_mid (pa := a) (pb := b) A1 A2 B1 B2 ha hb (start_mid (w := w) hr A1) w.N (Nat.le_refl _)
  obtain ⟨e16, ed, edn, ec⟩ := ends v A1 A2 B1 B2
  obtain ⟨f1, f2⟩ := outs_first v
  obtain ⟨t0, tv, ht, t1, t2⟩ := tot_near w w.N (Nat.le_refl _)
  have hE := E_pos
  have hE1 : E * 10000 ≤ 1 / 1000 := by rw [E_val]; decide +kernel
  have n6 : (w.N : Rat) ≤ 6 := cast_le (m := 6) w.n6
  have hEn := Rat.mul_le_mul_of_nonneg_left n6 (Rat.le_of_lt hE)
  have hL := w.lam_le w.N (Nat.le_refl _)
  have hLp := lam_pos w
  obtain ⟨M, hM, hlt, hge⟩ := first_past ((na : Rat) / 4 + (nb : Rat) / 4) tv 20 (by
    have e20 : ((20 : Nat) : Rat) = 20 := rfl
    rw [e20]; grind)
  obtain ⟨s1, _⟩ := sum_near (outs := outsD (runD a b w.P w.N ⟨0, r0, [], [w.P 0]⟩)) A1 A2 e16 ed _ (Nat.le_refl _)
  obtain ⟨ab, st, _⟩ := at_near ha hb h8 h8' M hM
  obtain ⟨wn, _⟩ := want_near ha hb h2 h8 h2' h8' ht (by grind) (by grind) M hM hlt
  obtain ⟨x, y, d, g1, g2, g3, g4⟩ := last_ok (w := w) h2 h8 h2' h8' ha hb e16 ed ec ht (by grind) (by grind) hM hlt hge
  refine ⟨M, w.fin, w.segs, t0, (up_ok ha (by grind) (by grind)).1, (up_ok hb (by grind) (by grind)).1, ab, f1, e16, fun k hk => look_ok ha A1 A2 k (ed k hk) (edn k), s1, hM, st, fun k hk => ?_, ?_, wn, ⟨x, y, d, g1, g2, g3, g4⟩, f2⟩
  · have := lss_is (at_near ha hb h8 h8' k (by omega)).2.2 ht
    rw [show FloatKind.f64.format = Ieee.double from rfl, this]
    simp [hlt k hk]
  · have := lss_is (at_near ha hb h8 h8' M hM).2.2 ht
    rw [show FloatKind.f64.format = Ieee.double from rfl, this]
    simp; grind

/-- min of two doubles -/
theorem fmin_run {a b : Nat} (h : Ieee.double.order a b ≠ none) : ∀ ts t w, (Builtin.min_ ts t #[.float .f64 a, .float .f64 b]).run Try.prog w = .ok (.float .f64 (minW a b)) w := by
  intro ts t w
  unfold minW
  cases ho : Ieee.double.order a b with
  | none => exact absurd ho h
  | some o =>
    have ho' : FloatKind.f64.format.order a b = some o := ho
    cases o <;> simp [Builtin.min_, Builtin.min2, ho']
theorem cdif {a b c d re im : Nat} (h1 : floatBits .sub .f32 a c = some re) (h2 : floatBits .sub .f32 b d = some im) : ∀ t w, (binOp .sub t (.complex .f32 a b) (.complex .f32 c d)).run Try.prog w = .ok (.complex .f32 re im) w :=
  fun t w => run_complex_sum w .sub (.inr rfl) t .f32 a b c d re im (by simp [cSumBits, h1, h2])
end Go.Proofs.Ytojbgeimlipajaa
