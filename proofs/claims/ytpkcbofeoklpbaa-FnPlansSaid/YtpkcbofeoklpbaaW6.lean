/- JerkPlan, whole: it returns a plan. -/
import Derived.Test.YtpkcbofeoklpbaaW5
namespace Go.Proofs.Ytpkcbofeoklpbaa
open Go.RowKit Fl

/-- the end of JerkPlan: a plan, of which all is known that the law asks -/
def JerkRet (j : Nat) (J K M L : Rat) (w : World) (e : Ending) (w' : World) : Prop :=
  ∃ r h c R H C al, Plan j r h c J K M L R H C al ∧ RetPlan j r h c w e w'

theorem steep_near {j k : Nat} {J K : Rat} (hj : S j J) (hk : S k K) (j0 : 1 / 2 ≤ J) (j4 : J ≤ 4) (k0 : 1 / 2 ≤ K) (k4 : K ≤ 4) :
    floatBits .mul .f32 k k = some (fmul k k) ∧ floatBits .quo .f32 (fmul k k) j = some (fdiv (fmul k k) j) ∧ ∃ z, S (fdiv (fmul k k) j) z ∧ Nr z (K * K / J) 200 := by
  have hE := E_pos
  have hkk := mm (by grind : (0 : Rat) ≤ K) k4 (by grind : (0 : Rat) ≤ K) k4
  have m := fmul_ok 16 hk hk (by grind) (by grind) (by grind)
  obtain ⟨y, hy, y1, y2⟩ := m.near
  have hy' : S (fmul k k) y := hy
  have e16 := E_small (c := 16 + 1 / 1000) (B := 1 / 1000) (by grind)
  have hJ : 0 < J := by grind
  have hJ0 : J ≠ 0 := by grind
  have hi0 : 0 < J⁻¹ := Rat.inv_pos.2 hJ
  have hi2 : J⁻¹ ≤ 2 := by
    have hji : J * J⁻¹ = 1 := Rat.mul_inv_cancel _ hJ0
    have := Rat.mul_le_mul_of_nonneg_right j0 (Rat.le_of_lt hi0)
    grind
  have q0 : -33 ≤ y / J ∧ y / J ≤ 33 := by
    have y0 : 0 ≤ y := fmul_nonneg hk hk hkk.1 (by grind) hy'
    have := mm y0 (by grind : y ≤ 161 / 10) (Rat.le_of_lt hi0) hi2
    rw [Rat.div_def]
    constructor <;> grind
  have d := fdiv_ok 33 hy' hj hJ0 q0.1 q0.2 (by grind)
  obtain ⟨z, hz, z1, z2⟩ := d.near
  have hdiff : Nr (y / J) (K * K / J) 34 := by
    rw [Rat.div_def, Rat.div_def]
    have a1 := Rat.mul_le_mul_of_nonneg_right (by grind : y - K * K ≤ E * (16 + 1 / 1000)) (Rat.le_of_lt hi0)
    have a2 := Rat.mul_le_mul_of_nonneg_right (by grind : K * K - y ≤ E * (16 + 1 / 1000)) (Rat.le_of_lt hi0)
    have a3 := Rat.mul_le_mul_of_nonneg_left hi2 (by grind : 0 ≤ E * (16 + 1 / 1000))
    constructor <;> grind
  obtain ⟨d1, d2⟩ := hdiff
  exact ⟨m.ok, d.ok, z, hz, by constructor <;> grind⟩

theorem jerkPlan_any (l m k j : Nat) (J K M L : Rat) (nj nk nm : Nat) (hj : S j J) (hk : S k K) (hm : S m M) (hl : S l L) (ej : 2 * J = nj) (ek : 2 * K = nk) (em : 2 * M = nm)
    (bj : 1 ≤ nj ∧ nj ≤ 8) (bk : 1 ≤ nk ∧ nk ≤ 8) (bm : 1 ≤ nm ∧ nm ≤ 8) (l0 : 1 / 4 ≤ L) (l8 : L ≤ 8) (w : World) :
    Calls Try.prog 8 #[.float .f32 l, .float .f32 m, .float .f32 k, .float .f32 j] w (JerkRet j J K M L w) := by
  have cast (n : Nat) (h : 1 ≤ n ∧ n ≤ 8) : (1 : Rat) ≤ (n : Rat) ∧ (n : Rat) ≤ 8 := by
    constructor
    · exact_mod_cast h.1
    · exact_mod_cast h.2
  obtain ⟨j0, j4⟩ := cast nj bj
  obtain ⟨k0, k4⟩ := cast nk bk
  obtain ⟨m0, m4⟩ := cast nm bm
  obtain ⟨o1, o2, z, hz, z1, z2⟩ := steep_near hj hk (by grind) (by grind) (by grind) (by grind)
  have J0 : 0 < J := by grind
  have K0 : 0 < K := by grind
  have M0 : 0 < M := by grind
  have L0 : 0 < L := by grind
  by_cases hst : M < z
  · have hs := cgt_t hz hm hst
    obtain ⟨o3, q, hq, q0, q1, R, hR, b⟩ := base1 (K := K) hj hm (by grind) (by grind) (by grind) (by grind) (by grind) (by grind) (by grind)
    obtain ⟨ok, _, _, y, hy, _⟩ := way_near hj hR s_zero (by grind) b.r0 (by have := b.r3; grind) b.h0 (by grind) (by have := b.jr; grind) (by have := b.p1; grind)
    by_cases hle : y ≤ L
    · obtain ⟨_, o6, o7, C, al, P⟩ := caseA hj hl hR s_zero b (by grind) (by grind) (by grind) (by grind) (by grind) (by grind) l0 l8 (fun z' h' => by rw [Is.uniq h' hy]; exact hle)
      exact (jerk_steep_short l m k j J K M L hj hk hm hl J0 K0 M0 L0 o1 o2 hs o3 q hq q0 q1 ok (cle_t hy hl hle) o6 _ o7 R 0 C P.w.sr s_zero P.w.sc P.p.r0 P.p.h0 P.p.c0 w).mono
        (fun e w' hr => ⟨_, _, _, R, 0, C, al, P, hr⟩)
    · obtain ⟨_, hb, o6, o7, R1, H1, al, P⟩ := caseB hj hl hR s_zero b (by grind) (by grind) (by grind) (by grind) (by grind) (by grind) l0 l8 (fun z' h' => by rw [Is.uniq h' hy]; exact hle)
      exact (jerk_steep_long l m k j J K M L hj hk hm hl J0 K0 M0 L0 o1 o2 hs o3 q hq q0 q1 ok (cle_f hy hl hle) hb o6 o7 R1 H1 P.w.sr P.w.sh P.p.r0 P.p.h0 w).mono
        (fun e w' hr => ⟨_, _, _, R1, H1, 0, al, P, hr⟩)
  · have hs := cgt_f hz hm hst
    obtain ⟨o3, o4, o5, R, H, hR, hH, b⟩ := base2 hj hk hm ej ek em bj bk bm (by grind)
    obtain ⟨ok, _, _, y, hy, _⟩ := way_near hj hR hH (by grind) b.r0 (by have := b.r3; grind) b.h0 (by have := b.h8; grind) (by have := b.jr; grind) (by have := b.p1; grind)
    by_cases hle : y ≤ L
    · obtain ⟨_, o6, o7, C, al, P⟩ := caseA hj hl hR hH b (by grind) (by grind) (by grind) (by grind) (by grind) (by grind) l0 l8 (fun z' h' => by rw [Is.uniq h' hy]; exact hle)
      exact (jerk_flat_short l m k j J K M L hj hk hm hl J0 K0 M0 L0 o1 o2 hs o3 o4 o5 ok (cle_t hy hl hle) o6 _ o7 R H C P.w.sr P.w.sh P.w.sc P.p.r0 P.p.h0 P.p.c0 w).mono
        (fun e w' hr => ⟨_, _, _, R, H, C, al, P, hr⟩)
    · obtain ⟨_, hb, o6, o7, R1, H1, al, P⟩ := caseB hj hl hR hH b (by grind) (by grind) (by grind) (by grind) (by grind) (by grind) l0 l8 (fun z' h' => by rw [Is.uniq h' hy]; exact hle)
      exact (jerk_flat_long l m k j J K M L hj hk hm hl J0 K0 M0 L0 o1 o2 hs o3 o4 o5 ok (cle_f hy hl hle) hb o6 o7 R1 H1 P.w.sr P.w.sh P.p.r0 P.p.h0 w).mono
        (fun e w' hr => ⟨_, _, _, R1, H1, 0, al, P, hr⟩)
end Go.Proofs.Ytpkcbofeoklpbaa
