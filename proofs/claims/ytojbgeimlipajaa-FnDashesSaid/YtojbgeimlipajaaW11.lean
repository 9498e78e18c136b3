/- Walks: the closures of DashPath; its last look. -/
import Derived.Test.YtojbgeimlipajaaW10
namespace Go.Proofs.Ytojbgeimlipajaa
open Go.RowKit Fl

/-- the pattern of two words at k -/
theorem pat_cell {w : World} {b off pa pb : Nat} (h0 : w.cell? ⟨b, off, none⟩ = some (.float .f32 pa)) (h1 : w.cell? ⟨b, off + 1, none⟩ = some (.float .f32 pb)) (k : Nat) : w.cell? ⟨b, off + k % 2, none⟩ = some (.float .f32 (pat pa pb k)) := by
  unfold pat
  rcases Nat.mod_two_eq_zero_or_one k with h | h <;> simp [h, h0, h1]

-- DashPath$1 (17)
theorem current_any (b4 b8 b off pc pa pb cnt : Nat) (w : World) (hp : w.cell? ⟨b4, 0, none⟩ = some (.slice (some ⟨b, off, none⟩) 2 pc)) (hc : w.cell? ⟨b8, 0, none⟩ = some (.int .i64 (cnt : Int)))
    (h0 : w.cell? ⟨b, off, none⟩ = some (.float .f32 pa)) (h1 : w.cell? ⟨b, off + 1, none⟩ = some (.float .f32 pb)) (hk : cnt ≤ 2000) :
    Calls Try.prog 17 #[.pointer (some ⟨b4, 0, none⟩), .pointer (some ⟨b8, 0, none⟩)] w fun e w' => e = .returned (.float .f32 (pat pa pb cnt)) ∧ ∃ q, w' = w.drewN q := by
  have hh := pat_cell h0 h1 cnt
  have k0 : (0 : Int) ≤ (cnt : Int) := by omega
  have k1 : (cnt : Int) ≤ 2000 := by omega
  have t0 : (cnt : Int) % 2 < 2 := by omega
  have t1 : (0 : Int) ≤ (cnt : Int) % 2 := by omega
  have t2 : ((cnt : Int) % 2).toNat = cnt % 2 := by omega
  have t3 : (cnt : Int).tmod 2 = (cnt : Int) % 2 := by rw [Int.tmod_eq_emod_of_nonneg k0]
  clear h0 h1
  go_enter Try.func17, Try.ntmps17
  go_wp2
  go_quiet (fail)
  go_wp2
  go_ret
  exact ⟨rfl, _, rfl⟩

def even (k : Nat) : Bool := decide (k % 2 = 0)
-- DashPath$2 (18)
theorem isDash_any (b8 cnt : Nat) (w : World) (hc : w.cell? ⟨b8, 0, none⟩ = some (.int .i64 (cnt : Int))) (hk : cnt ≤ 2000) :
    Calls Try.prog 18 #[.pointer (some ⟨b8, 0, none⟩)] w fun e w' => e = .returned (.bool (even cnt)) ∧ w = w' := by
  have k0 : (0 : Int) ≤ (cnt : Int) := by omega
  have k1 : (cnt : Int) ≤ 2000 := by omega
  go_enter Try.func18, Try.ntmps18
  go_wp2
  go_ret
  refine ⟨?_, rfl⟩
  have e : even cnt = ((cnt : Int) % 2 == 0) := by
    unfold even
    rw [Bool.eq_iff_iff]; simp; omega
  rw [e]; rfl

-- DashPath$3 (24)
theorem pointsNot_any (b off n cap : Nat) (a : Nat → Pt) (w : World) (hm : n ≤ 1000)
    (hc : ∀ k, k < n → w.cell? ⟨b, off + k, none⟩ = some (cx (a k))) (hv : ∀ k, k < n → FinP (a k)) :
    Calls Try.prog 24 #[.slice (some ⟨b, off, none⟩) n cap] w fun e w' => e = .returned (.bool false) ∧ w = w' := by
  have H := arePoints_any b off n cap a w hm hc hv
  clear hc hv
  go_enter Try.func24, Try.ntmps24
  go_wp2_with (go_at_call 25; refine H.mono ?_; rintro e w' ⟨rfl, rfl⟩)
  go_ret
  exact ⟨rfl, rfl⟩

-- slices.IndexFunc (36)
theorem index24_any (b off n cap : Nat) (ga : Nat → Option Addr) (na ca : Nat → Nat) (w : World) (hm : n ≤ 1000)
    (hc : ∀ k, k < n → w.cell? ⟨b, off + k, none⟩ = some (.slice (ga k) (na k) (ca k)))
    (hf : ∀ k, k < n → Calls Try.prog 24 #[.slice (ga k) (na k) (ca k)] w fun e w' => e = .returned (.bool false) ∧ w = w') :
    Calls Try.prog 36 #[.slice (some ⟨b, off, none⟩) n cap, .func (.func 24) #[] #[]] w fun e w' => e = .returned (.int .i64 (-1)) ∧ w = w' := by
  go_enter Try.func36, Try.ntmps36
  go_wp2
  go_loop [8] (fun i => ∃ k : Nat, k ≤ n ∧ i = .int .i64 k) (fun i => n - (intOf i).toNat)
  case atStart => exact ⟨0, Nat.zero_le _, rfl⟩
  case round =>
    obtain ⟨k, hk, rfl⟩ := hrel
    by_cases hlt : k < n
    · have hck := hc k hlt
      have hfk := hf k hlt
      clear hc hf
      go_wp2_with (go_at_call 24; refine hfk.mono ?_; rintro e w' ⟨rfl, rfl⟩)
      go_round
      case rel => exact ⟨k + 1, by omega, by go_num⟩
      case measure => simp [intOf]; omega
    · clear hc hf
      go_wp2
      go_ret
      exact ⟨rfl, rfl⟩
-- slices.ContainsFunc (23)
theorem contains24_any (b off n cap : Nat) (ga : Nat → Option Addr) (na ca : Nat → Nat) (w : World) (hm : n ≤ 1000)
    (hc : ∀ k, k < n → w.cell? ⟨b, off + k, none⟩ = some (.slice (ga k) (na k) (ca k)))
    (hf : ∀ k, k < n → Calls Try.prog 24 #[.slice (ga k) (na k) (ca k)] w fun e w' => e = .returned (.bool false) ∧ w = w') :
    Calls Try.prog 23 #[.slice (some ⟨b, off, none⟩) n cap, .func (.func 24) #[] #[]] w fun e w' => e = .returned (.bool false) ∧ w = w' := by
  have H := index24_any b off n cap ga na ca w hm hc hf
  clear hc hf
  go_enter Try.func23, Try.ntmps23
  go_wp2_with (go_at_call 36; refine H.mono ?_; rintro e w' ⟨rfl, rfl⟩)
  go_ret
  exact ⟨rfl, rfl⟩
end Go.Proofs.Ytojbgeimlipajaa
