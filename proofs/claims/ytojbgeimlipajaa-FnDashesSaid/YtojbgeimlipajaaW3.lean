/- Walks: arePoints. -/
import Derived.Test.YtojbgeimlipajaaW2
namespace Go.Proofs.Ytojbgeimlipajaa
open Go.RowKit Fl

def FinP (p : Pt) : Prop := ∃ x y, S p.1 x ∧ S p.2 y

-- IsFiniteComplex (39)
theorem finC_any (p : Pt) (h : FinP p) (w : World) : Calls Try.prog 39 #[cx p] w fun e w' => e = .returned (.bool true) ∧ w = w' := by
  obtain ⟨x, y, hx, hy⟩ := h
  have H1 := isFinite_any _ _ hx
  have H2 := isFinite_any _ _ hy
  unfold cx
  clear hx hy
  go_enter Try.func39, Try.ntmps39
  go_wp2_with (first | (go_at_call 16; (with_reducible refine (H1 _).mono ?_); rintro e w' ⟨rfl, rfl⟩) | (go_at_call 16; (with_reducible refine (H2 _).mono ?_); rintro e w' ⟨rfl, rfl⟩))
  go_ret
  exact ⟨rfl, rfl⟩
-- arePoints$1 (38)
theorem point1_any (p : Pt) (h : FinP p) (w : World) : Calls Try.prog 38 #[cx p] w fun e w' => e = .returned (.bool false) ∧ w = w' := by
  have H := finC_any p h
  clear h
  go_enter Try.func38, Try.ntmps38
  go_wp2_with (go_at_call 39; refine (H _).mono ?_; rintro e w' ⟨rfl, rfl⟩)
  go_ret
  exact ⟨rfl, rfl⟩
-- slices.IndexFunc (45)
theorem index38_any (b off n cap : Nat) (a : Nat → Pt) (w : World) (hm : n ≤ 1000)
    (hc : ∀ k, k < n → w.cell? ⟨b, off + k, none⟩ = some (cx (a k)))
    (hf : ∀ k, k < n → Calls Try.prog 38 #[cx (a k)] w fun e w' => e = .returned (.bool false) ∧ w = w') :
    Calls Try.prog 45 #[.slice (some ⟨b, off, none⟩) n cap, .func (.func 38) #[] #[]] w fun e w' => e = .returned (.int .i64 (-1)) ∧ w = w' := by
  go_enter Try.func45, Try.ntmps45
  go_wp2
  go_loop [8] (fun i => ∃ k : Nat, k ≤ n ∧ i = .int .i64 k) (fun i => n - (intOf i).toNat)
  case atStart => exact ⟨0, Nat.zero_le _, rfl⟩
  case round =>
    obtain ⟨k, hk, rfl⟩ := hrel
    by_cases hlt : k < n
    · have hck := hc k hlt
      have hfk := hf k hlt
      unfold cx at hck hfk
      clear hc hf
      go_wp2_with (go_at_call 38; refine hfk.mono ?_; rintro e w' ⟨rfl, rfl⟩)
      go_round
      case rel => exact ⟨k + 1, by omega, by go_num⟩
      case measure => simp [intOf]; omega
    · clear hc hf
      go_wp2
      go_ret
      exact ⟨rfl, rfl⟩
-- slices.ContainsFunc (37)
theorem contains38_any (b off n cap : Nat) (a : Nat → Pt) (w : World) (hm : n ≤ 1000)
    (hc : ∀ k, k < n → w.cell? ⟨b, off + k, none⟩ = some (cx (a k)))
    (hf : ∀ k, k < n → Calls Try.prog 38 #[cx (a k)] w fun e w' => e = .returned (.bool false) ∧ w = w') :
    Calls Try.prog 37 #[.slice (some ⟨b, off, none⟩) n cap, .func (.func 38) #[] #[]] w fun e w' => e = .returned (.bool false) ∧ w = w' := by
  have H := index38_any b off n cap a w hm hc hf
  clear hc hf
  go_enter Try.func37, Try.ntmps37
  go_wp2_with (go_at_call 45; refine H.mono ?_; rintro e w' ⟨rfl, rfl⟩)
  go_ret
  exact ⟨rfl, rfl⟩
-- arePoints (25)
theorem arePoints_any (b off n cap : Nat) (a : Nat → Pt) (w : World) (hm : n ≤ 1000)
    (hc : ∀ k, k < n → w.cell? ⟨b, off + k, none⟩ = some (cx (a k))) (hv : ∀ k, k < n → FinP (a k)) :
    Calls Try.prog 25 #[.slice (some ⟨b, off, none⟩) n cap] w fun e w' => e = .returned (.bool true) ∧ w = w' := by
  have H := contains38_any b off n cap a w hm hc (fun k hk => point1_any _ (hv k hk) w)
  clear hc hv
  go_enter Try.func25, Try.ntmps25
  go_wp2_with (go_at_call 37; refine H.mono ?_; rintro e w' ⟨rfl, rfl⟩)
  go_ret
  exact ⟨rfl, rfl⟩
end Go.Proofs.Ytojbgeimlipajaa
