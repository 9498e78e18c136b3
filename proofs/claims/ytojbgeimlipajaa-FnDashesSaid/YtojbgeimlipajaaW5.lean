/- Walks: slices.Contains of numbers; equal words. -/
import Derived.Test.YtojbgeimlipajaaW4
namespace Go.Proofs.Ytojbgeimlipajaa
open Go.RowKit Fl

-- slices.Index (42) of a number that is not there
theorem index0_any (b off n cap x : Nat) (a : Nat → Nat) (w : World) (hm : n ≤ 1000)
    (hc : ∀ k, k < n → w.cell? ⟨b, off + k, none⟩ = some (.float .f32 (a k)))
    (hf : ∀ k, k < n → (FloatKind.f32.format.order x (a k) == some .eq) = false) :
    Calls Try.prog 42 #[.slice (some ⟨b, off, none⟩) n cap, .float .f32 x] w fun e w' => e = .returned (.int .i64 (-1)) ∧ w = w' := by
  go_enter Try.func42, Try.ntmps42
  go_wp2
  go_loop [8] (fun i => ∃ k : Nat, k ≤ n ∧ i = .int .i64 k) (fun i => n - (intOf i).toNat)
  case atStart => exact ⟨0, Nat.zero_le _, rfl⟩
  case round =>
    obtain ⟨k, hk, rfl⟩ := hrel
    by_cases hlt : k < n
    · have hck := hc k hlt
      have hfk := hf k hlt
      clear hc hf
      go_wp2
      exact ⟨⟨k + 1, by omega, by go_num⟩, by simp [intOf]; omega⟩
    · clear hc hf
      go_wp2
      go_ret
      exact ⟨rfl, rfl⟩
-- slices.Contains (31)
theorem contains0_any (b off n cap x : Nat) (a : Nat → Nat) (w : World) (hm : n ≤ 1000)
    (hc : ∀ k, k < n → w.cell? ⟨b, off + k, none⟩ = some (.float .f32 (a k)))
    (hf : ∀ k, k < n → (FloatKind.f32.format.order x (a k) == some .eq) = false) :
    Calls Try.prog 31 #[.slice (some ⟨b, off, none⟩) n cap, .float .f32 x] w fun e w' => e = .returned (.bool false) ∧ w = w' := by
  have H := index0_any b off n cap x a w hm hc hf
  clear hc hf
  go_enter Try.func31, Try.ntmps31
  go_wp2_with (go_at_call 42; refine H.mono ?_; rintro e w' ⟨rfl, rfl⟩)
  go_ret
  exact ⟨rfl, rfl⟩

/-- math.Float32bits, by the model -/
theorem bits_run (x : Nat) : ∀ w, (callFunc 48 #[.float .f32 x]).run Try.prog w = .ok (.value (.int .u32 x)) w := by
  intro w
  rw [run_callFunc_extern Try.func48 (by kernel_rfl) (by kernel_rfl) (by kernel_rfl) (e := Extern.MathFloatBits.float32bits) (by kernel_rfl)]
  rfl

-- l01Bits (47)
theorem bits_any (x : Nat) (v : Rat) (h : S x v) (w : World) : Calls Try.prog 47 #[.float .f32 x] w fun e w' => e = .returned (.int .i64 x) ∧ w = w' := by
  have e1 : FloatKind.f32.format.order x x = some .eq := by
    have := eql_is h h
    exact eq_of_beq (by rw [show FloatKind.f32.format = Ieee.single from rfl, this]; simp)
  have hx : (x : Int) < 4294967296 := by
    have := h.lt
    have e : 2 * Ieee.single.signWeight = 4294967296 := by decide
    omega
  have x0 : (0 : Int) ≤ (x : Int) := by omega
  have hb := bits_run x
  clear h
  go_enter Try.func47, Try.ntmps47
  go_wp2
  go_ret
  exact ⟨rfl, rfl⟩
-- l01Same (46)
theorem same_any (x : Nat) (v : Rat) (h : S x v) (w : World) : Calls Try.prog 46 #[.float .f32 x, .float .f32 x] w fun e w' => e = .returned (.bool true) ∧ w = w' := by
  have H := bits_any x v h
  clear h
  go_enter Try.func46, Try.ntmps46
  go_wp2_with (go_at_call 47; refine (H _).mono ?_; rintro e w' ⟨rfl, rfl⟩)
  go_ret
  exact ⟨rfl, rfl⟩
-- l01CSame (40)
theorem csame_any (p : Pt) (h : FinP p) (w : World) : Calls Try.prog 40 #[cx p, cx p] w fun e w' => e = .returned (.bool true) ∧ w = w' := by
  obtain ⟨x, y, hx, hy⟩ := h
  have H1 := same_any _ _ hx
  have H2 := same_any _ _ hy
  unfold cx
  clear hx hy
  go_enter Try.func40, Try.ntmps40
  go_wp2_with (first | (go_at_call 46; (with_reducible refine (H1 _).mono ?_); rintro e w' ⟨rfl, rfl⟩) | (go_at_call 46; (with_reducible refine (H2 _).mono ?_); rintro e w' ⟨rfl, rfl⟩))
  go_ret
  exact ⟨rfl, rfl⟩
-- SameComplex (26)
theorem sameC_any (p : Pt) (h : FinP p) (w : World) : Calls Try.prog 26 #[cx p, cx p] w fun e w' => e = .returned (.bool true) ∧ w = w' := by
  have H := csame_any p h
  clear h
  go_enter Try.func26, Try.ntmps26
  go_wp2_with (go_at_call 40; refine (H _).mono ?_; rintro e w' ⟨rfl, rfl⟩)
  go_ret
  exact ⟨rfl, rfl⟩
-- b10CSameAll (9)
theorem sameAll_any (b off n cap b' off' cap' : Nat) (a : Nat → Pt) (w : World) (hm : n ≤ 1000)
    (hc : ∀ k, k < n → w.cell? ⟨b, off + k, none⟩ = some (cx (a k))) (hc' : ∀ k, k < n → w.cell? ⟨b', off' + k, none⟩ = some (cx (a k))) (hv : ∀ k, k < n → FinP (a k)) :
    Calls Try.prog 9 #[.slice (some ⟨b, off, none⟩) n cap, .slice (some ⟨b', off', none⟩) n cap'] w fun e w' => e = .returned (.bool true) ∧ ∃ q, w' = w.drewN q := by
  have n0 : (0 : Int) ≤ (n : Int) := by omega
  go_enter Try.func9, Try.ntmps9
  go_wp2
  go_loopw [13] (fun i wr => ∃ k q : Nat, k ≤ n ∧ i = .int .i64 k ∧ wr = w.drewN q) (fun i _ => n - (intOf i).toNat)
  case atStart => exact ⟨0, 0, Nat.zero_le _, rfl, rfl⟩
  case round =>
    obtain ⟨k, q, hk, rfl, hwr⟩ := hrel
    by_cases hlt : k < n
    · have hck : wr.cell? ⟨b, off + k, none⟩ = some (cx (a k)) := by rw [hwr]; exact hc k hlt
      have hck' : wr.cell? ⟨b', off' + k, none⟩ = some (cx (a k)) := by rw [hwr]; exact hc' k hlt
      have H := sameC_any _ (hv k hlt)
      unfold cx at hck hck' H
      have k0 : (0 : Int) ≤ (k : Int) := by omega
      have k1 : (k : Int) < (n : Int) := by omega
      have hwr' := Lib.hid hwr
      clear hc hc' hv hwr
      go_wp2
      go_quiet ((go_at_call 26; exact Calls.quiet_of_same ((H _).mono (fun e w' h => ⟨h.1, h.2.symm⟩))))
      go_wp2
      exact ⟨⟨k + 1, q + nq, by omega, by go_num, by rw [hwr'.out, World.drewN_drewN]⟩, by simp [intOf]; omega⟩
    · clear hc hc' hv
      have hwr' := Lib.hid hwr
      clear hwr
      go_wp2
      go_ret
      exact ⟨rfl, q, hwr'.out⟩
end Go.Proofs.Ytojbgeimlipajaa
