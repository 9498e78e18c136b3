/- Walks: IsPath. -/
import Derived.Test.YtojbgeimlipajaaW6
namespace Go.Proofs.Ytojbgeimlipajaa
open Go.RowKit Fl

-- IsPath (14)
theorem isPath_any (b off n cap : Nat) (a : Nat → Pt) (w : World) (hn : 2 ≤ n) (hm : n ≤ 48)
    (hc : ∀ k, k < n → w.cell? ⟨b, off + k, none⟩ = some (cx (a k))) (hb : b < w.heap.size) (hv : ∀ k, k < n → FinP (a k))
    (hs : ∀ k, k + 1 < n → floatBits .sub .f32 (a (k + 1)).1 (a k).1 = some (fsub (a (k + 1)).1 (a k).1) ∧ floatBits .sub .f32 (a (k + 1)).2 (a k).2 = some (fsub (a (k + 1)).2 (a k).2) ∧ LongOk (subP (a (k + 1)) (a k)))
    (hl : ∀ k, k + 1 < n → ∃ l, S (longW (subP (a (k + 1)) (a k))) l ∧ 0 < l) :
    Calls Try.prog 14 #[.slice (some ⟨b, off, none⟩) n cap] w fun e w' => e = .returned (.bool true) ∧ Below w.heap.size w w' := by
  have H1 := arePoints_any b off n cap a w (by omega) hc hv
  have H2 := longs_any b off n cap a w hn (by omega) hc hb hs
  have H3 := fun g c w' hc' => contains0_any g 0 (n - 1) c 0 (fun k => longW (subP (a (k + 1)) (a k))) w' (by omega) hc' (fun k hk => by
    obtain ⟨l, h1, h2⟩ := hl k (by omega)
    have := eql_is s_zero h1
    rw [show FloatKind.f32.format = Ieee.single from rfl, this]
    simp; grind)
  have n0 : (2 : Int) ≤ (n : Int) := by omega
  have n1 : (n : Int) ≤ 48 := by omega
  clear hc hv hs hl
  go_enter Try.func14, Try.ntmps14
  go_wp2_with (first
    | (go_at_call 25; refine H1.mono ?_; rintro e w' ⟨rfl, rfl⟩)
    | (go_at_call 32; refine H2.mono ?_; rintro e w2 ⟨g, c, rfl, hb2, hc2⟩)
    | (go_at_call 31; refine (H3 _ _ _ hc2).mono ?_; rintro e w' ⟨rfl, rfl⟩))
  go_ret
  exact ⟨rfl, hb2⟩
end Go.Proofs.Ytojbgeimlipajaa
