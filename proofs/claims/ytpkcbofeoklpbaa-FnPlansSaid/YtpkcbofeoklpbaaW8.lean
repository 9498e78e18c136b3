/- Walk: the closure of SpeedPlan. -/
import Derived.Test.YtpkcbofeoklpbaaW7
import Derived.Test.YtpkcbofeoklpbaaSpeed
namespace Go.Proofs.Ytpkcbofeoklpbaa
open Go.RowKit Fl

-- SpeedPlan$1 (13)
theorem reach_any (i c V long rise Bv Br g : Nat) (ok : ReachOk V rise long) (w : World) (hi : i < c) (hc8 : c ≤ 8)
    (h1 : w.cell? ⟨Bv, 0, none⟩ = some (.slice (some ⟨g, 0, none⟩) c c)) (h2 : w.cell? ⟨Br, 0, none⟩ = some (.float .f32 rise)) (h3 : w.cell? ⟨g, i, none⟩ = some (.float .f32 V)) :
    Calls Try.prog 13 #[.int .i64 i, .float .f32 long, .pointer (some ⟨Bv, 0, none⟩), .pointer (some ⟨Br, 0, none⟩)] w fun e w' => e = .returned (.float .f32 (reachW V rise long)) ∧ ∃ q, w' = w.drewN q := by
  have r1 := rop ok.m1
  have r2 := rop ok.m2
  have r3 := rop ok.m3
  have r4 := rop ok.a
  obtain ⟨s, hs, s0, s1⟩ := ok.s
  have HR := root_any _ s hs s0 s1
  have i0 : (0 : Int) ≤ (i : Int) := by omega
  have i1 : (i : Int) < (c : Int) := by omega
  clear ok hs s0 s1
  go_enter Try.func13, Try.ntmps13
  go_wp2
  go_quiet ((go_at_call 14; exact Calls.quiet_of_same ((HR _).mono (fun e w' h => ⟨h.1, h.2.symm⟩))))
  go_wp2
  go_ret
  exact ⟨rfl, _, rfl⟩
end Go.Proofs.Ytpkcbofeoklpbaa
