/- Walks: products of three and four, the way of a plan, PlanTime. -/
import Derived.Test.YtpkcbofeoklpbaaW2
import Derived.Test.YtpkcbofeoklpbaaJerk
namespace Go.Proofs.Ytpkcbofeoklpbaa
open Go.RowKit Fl

theorem product_3 (x0 x1 x2 : Nat) (m1 : floatBits .mul .f32 x0 x1 = some (fmul x0 x1)) (m2 : floatBits .mul .f32 (fmul x0 x1) x2 = some (fmul (fmul x0 x1) x2)) (w : World) (m : Nat) (hm : m = w.heap.size) :
    Calls Try.prog 19 #[.slice (some ⟨m, 0, none⟩) 3 3] (w.alloc (.cells #[.float .f32 x0, .float .f32 x1, .float .f32 x2] 26)) fun e w' => e = .returned (.float .f32 (fmul (fmul x0 x1) x2)) ∧ (w.alloc (.cells #[.float .f32 x0, .float .f32 x1, .float .f32 x2] 26)) = w' :=
  product_any m 0 3 3 (fun k => [x0, x1, x2].getD k 0) (fun k => [x0, fmul x0 x1, fmul (fmul x0 x1) x2].getD k 0) _ (by omega) (by omega) (by omega) rfl
    (fun k hk => match k, hk with
    | 0, _ => by simp [World.cell?_alloc_at, hm]
    | 1, _ => by simp [World.cell?_alloc_at, hm]
    | 2, _ => by simp [World.cell?_alloc_at, hm])
    (fun k hk => match k, hk with
    | 0, _ => m1
    | 1, _ => m2)

theorem product_4 (x0 x1 x2 x3 : Nat) (m1 : floatBits .mul .f32 x0 x1 = some (fmul x0 x1)) (m2 : floatBits .mul .f32 (fmul x0 x1) x2 = some (fmul (fmul x0 x1) x2)) (m3 : floatBits .mul .f32 (fmul (fmul x0 x1) x2) x3 = some (fmul (fmul (fmul x0 x1) x2) x3)) (w : World) (m : Nat) (hm : m = w.heap.size) :
    Calls Try.prog 19 #[.slice (some ⟨m, 0, none⟩) 4 4] (w.alloc (.cells #[.float .f32 x0, .float .f32 x1, .float .f32 x2, .float .f32 x3] 26)) fun e w' => e = .returned (.float .f32 (fmul (fmul (fmul x0 x1) x2) x3)) ∧ (w.alloc (.cells #[.float .f32 x0, .float .f32 x1, .float .f32 x2, .float .f32 x3] 26)) = w' :=
  product_any m 0 4 4 (fun k => [x0, x1, x2, x3].getD k 0) (fun k => [x0, fmul x0 x1, fmul (fmul x0 x1) x2, fmul (fmul (fmul x0 x1) x2) x3].getD k 0) _ (by omega) (by omega) (by omega) rfl
    (fun k hk => match k, hk with
    | 0, _ => by simp [World.cell?_alloc_at, hm]
    | 1, _ => by simp [World.cell?_alloc_at, hm]
    | 2, _ => by simp [World.cell?_alloc_at, hm]
    | 3, _ => by simp [World.cell?_alloc_at, hm])
    (fun k hk => match k, hk with
    | 0, _ => m1
    | 1, _ => m2
    | 2, _ => m3)

abbrev wTwo : Nat := 1073741824
abbrev wFour : Nat := 1082130432
-- JerkPlan$1 (18)
theorem way_any (j r h bj : Nat) (o : WayOk j r h) (w : World) (hc : w.cell? ⟨bj, 0, none⟩ = some (.float .f32 j)) :
    Calls Try.prog 18 #[.float .f32 r, .float .f32 h, .pointer (some ⟨bj, 0, none⟩)] w fun e w' => e = .returned (.float .f32 (wayW j r h)) ∧ Below w.heap.size w w' := by
  have b1 := rop o.a1
  have b2 := rop o.a2
  have b3 := rop o.a3
  have H := product_4 j r (fadd r h) (fadd (fmul wTwo r) h) o.m1 o.m2 o.m3
  clear o
  go_enter Try.func18, Try.ntmps18
  go_wp2_with (go_at_call 19; refine (H _ _ (by simp)).mono ?_; rintro e w' ⟨rfl, rfl⟩)
  go_ret
  exact ⟨rfl, (Below.refl _ _).alloc (Nat.le_refl _) _⟩

/-- how long a plan takes, in words -/
def timeW (r h c : Nat) : Nat := fadd (fadd (fmul wFour r) (fmul wTwo h)) c
structure TimeOk (r h c : Nat) : Prop where
  m1 : floatBits .mul .f32 wFour r = some (fmul wFour r)
  m2 : floatBits .mul .f32 wTwo h = some (fmul wTwo h)
  a1 : floatBits .add .f32 (fmul wFour r) (fmul wTwo h) = some (fadd (fmul wFour r) (fmul wTwo h))
  a2 : floatBits .add .f32 (fadd (fmul wFour r) (fmul wTwo h)) c = some (timeW r h c)
  fin : ∃ v, S (timeW r h c) v

-- PlanTime (9)
theorem planTime_any (j r h c : Nat) (J R H C : Rat) (hj : S j J) (hr : S r R) (hh : S h H) (hc : S c C) (j0 : 0 < J) (r0 : 0 ≤ R) (h0 : 0 ≤ H) (c0 : 0 ≤ C) (o : TimeOk r h c) (w : World) :
    Calls Try.prog 9 #[.agg #[.float .f32 j, .float .f32 r, .float .f32 h, .float .f32 c]] w fun e w' => e = .returned (.tuple #[.float .f32 (timeW r h c), .bool true]) ∧ Below w.heap.size w w' := by
  have b1 := rop o.m1
  have b2 := rop o.m2
  have b3 := rop o.a1
  have b4 := rop o.a2
  obtain ⟨v, hv⟩ := o.fin
  have HP := isPlan_any j r h c J R H C hj hr hh hc j0 r0 h0 c0
  clear o
  go_enter Try.func9, Try.ntmps9
  go_wp2_with (first | (go_at_call 20; refine (HP _).mono ?_; rintro e w1 ⟨rfl, hb1⟩; obtain ⟨hcl, hfl⟩ := bcell hb1) | (go_at_call 21; refine (ifNumber_any _ _ hv _).mono ?_; rintro e w' ⟨rfl, rfl⟩))
  go_ret2
  exact ⟨rfl, ((Below.refl _ _).alloc (Nat.le_refl _) _).trans (hb1.mono (by simp))⟩
end Go.Proofs.Ytpkcbofeoklpbaa
