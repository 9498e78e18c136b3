/- Walks: the root, products, plans' tests, PlanTime. -/
import Derived.Test.YtpkcbofeoklpbaaW1
namespace Go.Proofs.Ytpkcbofeoklpbaa
open Go.RowKit Fl

/-- math.sqrt, by the model -/
theorem sqrt_run (x r : Nat) (h : Ieee.double.sqrt x = some r) : ∀ w, (callFunc 31 #[.float .f64 x]).run Try.prog w = .ok (.value (.float .f64 r)) w := by
  intro w
  rw [run_callFunc_extern Try.func31 (by kernel_rfl) (by kernel_rfl) (by kernel_rfl) (e := Extern.MathSqrt.sqrt) (by kernel_rfl)]
  have h' : FloatKind.f64.format.sqrt x = some r := h
  have e : Extern.MathSqrt.sqrt #[.float .f64 x] = pure (.float .f64 r) := by
    show (match FloatKind.f64.format.sqrt x with
      | some r => (pure (.float .f64 r) : Sem Value)
      | none => do pure (.float .f64 (← choose (.nanBits .f64 x x)))) = _
    rw [h']
  rw [e]; rfl

theorem u29 : (Try.prog.underlying 29).isSome = true := by kernel_rfl
theorem u26 : (Try.prog.underlying 26).isSome = true := by kernel_rfl

theorem cup {a r : Nat} (h : floatToFloatBits .f32 a .f64 = some r) : ∀ w, (convert 26 29 (.float .f32 a)).run Try.prog w = .ok (.float .f64 r) w :=
  fun w => run_convert_float_float w 26 29 .f32 .f64 a r u26 (by kernel_rfl) h
theorem cdown {a r : Nat} (h : floatToFloatBits .f64 a .f32 = some r) : ∀ w, (convert 29 26 (.float .f64 a)).run Try.prog w = .ok (.float .f32 r) w :=
  fun w => run_convert_float_float w 29 26 .f64 .f32 a r u29 (by kernel_rfl) h

-- math.Sqrt (25)
theorem sqrt_any (x r : Nat) (h : Ieee.double.sqrt x = some r) (w : World) :
    Calls Try.prog 25 #[.float .f64 x] w fun e w' => e = .returned (.float .f64 r) ∧ w = w' := by
  have hs := sqrt_run x r h
  clear h
  go_enter Try.func25, Try.ntmps25
  go_wp2
  go_ret
  exact ⟨rfl, rfl⟩

-- RootNumber (14)
theorem root_any (x : Nat) (v : Rat) (hx : S x v) (h0 : 0 ≤ v) (h1 : v ≤ 1000000) (w : World) :
    Calls Try.prog 14 #[.float .f32 x] w fun e w' => e = .returned (.float .f32 (froot x)) ∧ w = w' := by
  obtain ⟨a1, a2, a3, _⟩ := froot_ok hx h0 h1
  have c1 := cup a1
  have c2 := cdown a3
  have H := sqrt_any _ _ a2
  clear a1 a2 a3 hx h0 h1
  go_enter Try.func14, Try.ntmps14
  go_wp2_with (go_at_call 25; refine (H _).mono ?_; rintro e w' ⟨rfl, rfl⟩)
  go_ret
  exact ⟨rfl, rfl⟩

-- productOf (19)
theorem product_any (b off n cap : Nat) (a acc : Nat → Nat) (w : World) (hn : 2 ≤ n) (hcap : n ≤ cap) (hm : n ≤ 1000) (h0 : acc 0 = a 0)
    (hc : ∀ k, k < n → w.cell? ⟨b, off + k, none⟩ = some (.float .f32 (a k)))
    (hop : ∀ k, k + 1 < n → floatBits .mul .f32 (acc k) (a (k+1)) = some (acc (k+1))) :
    Calls Try.prog 19 #[.slice (some ⟨b, off, none⟩) n cap] w fun e w' => e = .returned (.float .f32 (acc (n-1))) ∧ w = w' := by
  have hc0 : w.cell? ⟨b, off, none⟩ = some (.float .f32 (acc 0)) := by have := hc 0 (by omega); rw [h0]; exact this
  clear h0
  have hn0 : (0 : Int) < (n : Int) := by omega
  have hn1 : (1 : Int) ≤ (n : Int) := by omega
  have hcap1 : ¬ cap = 1 := by omega
  go_enter Try.func19, Try.ntmps19
  go_wp2
  go_loop [3, 12] (fun s i => ∃ k : Nat, k ≤ n - 1 ∧ i = .int .i64 k ∧ s = .float .f32 (acc k)) (fun _ i => n - 1 - (intOf i).toNat)
  case atStart => exact ⟨0, Nat.zero_le _, rfl, rfl⟩
  case round =>
    obtain ⟨k, hk, rfl, rfl⟩ := hrel
    by_cases hlt : k < n - 1
    · have hck : w.cell? ⟨b, off + 1 + k, none⟩ = some (.float .f32 (a (k + 1))) := by
        have := hc (k + 1) (by omega)
        rw [show off + (k + 1) = off + 1 + k by omega] at this; exact this
      have hop1 := rop (hop k (by omega))
      clear hc hop
      go_wp2
      go_round
      case rel => exact ⟨k + 1, by omega, by go_num, rfl⟩
      case measure => simp [intOf]; omega
    · have : k = n - 1 := by omega
      subst this
      clear hc hop
      go_wp2
      go_ret
      exact ⟨rfl, rfl⟩

-- ifNumber (21)
theorem ifNumber_any (x : Nat) (v : Rat) (hx : S x v) (w : World) :
    Calls Try.prog 21 #[.float .f32 x] w fun e w' => e = .returned (.tuple #[.float .f32 x, .bool true]) ∧ w = w' := by
  go_enter Try.func21, Try.ntmps21
  go_wp2_with (go_at_call 17; refine (isFinite_any _ _ hx _).mono ?_; rintro e w' ⟨rfl, rfl⟩)
  go_ret2
  exact ⟨rfl, rfl⟩

theorem cge_t {a b : Nat} {x y : Rat} (ha : S a x) (hb : S b y) (h : y ≤ x) : (FloatKind.f32.format.order a b == some .gt || FloatKind.f32.format.order a b == some .eq) = true := by
  have := geq_is ha hb
  rw [show FloatKind.f32.format = Ieee.single from rfl, this]; simp [h]
theorem cle_t {a b : Nat} {x y : Rat} (ha : S a x) (hb : S b y) (h : x ≤ y) : (FloatKind.f32.format.order a b == some .lt || FloatKind.f32.format.order a b == some .eq) = true := by
  have := leq_is ha hb
  rw [show FloatKind.f32.format = Ieee.single from rfl, this]; simp [h]
theorem cle_f {a b : Nat} {x y : Rat} (ha : S a x) (hb : S b y) (h : ¬ x ≤ y) : (FloatKind.f32.format.order a b == some .lt || FloatKind.f32.format.order a b == some .eq) = false := by
  have := leq_is ha hb
  rw [show FloatKind.f32.format = Ieee.single from rfl, this]; simp [h]

theorem areMore_1 (x0 : Nat) (h0 : ∃ v, S x0 v ∧ 0 < v) (w : World) (m : Nat) (hm : m = w.heap.size) :
    Calls Try.prog 11 #[.slice (some ⟨m, 0, none⟩) 1 1] (w.alloc (.cells #[.float .f32 x0] 26)) fun e w' => e = .returned (.bool true) ∧ (w.alloc (.cells #[.float .f32 x0] 26)) = w' :=
  areMore_any m 0 1 1 (fun k => [x0].getD k 0) _ (by omega)
    (fun k hk => match k, hk with
    | 0, _ => by simp [World.cell?_alloc_at, hm]
    )
    (fun k hk => match k, hk with
    | 0, _ => h0
    )

theorem areMore_2 (x0 x1 : Nat) (h0 : ∃ v, S x0 v ∧ 0 < v) (h1 : ∃ v, S x1 v ∧ 0 < v) (w : World) (m : Nat) (hm : m = w.heap.size) :
    Calls Try.prog 11 #[.slice (some ⟨m, 0, none⟩) 2 2] (w.alloc (.cells #[.float .f32 x0, .float .f32 x1] 26)) fun e w' => e = .returned (.bool true) ∧ (w.alloc (.cells #[.float .f32 x0, .float .f32 x1] 26)) = w' :=
  areMore_any m 0 2 2 (fun k => [x0, x1].getD k 0) _ (by omega)
    (fun k hk => match k, hk with
    | 0, _ => by simp [World.cell?_alloc_at, hm]
    | 1, _ => by simp [World.cell?_alloc_at, hm]
    )
    (fun k hk => match k, hk with
    | 0, _ => h0
    | 1, _ => h1
    )

theorem areMore_4 (x0 x1 x2 x3 : Nat) (h0 : ∃ v, S x0 v ∧ 0 < v) (h1 : ∃ v, S x1 v ∧ 0 < v) (h2 : ∃ v, S x2 v ∧ 0 < v) (h3 : ∃ v, S x3 v ∧ 0 < v) (w : World) (m : Nat) (hm : m = w.heap.size) :
    Calls Try.prog 11 #[.slice (some ⟨m, 0, none⟩) 4 4] (w.alloc (.cells #[.float .f32 x0, .float .f32 x1, .float .f32 x2, .float .f32 x3] 26)) fun e w' => e = .returned (.bool true) ∧ (w.alloc (.cells #[.float .f32 x0, .float .f32 x1, .float .f32 x2, .float .f32 x3] 26)) = w' :=
  areMore_any m 0 4 4 (fun k => [x0, x1, x2, x3].getD k 0) _ (by omega)
    (fun k hk => match k, hk with
    | 0, _ => by simp [World.cell?_alloc_at, hm]
    | 1, _ => by simp [World.cell?_alloc_at, hm]
    | 2, _ => by simp [World.cell?_alloc_at, hm]
    | 3, _ => by simp [World.cell?_alloc_at, hm]
    )
    (fun k hk => match k, hk with
    | 0, _ => h0
    | 1, _ => h1
    | 2, _ => h2
    | 3, _ => h3
    )

theorem areFinite_3 (x0 x1 x2 : Nat) (h0 : ∃ v, S x0 v) (h1 : ∃ v, S x1 v) (h2 : ∃ v, S x2 v) (w : World) (m : Nat) (hm : m = w.heap.size) :
    Calls Try.prog 16 #[.slice (some ⟨m, 0, none⟩) 3 3] (w.alloc (.cells #[.float .f32 x0, .float .f32 x1, .float .f32 x2] 26)) fun e w' => e = .returned (.bool true) ∧ (w.alloc (.cells #[.float .f32 x0, .float .f32 x1, .float .f32 x2] 26)) = w' :=
  areFinite_any m 0 3 3 (fun k => [x0, x1, x2].getD k 0) _ (by omega)
    (fun k hk => match k, hk with
    | 0, _ => by simp [World.cell?_alloc_at, hm]
    | 1, _ => by simp [World.cell?_alloc_at, hm]
    | 2, _ => by simp [World.cell?_alloc_at, hm]
    )
    (fun k hk => match k, hk with
    | 0, _ => h0
    | 1, _ => h1
    | 2, _ => h2
    )

-- isPlan (20)
theorem isPlan_any (j r h c : Nat) (J R H C : Rat) (hj : S j J) (hr : S r R) (hh : S h H) (hc : S c C) (j0 : 0 < J) (r0 : 0 ≤ R) (h0 : 0 ≤ H) (c0 : 0 ≤ C) (w : World) :
    Calls Try.prog 20 #[.agg #[.float .f32 j, .float .f32 r, .float .f32 h, .float .f32 c]] w fun e w' => e = .returned (.bool true) ∧ Below w.heap.size w w' := by
  have g1 := cge_t hr s_zero r0
  have g2 := cge_t hh s_zero h0
  have g3 := cge_t hc s_zero c0
  have H1 := areMore_1 j ⟨_, hj, j0⟩
  have H3 := areFinite_3 r h c ⟨_, hr⟩ ⟨_, hh⟩ ⟨_, hc⟩
  go_enter Try.func20, Try.ntmps20
  go_wp2_with (first | (go_at_call 11; refine (H1 _ _ (by simp)).mono ?_; rintro e w' ⟨rfl, rfl⟩) | (go_at_call 16; refine (H3 _ _ (by simp)).mono ?_; rintro e w' ⟨rfl, rfl⟩))
  go_ret
  exact ⟨rfl, (((Below.refl _ _).alloc (Nat.le_refl _) _).alloc (by simp) _).alloc (by simp; omega) _⟩
end Go.Proofs.Ytpkcbofeoklpbaa
