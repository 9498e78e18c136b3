/- Walks of the small functions of the plans. -/
import Derived.Test.YtojbgeimlipajaaRows
import Derived.Test.YtojbgeimlipajaaWords
import Derived.WalkKit
import Derived.WalkSpells
import Derived.Lib.Hide
import Derived.WalkLawsBesides
import Derived.Deep.QuietTactic
import Derived.BigQuiet
namespace Go.Proofs.Ytojbgeimlipajaa
open Go.RowKit Fl

theorem bcell {W w1 : World} (hb : Below W.heap.size W w1) : (∀ b o, b < W.heap.size → w1.cell? ⟨b, o, none⟩ = W.cell? ⟨b, o, none⟩) ∧ (∀ b o, b < W.heap.size → w1.frozen? ⟨b, o, none⟩ = W.frozen? ⟨b, o, none⟩) :=
  ⟨fun b o h => hb.cell (p := ⟨b, o, none⟩) h, fun b o h => hb.frozen (p := ⟨b, o, none⟩) h⟩

theorem rop {op : BinOp} {k : FloatKind} {a b r : Nat} (h : floatBits op k a b = some r) : ∀ t w, (binOp op t (.float k a) (.float k b)).run Try.prog w = .ok (.float k r) w :=
  fun t w => run_float_arith w op t k a b r h

theorem ret_f {k : FloatKind} {a b : Nat} (h : a = b) : Ending.returned (.float k a) = .returned (.float k b) := by rw [h]

theorem isFinite_any (x : Nat) (v : Rat) (hx : S x v) (w : World) :
    Calls Try.prog 16 #[.float .f32 x] w fun e w' => e = .returned (.bool true) ∧ w = w' := by
  have e : v - v = 0 := by grind
  have g := fsub_ex hx hx (by rw [e]; decide +kernel) (by rw [e]; decide +kernel) (by rw [e]; exact rep_of_is s_zero)
  have h1 := rop g.ok
  have h2 : (FloatKind.f32.format.order (fsub x x) 0 == some .eq) = true := by
    have := eql_is g.is s_zero
    rw [this]; simp [e]
  clear g e hx
  go_enter Try.func16, Try.ntmps16
  go_wp2
  go_ret
  exact ⟨rfl, rfl⟩

/-! comparisons, in the walk's own form -/
theorem cgt_t {a b : Nat} {x y : Rat} (ha : S a x) (hb : S b y) (h : y < x) : (FloatKind.f32.format.order a b == some .gt) = true := by
  have := gtr_is ha hb
  rw [show FloatKind.f32.format = Ieee.single from rfl, this]; simp [h]
theorem cgt_f {a b : Nat} {x y : Rat} (ha : S a x) (hb : S b y) (h : ¬ y < x) : (FloatKind.f32.format.order a b == some .gt) = false := by
  have := gtr_is ha hb
  rw [show FloatKind.f32.format = Ieee.single from rfl, this]; simp [h]
theorem clt_t {a b : Nat} {x y : Rat} (ha : S a x) (hb : S b y) (h : x < y) : (FloatKind.f32.format.order a b == some .lt) = true := by
  have := lss_is ha hb
  rw [show FloatKind.f32.format = Ieee.single from rfl, this]; simp [h]
theorem clt_f {a b : Nat} {x y : Rat} (ha : S a x) (hb : S b y) (h : ¬ x < y) : (FloatKind.f32.format.order a b == some .lt) = false := by
  have := lss_is ha hb
  rw [show FloatKind.f32.format = Ieee.single from rfl, this]; simp [h]
theorem ceq_t {a b : Nat} {x y : Rat} (ha : S a x) (hb : S b y) (h : x = y) : (FloatKind.f32.format.order a b == some .eq) = true := by
  have := eql_is ha hb
  rw [show FloatKind.f32.format = Ieee.single from rfl, this]; simp [h]
theorem ceq_f {a b : Nat} {x y : Rat} (ha : S a x) (hb : S b y) (h : ¬ x = y) : (FloatKind.f32.format.order a b == some .eq) = false := by
  have := eql_is ha hb
  rw [show FloatKind.f32.format = Ieee.single from rfl, this]; simp [h]

-- areMore$1 (23): !IsFinite(x) || !(x > 0)
theorem more1_any (x : Nat) (v : Rat) (hx : S x v) (h0 : 0 < v) (w : World) :
    Calls Try.prog 34 #[.float .f32 x] w fun e w' => e = .returned (.bool false) ∧ w = w' := by
  have h2 : (FloatKind.f32.format.order x 0 == some .gt) = true := by
    have := gtr_is hx s_zero
    rw [show FloatKind.f32.format = Ieee.single from rfl, this]; simp [h0]
  go_enter Try.func34, Try.ntmps34
  go_wp2_with (go_at_call 16; refine (isFinite_any _ _ hx _).mono ?_; rintro e w' ⟨rfl, rfl⟩)
  go_ret
  exact ⟨rfl, rfl⟩

-- slices.IndexFunc (28) with a function that says no to all
theorem index23_any (b off n cap : Nat) (a : Nat → Nat) (w : World) (hm : n ≤ 1000)
    (hc : ∀ k, k < n → w.cell? ⟨b, off + k, none⟩ = some (.float .f32 (a k)))
    (hf : ∀ k, k < n → Calls Try.prog 34 #[.float .f32 (a k)] w fun e w' => e = .returned (.bool false) ∧ w = w') :
    Calls Try.prog 43 #[.slice (some ⟨b, off, none⟩) n cap, .func (.func 34) #[] #[]] w fun e w' => e = .returned (.int .i64 (-1)) ∧ w = w' := by
  go_enter Try.func43, Try.ntmps43
  go_wp2
  go_loop [8] (fun i => ∃ k : Nat, k ≤ n ∧ i = .int .i64 k) (fun i => n - (intOf i).toNat)
  case atStart => exact ⟨0, Nat.zero_le _, rfl⟩
  case round =>
    obtain ⟨k, hk, rfl⟩ := hrel
    by_cases hlt : k < n
    · have hck := hc k hlt
      have hfk := hf k hlt
      clear hc hf
      go_wp2_with (go_at_call 34; refine hfk.mono ?_; rintro e w' ⟨rfl, rfl⟩)
      go_round
      case rel => exact ⟨k + 1, by omega, by go_num⟩
      case measure => simp [intOf]; omega
    · clear hc hf
      go_wp2
      go_ret
      exact ⟨rfl, rfl⟩

-- slices.ContainsFunc (22)
theorem contains23_any (b off n cap : Nat) (a : Nat → Nat) (w : World) (hm : n ≤ 1000)
    (hc : ∀ k, k < n → w.cell? ⟨b, off + k, none⟩ = some (.float .f32 (a k)))
    (hf : ∀ k, k < n → Calls Try.prog 34 #[.float .f32 (a k)] w fun e w' => e = .returned (.bool false) ∧ w = w') :
    Calls Try.prog 33 #[.slice (some ⟨b, off, none⟩) n cap, .func (.func 34) #[] #[]] w fun e w' => e = .returned (.bool false) ∧ w = w' := by
  have H := index23_any b off n cap a w hm hc hf
  clear hc hf
  go_enter Try.func33, Try.ntmps33
  go_wp2_with (go_at_call 43; refine H.mono ?_; rintro e w' ⟨rfl, rfl⟩)
  go_ret
  exact ⟨rfl, rfl⟩

-- areMore (11)
theorem areMore_any (b off n cap : Nat) (a : Nat → Nat) (w : World) (hm : n ≤ 1000)
    (hc : ∀ k, k < n → w.cell? ⟨b, off + k, none⟩ = some (.float .f32 (a k))) (hv : ∀ k, k < n → ∃ v, S (a k) v ∧ 0 < v) :
    Calls Try.prog 15 #[.slice (some ⟨b, off, none⟩) n cap] w fun e w' => e = .returned (.bool true) ∧ w = w' := by
  have H := contains23_any b off n cap a w hm hc (fun k hk => by obtain ⟨v, h1, h2⟩ := hv k hk; exact more1_any _ v h1 h2 w)
  clear hc hv
  go_enter Try.func15, Try.ntmps15
  go_wp2_with (go_at_call 33; refine H.mono ?_; rintro e w' ⟨rfl, rfl⟩)
  go_ret
  exact ⟨rfl, rfl⟩

-- b10Gap (7)
theorem gap_any (a b d : Nat) (x y : Rat) (ha : D a x) (hb : D b y) (hd : if x < y then floatBits .sub .f64 b a = some d else floatBits .sub .f64 a b = some d) (w : World) :
    Calls Try.prog 10 #[.float .f64 a, .float .f64 b] w fun e w' => e = .returned (.float .f64 d) ∧ w = w' := by
  have hl := lss_is ha hb
  by_cases hxy : x < y
  · have h1 : (FloatKind.f64.format.order a b == some .lt) = true := by rw [show FloatKind.f64.format = Ieee.double from rfl, hl]; simp [hxy]
    rw [if_pos hxy] at hd
    have h2 := rop hd
    clear hl hxy hd
    go_enter Try.func10, Try.ntmps10
    go_wp2
    go_ret
    exact ⟨rfl, rfl⟩
  · have h1 : (FloatKind.f64.format.order a b == some .lt) = false := by rw [show FloatKind.f64.format = Ieee.double from rfl, hl]; simp [hxy]
    rw [if_neg hxy] at hd
    have h2 := rop hd
    clear hl hxy hd
    go_enter Try.func10, Try.ntmps10
    go_wp2
    go_ret
    exact ⟨rfl, rfl⟩
end Go.Proofs.Ytojbgeimlipajaa
