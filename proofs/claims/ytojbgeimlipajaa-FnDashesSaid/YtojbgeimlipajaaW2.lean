/- Walks of the small functions on points. -/
import Derived.Laws.ComplexArith
import Derived.Test.YtojbgeimlipajaaW1
import Derived.Test.YtojbgeimlipajaaD4
namespace Go.Proofs.Ytojbgeimlipajaa
open Go.RowKit Fl

def cx (p : Pt) : Value := .complex .f32 p.1 p.2

/-- math.sqrt, by the model -/
theorem sqrt_run (x r : Nat) (h : Ieee.double.sqrt x = some r) : ∀ w, (callFunc 41 #[.float .f64 x]).run Try.prog w = .ok (.value (.float .f64 r)) w := by
  intro w
  rw [run_callFunc_extern Try.func41 (by kernel_rfl) (by kernel_rfl) (by kernel_rfl) (e := Extern.MathSqrt.sqrt) (by kernel_rfl)]
  have h' : FloatKind.f64.format.sqrt x = some r := h
  have e : Extern.MathSqrt.sqrt #[.float .f64 x] = pure (.float .f64 r) := by
    show (match FloatKind.f64.format.sqrt x with
      | some r => (pure (.float .f64 r) : Sem Value)
      | none => do pure (.float .f64 (← choose (.nanBits .f64 x x)))) = _
    rw [h']
  rw [e]; rfl
theorem cup {a r : Nat} (h : floatToFloatBits .f32 a .f64 = some r) : ∀ w, (convert 28 27 (.float .f32 a)).run Try.prog w = .ok (.float .f64 r) w :=
  fun w => run_convert_float_float w 28 27 .f32 .f64 a r (by kernel_rfl) (by kernel_rfl) h
theorem cdown {a r : Nat} (h : floatToFloatBits .f64 a .f32 = some r) : ∀ w, (convert 27 28 (.float .f64 a)).run Try.prog w = .ok (.float .f32 r) w :=
  fun w => run_convert_float_float w 27 28 .f64 .f32 a r (by kernel_rfl) (by kernel_rfl) h

-- math.Sqrt (29)
theorem sqrt_any (x r : Nat) (h : Ieee.double.sqrt x = some r) (w : World) :
    Calls Try.prog 29 #[.float .f64 x] w fun e w' => e = .returned (.float .f64 r) ∧ w = w' := by
  have hs := sqrt_run x r h
  clear h
  go_enter Try.func29, Try.ntmps29
  go_wp2
  go_ret
  exact ⟨rfl, rfl⟩

-- minus (20)
theorem minus_any (a b : Pt) (h1 : floatBits .sub .f32 a.1 b.1 = some (fsub a.1 b.1)) (h2 : floatBits .sub .f32 a.2 b.2 = some (fsub a.2 b.2)) (w : World) :
    Calls Try.prog 20 #[cx a, cx b] w fun e w' => e = .returned (cx (subP a b)) ∧ w = w' := by
  have r1 := rop h1
  have r2 := rop h2
  unfold cx subP
  clear h1 h2
  go_enter Try.func20, Try.ntmps20
  go_wp2
  go_ret
  exact ⟨rfl, rfl⟩
-- plus (21)
theorem plus_any (a b : Pt) (h1 : floatBits .add .f32 a.1 b.1 = some (fadd a.1 b.1)) (h2 : floatBits .add .f32 a.2 b.2 = some (fadd a.2 b.2)) (w : World) :
    Calls Try.prog 21 #[cx a, cx b] w fun e w' => e = .returned (cx (fadd a.1 b.1, fadd a.2 b.2)) ∧ w = w' := by
  have r1 := rop h1
  have r2 := rop h2
  unfold cx
  clear h1 h2
  go_enter Try.func21, Try.ntmps21
  go_wp2
  go_ret
  exact ⟨rfl, rfl⟩
-- ScaleComplex (22)
theorem scale_any (a : Pt) (t : Nat) (h1 : floatBits .mul .f32 a.1 t = some (fmul a.1 t)) (h2 : floatBits .mul .f32 a.2 t = some (fmul a.2 t)) (w : World) :
    Calls Try.prog 22 #[cx a, .float .f32 t] w fun e w' => e = .returned (cx (fmul a.1 t, fmul a.2 t)) ∧ w = w' := by
  have r1 := rop h1
  have r2 := rop h2
  unfold cx
  clear h1 h2
  go_enter Try.func22, Try.ntmps22
  go_wp2
  go_ret
  exact ⟨rfl, rfl⟩
-- parts (44)
theorem parts_any (a : Pt) (h1 : floatToFloatBits .f32 a.1 .f64 = some (up a.1)) (h2 : floatToFloatBits .f32 a.2 .f64 = some (up a.2)) (w : World) :
    Calls Try.prog 44 #[cx a] w fun e w' => e = .returned (.tuple #[.float .f64 (up a.1), .float .f64 (up a.2)]) ∧ w = w' := by
  have r1 := cup h1
  have r2 := cup h2
  unfold cx
  clear h1 h2
  go_enter Try.func44, Try.ntmps44
  go_wp2
  go_ret2
  exact ⟨rfl, rfl⟩
-- power (35)
theorem power_any (a : Pt) (h : LongOk a) (w : World) : Calls Try.prog 35 #[cx a] w fun e w' => e = .returned (.float .f64 (powW a)) ∧ w = w' := by
  have H := parts_any a h.u1 h.u2
  have r1 := rop h.m1
  have r2 := rop h.m2
  have r3 := rop h.a
  clear h
  go_enter Try.func35, Try.ntmps35
  go_wp2_with (go_at_call 44; refine (H _).mono ?_; rintro e w' ⟨rfl, rfl⟩)
  go_ret
  exact ⟨rfl, rfl⟩
-- LongOf (19)
theorem longOf_any (a : Pt) (h : LongOk a) (w : World) : Calls Try.prog 19 #[cx a] w fun e w' => e = .returned (.float .f32 (longW a)) ∧ w = w' := by
  have H := power_any a h
  have H2 := sqrt_any _ _ h.r
  have r3 := cdown h.dn
  clear h
  go_enter Try.func19, Try.ntmps19
  go_wp2_with (first | (go_at_call 35; refine (H _).mono ?_; rintro e w' ⟨rfl, rfl⟩) | (go_at_call 29; refine (H2 _).mono ?_; rintro e w' ⟨rfl, rfl⟩))
  go_ret
  exact ⟨rfl, rfl⟩
-- l01PowerWide (30)
theorem powerWide_any (a : Pt) (h : LongOk a) (w : World) : Calls Try.prog 30 #[cx a] w fun e w' => e = .returned (.float .f64 (powW a)) ∧ w = w' := by
  have c1 := cup h.u1
  have c2 := cup h.u2
  have r1 := rop h.m1
  have r2 := rop h.m2
  have r3 := rop h.a
  unfold cx
  clear h
  go_enter Try.func30, Try.ntmps30
  go_wp2
  go_ret
  exact ⟨rfl, rfl⟩
-- l01Narrow (28)
theorem narrow_any (a r : Nat) (h : floatToFloatBits .f64 a .f32 = some r) (w : World) : Calls Try.prog 28 #[.float .f64 a] w fun e w' => e = .returned (.float .f32 r) ∧ w = w' := by
  have c := cdown h
  clear h
  go_enter Try.func28, Try.ntmps28
  go_wp2
  go_ret
  exact ⟨rfl, rfl⟩
-- l01Long (13)
theorem l01Long_any (a : Pt) (h : LongOk a) (w : World) : Calls Try.prog 13 #[cx a] w fun e w' => e = .returned (.float .f32 (longW a)) ∧ w = w' := by
  have H := powerWide_any a h
  have H2 := sqrt_any _ _ h.r
  have H3 := narrow_any _ _ h.dn
  clear h
  go_enter Try.func13, Try.ntmps13
  go_wp2_with (first | (go_at_call 30; refine (H _).mono ?_; rintro e w' ⟨rfl, rfl⟩) | (go_at_call 29; refine (H2 _).mono ?_; rintro e w' ⟨rfl, rfl⟩) | (go_at_call 28; refine (H3 _).mono ?_; rintro e w' ⟨rfl, rfl⟩))
  go_ret
  exact ⟨rfl, rfl⟩
-- spec.LongOf (7)
theorem specLong_any (a : Pt) (h : LongOk a) (w : World) : Calls Try.prog 7 #[cx a] w fun e w' => e = .returned (.float .f32 (longW a)) ∧ w = w' := by
  have H := l01Long_any a h
  clear h
  go_enter Try.func7, Try.ntmps7
  go_wp2_with (go_at_call 13; refine (H _).mono ?_; rintro e w' ⟨rfl, rfl⟩)
  go_ret
  exact ⟨rfl, rfl⟩
end Go.Proofs.Ytojbgeimlipajaa
