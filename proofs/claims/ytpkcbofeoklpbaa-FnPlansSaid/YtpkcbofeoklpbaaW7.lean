/- Walk: slices.Repeat of one number, three to eight times. -/
import Derived.Test.YtpkcbofeoklpbaaW2
namespace Go.Proofs.Ytpkcbofeoklpbaa
open Go.RowKit Fl

theorem mul64_3 (w : World) : Calls Try.prog 30 #[.int .u64 1, .int .u64 3] w fun e w' => e = .returned (.tuple #[.int .u64 0, .int .u64 3]) ∧ w = w' := by
  go_enter Try.func30, Try.ntmps30
  go_wp2
  go_ret2
  exact ⟨rfl, rfl⟩
theorem mul_3 (w : World) : Calls Try.prog 24 #[.int .u64 1, .int .u64 3] w fun e w' => e = .returned (.tuple #[.int .u64 0, .int .u64 3]) ∧ w = w' := by
  go_enter Try.func24, Try.ntmps24
  go_wp2_with (go_at_call 30; refine (mul64_3 _).mono ?_; rintro e w' ⟨rfl, rfl⟩)
  go_ret2
  exact ⟨rfl, rfl⟩
theorem make_3 (w : World) : (Instr.makeSlice 24 (.int .i64 3) (.int .i64 3)).run Try.prog w = .ok (.slice (some ⟨w.heap.size, 0, none⟩) 3 3) (w.alloc (.cells #[.float .f32 0, .float .f32 0, .float .f32 0] 26)) := by kernel_rfl
theorem mul64_4 (w : World) : Calls Try.prog 30 #[.int .u64 1, .int .u64 4] w fun e w' => e = .returned (.tuple #[.int .u64 0, .int .u64 4]) ∧ w = w' := by
  go_enter Try.func30, Try.ntmps30
  go_wp2
  go_ret2
  exact ⟨rfl, rfl⟩
theorem mul_4 (w : World) : Calls Try.prog 24 #[.int .u64 1, .int .u64 4] w fun e w' => e = .returned (.tuple #[.int .u64 0, .int .u64 4]) ∧ w = w' := by
  go_enter Try.func24, Try.ntmps24
  go_wp2_with (go_at_call 30; refine (mul64_4 _).mono ?_; rintro e w' ⟨rfl, rfl⟩)
  go_ret2
  exact ⟨rfl, rfl⟩
theorem make_4 (w : World) : (Instr.makeSlice 24 (.int .i64 4) (.int .i64 4)).run Try.prog w = .ok (.slice (some ⟨w.heap.size, 0, none⟩) 4 4) (w.alloc (.cells #[.float .f32 0, .float .f32 0, .float .f32 0, .float .f32 0] 26)) := by kernel_rfl
theorem mul64_5 (w : World) : Calls Try.prog 30 #[.int .u64 1, .int .u64 5] w fun e w' => e = .returned (.tuple #[.int .u64 0, .int .u64 5]) ∧ w = w' := by
  go_enter Try.func30, Try.ntmps30
  go_wp2
  go_ret2
  exact ⟨rfl, rfl⟩
theorem mul_5 (w : World) : Calls Try.prog 24 #[.int .u64 1, .int .u64 5] w fun e w' => e = .returned (.tuple #[.int .u64 0, .int .u64 5]) ∧ w = w' := by
  go_enter Try.func24, Try.ntmps24
  go_wp2_with (go_at_call 30; refine (mul64_5 _).mono ?_; rintro e w' ⟨rfl, rfl⟩)
  go_ret2
  exact ⟨rfl, rfl⟩
theorem make_5 (w : World) : (Instr.makeSlice 24 (.int .i64 5) (.int .i64 5)).run Try.prog w = .ok (.slice (some ⟨w.heap.size, 0, none⟩) 5 5) (w.alloc (.cells #[.float .f32 0, .float .f32 0, .float .f32 0, .float .f32 0, .float .f32 0] 26)) := by kernel_rfl
theorem mul64_6 (w : World) : Calls Try.prog 30 #[.int .u64 1, .int .u64 6] w fun e w' => e = .returned (.tuple #[.int .u64 0, .int .u64 6]) ∧ w = w' := by
  go_enter Try.func30, Try.ntmps30
  go_wp2
  go_ret2
  exact ⟨rfl, rfl⟩
theorem mul_6 (w : World) : Calls Try.prog 24 #[.int .u64 1, .int .u64 6] w fun e w' => e = .returned (.tuple #[.int .u64 0, .int .u64 6]) ∧ w = w' := by
  go_enter Try.func24, Try.ntmps24
  go_wp2_with (go_at_call 30; refine (mul64_6 _).mono ?_; rintro e w' ⟨rfl, rfl⟩)
  go_ret2
  exact ⟨rfl, rfl⟩
theorem make_6 (w : World) : (Instr.makeSlice 24 (.int .i64 6) (.int .i64 6)).run Try.prog w = .ok (.slice (some ⟨w.heap.size, 0, none⟩) 6 6) (w.alloc (.cells #[.float .f32 0, .float .f32 0, .float .f32 0, .float .f32 0, .float .f32 0, .float .f32 0] 26)) := by kernel_rfl
theorem mul64_7 (w : World) : Calls Try.prog 30 #[.int .u64 1, .int .u64 7] w fun e w' => e = .returned (.tuple #[.int .u64 0, .int .u64 7]) ∧ w = w' := by
  go_enter Try.func30, Try.ntmps30
  go_wp2
  go_ret2
  exact ⟨rfl, rfl⟩
theorem mul_7 (w : World) : Calls Try.prog 24 #[.int .u64 1, .int .u64 7] w fun e w' => e = .returned (.tuple #[.int .u64 0, .int .u64 7]) ∧ w = w' := by
  go_enter Try.func24, Try.ntmps24
  go_wp2_with (go_at_call 30; refine (mul64_7 _).mono ?_; rintro e w' ⟨rfl, rfl⟩)
  go_ret2
  exact ⟨rfl, rfl⟩
theorem make_7 (w : World) : (Instr.makeSlice 24 (.int .i64 7) (.int .i64 7)).run Try.prog w = .ok (.slice (some ⟨w.heap.size, 0, none⟩) 7 7) (w.alloc (.cells #[.float .f32 0, .float .f32 0, .float .f32 0, .float .f32 0, .float .f32 0, .float .f32 0, .float .f32 0] 26)) := by kernel_rfl
theorem mul64_8 (w : World) : Calls Try.prog 30 #[.int .u64 1, .int .u64 8] w fun e w' => e = .returned (.tuple #[.int .u64 0, .int .u64 8]) ∧ w = w' := by
  go_enter Try.func30, Try.ntmps30
  go_wp2
  go_ret2
  exact ⟨rfl, rfl⟩
theorem mul_8 (w : World) : Calls Try.prog 24 #[.int .u64 1, .int .u64 8] w fun e w' => e = .returned (.tuple #[.int .u64 0, .int .u64 8]) ∧ w = w' := by
  go_enter Try.func24, Try.ntmps24
  go_wp2_with (go_at_call 30; refine (mul64_8 _).mono ?_; rintro e w' ⟨rfl, rfl⟩)
  go_ret2
  exact ⟨rfl, rfl⟩
theorem make_8 (w : World) : (Instr.makeSlice 24 (.int .i64 8) (.int .i64 8)).run Try.prog w = .ok (.slice (some ⟨w.heap.size, 0, none⟩) 8 8) (w.alloc (.cells #[.float .f32 0, .float .f32 0, .float .f32 0, .float .f32 0, .float .f32 0, .float .f32 0, .float .f32 0, .float .f32 0] 26)) := by kernel_rfl

/-- k times the number x, and nothing behind -/
def fill (x c k : Nat) : Array Value := (List.replicate k (Value.float .f32 x) ++ List.replicate (c - k) (Value.float .f32 0)).toArray

theorem mul_all (c : Nat) (h : 3 ≤ c ∧ c ≤ 8) (w : World) : Calls Try.prog 24 #[.int .u64 1, .int .u64 c] w fun e w' => e = .returned (.tuple #[.int .u64 0, .int .u64 c]) ∧ w = w' := by
  have : c = 3 ∨ c = 4 ∨ c = 5 ∨ c = 6 ∨ c = 7 ∨ c = 8 := by omega
  rcases this with rfl | rfl | rfl | rfl | rfl | rfl
  · exact mul_3 w
  · exact mul_4 w
  · exact mul_5 w
  · exact mul_6 w
  · exact mul_7 w
  · exact mul_8 w
theorem make_all (x c : Nat) (h : 3 ≤ c ∧ c ≤ 8) (w : World) : (Instr.makeSlice 24 (.int .i64 c) (.int .i64 c)).run Try.prog w = .ok (.slice (some ⟨w.heap.size, 0, none⟩) c c) (w.alloc (.cells (fill x c 0) 26)) := by
  have : c = 3 ∨ c = 4 ∨ c = 5 ∨ c = 6 ∨ c = 7 ∨ c = 8 := by omega
  rcases this with rfl | rfl | rfl | rfl | rfl | rfl
  · exact make_3 w
  · exact make_4 w
  · exact make_5 w
  · exact make_6 w
  · exact make_7 w
  · exact make_8 w

theorem setRow_new (w : World) (cur arr : Array Value) (t : TypeId) : (w.alloc (.cells cur t)).setRow w.heap.size arr = w.alloc (.cells arr t) := by
  unfold World.setRow World.alloc
  congr 1
  apply Array.ext
  · simp
  · intro k h1 h2
    simp only [Array.getElem_modify, Array.getElem_push]
    split
    · rename_i hk; subst hk; simp
    · rename_i hk
      have hlt : k < w.heap.size := by simp at h2; omega
      simp [hlt]

theorem fill_size (x c k : Nat) (h : k ≤ c) : (fill x c k).size = c := by simp [fill]; omega
theorem fill_get (x c k i : Nat) (h : i < k) : (fill x c k)[i]? = some (.float .f32 x) := by
  simp only [fill, List.getElem?_toArray]
  rw [List.getElem?_append_left (by simpa using h), List.getElem?_replicate]
  simp [h]

/-- a part of the row is copied onto the next part -/
theorem copy_on (W : World) (x c k n : Nat) (a : Addr) (sLen sCap : Nat) (hk : k + n ≤ c) (hn : n = Nat.min sLen (c - k))
    (hsrc : ∀ j, j < n → (W.alloc (.cells (fill x c k) 26)).cell? (a.add j) = some (.float .f32 x)) (g : Nat) (hg : g = W.heap.size) (dCap q : Nat) :
    (Builtin.copy_ #[24, 24] 3 #[.slice (some ⟨g, k, none⟩) (c - k) dCap, .slice (some a) sLen sCap]).run Try.prog ((W.alloc (.cells (fill x c k) 26)).drewN q) = .ok (.int .i64 n) ((W.alloc (.cells (fill x c (k + n)) 26)).drewN q) := by
  subst hg
  have h := run_copy_row (P := Try.prog) ((W.alloc (.cells (fill x c k) 26)).drewN q) 24 24 3 26 W.heap.size k (c - k) dCap a sLen sCap (fill x c k) 26 (List.replicate n (Value.float .f32 x))
    Try.underlying24 (by kernel_rfl) (by show (W.heap.push _)[W.heap.size]? = _; simp) (by simpa using hn) (fun j v hv => by
      rw [List.getElem?_replicate] at hv
      split at hv
      · injection hv with hv; subst hv; exact hsrc j (by assumption)
      · cases hv) (by rw [fill_size x c k (by omega)]; simpa using hk) (fun v hv => by rw [List.eq_of_mem_replicate hv]; rfl)
  have hset : ∀ arr, ((W.alloc (.cells (fill x c k) 26)).drewN q).setRow W.heap.size arr = (W.alloc (.cells arr 26)).drewN q := fun arr => by
    rw [← setRow_new W (fill x c k) arr 26]; rfl
  rw [h, hset]
  congr 1
  · simp [goInt]
  · congr 3
    simp only [fill, List.length_replicate]
    rw [List.take_append_of_le_length (by simp), List.take_of_length_le (by simp), List.replicate_append_replicate]
    congr 2
    rw [List.drop_append, List.drop_of_length_le (by simp)]
    simp
    omega

-- slices.Repeat (12)
set_option maxHeartbeats 400000 in
theorem repeat_any (x c : Nat) (h : 3 ≤ c ∧ c ≤ 8) (w : World) (b : Nat) (hb : b = w.heap.size) :
    Calls Try.prog 12 #[.slice (some ⟨b, 0, none⟩) 1 1, .int .i64 c] (w.alloc (.cells #[.float .f32 x] 26)) fun e w' => e = .returned (.slice (some ⟨b + 1, 0, none⟩) c c) ∧ ∃ q, ((w.alloc (.cells #[.float .f32 x] 26)).alloc (.cells (fill x c c) 26)).drewN q = w' := by
  subst hb
  obtain ⟨h3, h8⟩ := h
  have hmk := make_all x c ⟨h3, h8⟩
  have hmul := mul_all c ⟨h3, h8⟩
  have c0 : (3 : Int) ≤ (c : Int) := by omega
  have c8 : (c : Int) ≤ 8 := by omega
  have hcp := copy_on (w.alloc (.cells #[.float .f32 x] 26)) x c 0 1 ⟨w.heap.size, 0, none⟩ 1 1 (by omega) (by show 1 = min 1 (c - 0); omega) (fun j hj => by
    have : j = 0 := by omega
    subst this
    simp [Addr.add, World.cell?_alloc_past]) (w.heap.size + 1) (by simp) c 0
  simp only [Nat.sub_zero, Nat.zero_add, World.drewN_zero] at hcp
  go_enter Try.func12, Try.ntmps12
  go_wp2_with (go_at_call 24; refine (hmul _).mono ?_; rintro e w' ⟨rfl, rfl⟩)
  go_loopw [8] (fun n wr => ∃ k : Nat, 1 ≤ k ∧ k ≤ c ∧ n = .int .i64 k ∧ ∃ q, wr = ((w.alloc (.cells #[.float .f32 x] 26)).alloc (.cells (fill x c k) 26)).drewN q) (fun n _ => c - (intOf n).toNat)
  case atStart => exact ⟨1, by omega, by omega, rfl, 0, rfl⟩
  case round =>
    clear hcp hmk hmul
    obtain ⟨k, hk1, hkc, rfl, q, rfl⟩ := hrel
    by_cases hlt : k < c
    · have hcp := copy_on (w.alloc (.cells #[.float .f32 x] 26)) x c k (min k (c - k)) ⟨w.heap.size + 1, 0, none⟩ k c (by omega) rfl (fun j hj => by
        have : (⟨w.heap.size + 1, 0, none⟩ : Addr).add j = ⟨w.heap.size + 1, j, none⟩ := by by_cases h0 : j = 0 <;> simp [Addr.add, h0]
        rw [this, World.cell?_alloc_at _ _ _ _ (by simp)]
        exact fill_get x c k j (by omega)) (w.heap.size + 1) (by simp) (c - k) (q + 1)
      have hck : ¬ c = k := by omega
      go_wp2
      go_region
      go_roundw
      case rel =>
        refine ⟨_, _, _, _, _, _, _, _, _, _, _, _, _, _, ⟨k + min k (c - k), by omega, by omega, ?_, q + 1, rfl⟩, rfl⟩
        go_num
      case measure => simp [intOf]; omega
    · have hkk : k = c := by omega
      subst hkk
      go_wp2
      go_ret
      exact ⟨rfl, q, rfl⟩
end Go.Proofs.Ytpkcbofeoklpbaa
