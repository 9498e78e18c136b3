/- slices.Backward and its iterator; the cells that a body must keep. -/
import Derived.RangeFuncBox
import Derived.RangeFuncLeaves
import Derived.RangeFuncFrom
import Derived.Shelf.Abstract
import Derived.WalkKit
import Derived.OwnWalkIn
import Derived.TacticsInMore
import Derived.LoopNIn
import Derived.LoopIn
import Derived.Test.YtpkcbofeoklpbaaW8
namespace Go.Proofs.Ytpkcbofeoklpbaa
open Go.RowKit Go.Shelf Fl
attribute [local go_sem] Oper.semAt_some

def upto {α : Type} (f : Nat → α) (k : Nat) : List α := (List.range k).map f
theorem upto_succ {α : Type} (f : Nat → α) (k : Nat) : upto f (k + 1) = upto f k ++ [f k] := by simp [upto, List.range_succ]
theorem upto_length {α : Type} (f : Nat → α) (k : Nat) : (upto f k).length = k := by simp [upto]

/-- two blocks lie as they lay, cell by cell -/
def Kp2 (b1 b2 : Nat) (A B : World) : Prop := ∀ b k, b = b1 ∨ b = b2 → B.cell? ⟨b, k, none⟩ = A.cell? ⟨b, k, none⟩
theorem Kp2.trans {b1 b2 : Nat} {A B C : World} (h : Kp2 b1 b2 A B) (k : Kp2 b1 b2 B C) : Kp2 b1 b2 A C := fun b i hb => (k b i hb).trans (h b i hb)
theorem Kp2.refl {b1 b2 : Nat} {A : World} : Kp2 b1 b2 A A := fun _ _ _ => rfl

def bk (n : Nat) (h : 0 < n) (j : Nat) : Fin n := ⟨n - 1 - j, by omega⟩
def encB (n : Nat) (lw : Nat → Nat) (x : Fin n) : Array Value := #[Value.int .i64 (x.1 : Int), Value.float .f32 (lw x.1)]

-- Backward (15)
set_option maxHeartbeats 1000000 in
theorem back_in (F : Fence) (n : Nat) (h5 : F.fn 15) (hro : F.round = none) (a : Option Addr) (len cap : Nat) (w : World) :
    CallsIn F n Try.prog 15 #[.slice a len cap] w fun e w' => e = .returned (.func (.func 26) #[] #[.pointer (some ⟨w.heap.size, 0, none⟩)]) ∧ w' = w.alloc (.cells #[.slice a len cap] 24) := by
  refine callsIn_of_wp Try.func15 rfl h5 ?_ hro
  simp only [Try.ntmps15, List.size_toArray, List.length_cons, List.length_nil, Nat.reduceAdd, Nat.reduceSub, Array.replicate_succ, Array.replicate_zero, List.push_toArray, List.append_toArray, List.nil_append, List.cons_append]
  gi_wp2
  go_ret
  exact ⟨rfl, rfl⟩

set_option maxRecDepth 100000 in
set_option maxHeartbeats 2000000 in
theorem back1_in (F : Fence) (n : Nat) (h8 : F.fn 26) (hro : F.round = none) (hn : 1 ≤ n) (l Bs b off c cap : Nat) (lw : Nat → Nat) (c0 : 0 < c) (c8 : c ≤ 64) (J Jx : List (Fin c) → World → Prop)
    (hY : ∀ pre x W, J pre W → pre.length < c → YieldAt F (n - 1) Try.prog l #[.int .i64 (x.1 : Int), .float .f32 (lw x.1)] W fun e W' =>
      (e = .returned (.bool true) ∧ J (pre ++ [x]) W' ∧ Kp2 Bs b W W') ∨ (e = .returned (.bool false) ∧ Jx (pre ++ [x]) W'))
    (W : World) (hBs : W.cell? ⟨Bs, 0, none⟩ = some (.slice (some ⟨b, off, none⟩) c cap)) (hc : ∀ j, j < c → W.cell? ⟨b, off + j, none⟩ = some (.float .f32 (lw j))) (h0 : J [] W) :
    CallsIn F n Try.prog 26 #[.func (.yield l) #[] #[], .pointer (some ⟨Bs, 0, none⟩)] W fun e W' => (∃ v, e = .returned v) ∧
      ((∃ ys, ys = upto (bk c c0) c ∧ J ys W') ∨ (∃ pre, (∃ k, k ≤ c ∧ pre = upto (bk c c0) k) ∧ Jx pre W')) := by
  refine callsIn_of_wp Try.func26 rfl h8 ?_ hro
  simp only [Try.ntmps26, List.size_toArray, List.length_cons, List.length_nil, Nat.reduceAdd, Nat.reduceSub, Array.replicate_succ, Array.replicate_zero, List.push_toArray, List.append_toArray, List.nil_append, List.cons_append]
  have cc0 : (0 : Int) < (c : Int) := by omega
  have cc8 : (c : Int) ≤ 64 := by omega
  gi_wp2
  gi_loopw [3] (fun i wr => ∃ k : Nat, k ≤ c ∧ i = .int .i64 ((c : Int) - 1 - (k : Int)) ∧ J (upto (bk c c0) k) wr ∧ Kp2 Bs b W wr)
    (fun i _ => (intOf i + 1).toNat)
  case atStart => exact ⟨0, Nat.zero_le _, by simp, h0, Kp2.refl⟩
  case round =>
    obtain ⟨k, hk, rfl, hJs, hnx⟩ := hrel
    have hBx := (hnx Bs 0 (.inl rfl)).trans hBs
    by_cases hlt : k < c
    · have e1 : (c : Int) - 1 - (k : Int) = ((c - 1 - k : Nat) : Int) := by omega
      have hcx : wr.cell? ⟨b, off + (c - 1 - k), none⟩ = some (.float .f32 (lw (c - 1 - k))) := (hnx b (off + (c - 1 - k)) (.inr rfl)).trans (hc _ (by omega))
      obtain ⟨fn, tmps, assign, body, hy, hR⟩ := hY _ (bk c c0 k) wr hJs (by rw [upto_length]; exact hlt)
      dsimp only [bk] at hy
      have hkk : c - 1 - k < c := by omega
      have hk1 : k + 1 ≤ c := hlt
      rw [e1]
      generalize hm : c - 1 - k = m at *
      have i0 : (0 : Int) ≤ (m : Int) := by omega
      have i1 : (m : Int) < (c : Int) := by omega
      gi_wp2
      refine hR.mono ?_
      rintro e W3 (⟨rfl, hJ3, hk3⟩ | ⟨rfl, hJx3⟩)
      · gi_wp2
        go_roundw
        case rel => exact ⟨k + 1, hk1, by go_num, by rw [upto_succ]; exact hJ3, hnx.trans hk3⟩
        case measure => simp [intOf]
      · gi_wp2
        refine bodyPost_ret (results_none rfl _ _ _) rfl ?_
        exact ⟨⟨_, rfl⟩, .inr ⟨_, ⟨k + 1, by omega, (upto_succ _ _).symm⟩, hJx3⟩⟩
    · obtain rfl : k = c := by omega
      have e1 : (k : Int) - 1 - (k : Int) = -1 := by omega
      rw [e1]
      gi_wp2
      go_end0
      exact ⟨⟨_, rfl⟩, .inl ⟨_, rfl, hJs⟩⟩

theorem back_stops (F : Fence) (n : Nat) (h8 : F.fn 26) (hro : F.round = none) (hn : 1 ≤ n) (Bs b off c cap : Nat) (lw : Nat → Nat) (c0 : 0 < c) (c8 : c ≤ 64) (w : World) (hBs : Bs < w.heap.size) (hb : b < w.heap.size)
    (hc : w.cell? ⟨Bs, 0, none⟩ = some (.slice (some ⟨b, off, none⟩) c cap)) (hl : ∀ j, j < c → w.cell? ⟨b, off + j, none⟩ = some (.float .f32 (lw j))) :
    SeqStopsK F n Try.prog 26 #[.pointer (some ⟨Bs, 0, none⟩)] (encB c lw) (Kp2 Bs b) (fun ys => ys = upto (bk c c0) c)
      (fun pre => ∃ k, k ≤ c ∧ pre = upto (bk c c0) k) c w := fun l J Jx W hW _ _ hY h0 => by
  exact back1_in F n h8 hro hn l Bs b off c cap lw c0 c8 J Jx hY W ((hW.cell (p := ⟨Bs, 0, none⟩) hBs).trans hc) (fun j hj => (hW.cell (p := ⟨b, off + j, none⟩) hb).trans (hl j hj)) h0

theorem kp2_b {w : World} {b1 b2 : Nat} (h1 : b1 < w.heap.size) (h2 : b2 < w.heap.size) (W : World) (l : Nat) (o o' : Obj) (hl : w.heap.size ≤ l) (h : W.heap[l]? = some o) (hc : o.isCells = false) (hw : o.isWalk = false) : Kp2 b1 b2 W (W.putObj l o') := fun b k hb => by
  have := belowK_b (n₀ := w.heap.size) (w := w) (Nat.le_refl _) W l o o' hl h hc hw
  exact this.cell (p := ⟨b, k, none⟩) (by rcases hb with rfl | rfl <;> assumption)
end Go.Proofs.Ytpkcbofeoklpbaa
