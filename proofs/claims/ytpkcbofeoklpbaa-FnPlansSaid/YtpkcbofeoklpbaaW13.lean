/- The law's walk. -/
import Derived.Laws.AppendOwn
import Derived.Maps.AppendAt
import Derived.Laws.FloatArith
import Derived.Test.YtpkcbofeoklpbaaW12
import Derived.Test.YtpkcbofeoklpbaaW6
import Derived.Test.YtpkcbofeoklpbaaNum4
namespace Go.Proofs.Ytpkcbofeoklpbaa
open Go.RowKit Fl

theorem info26 : (Try.prog.info? 26).map (fun i => (i.zero, i.size, i.bytes)) = some (some (.float .f32 0), 1, 4) := by kernel_rfl

theorem rup {a b : Nat} (h : floatToFloatBits .f32 a .f64 = some b) : ∀ w, (convert 26 29 (.float .f32 a)).run Try.prog w = .ok (.float .f64 b) w :=
  fun w => run_convert_float_float (P := Try.prog) w 26 29 .f32 .f64 a b (by kernel_rfl) (by kernel_rfl) h

def row (lw : Nat → Nat) (k : Nat) : List Value := (List.range k).map (fun j => Value.float .f32 (lw j))
theorem row_succ (lw : Nat → Nat) (k : Nat) : row lw (k + 1) = row lw k ++ [.float .f32 (lw k)] := by simp [row, List.range_succ]
theorem row_get (lw : Nat → Nat) (n k : Nat) (h : k < n) : (row lw n)[k]? = some (.float .f32 (lw k)) := by simp [row, h]

set_option maxRecDepth 100000 in
set_option maxHeartbeats 4000000 in
theorem walk (a0 : Option Addr) (len0 cap0 : Nat) (z0 : List Int) (a1 : Option Addr) (len1 cap1 : Nat) (z1 : List Int) (w : World) (w0 : IsRow .u8 w a0 len0 cap0 z0) (w1 : IsRow .u8 w a1 len1 cap1 z1) :
    Calls Try.prog 3 #[.slice a0 len0 cap0, .slice a1 len1 cap1] w fun e w' => e = .returned (.bool true) ∧ Below w.heap.size w w' := by
  have HL := long_any a0 a1 len0 cap0 len1 cap1 w
  by_cases hlong : (decide ((1048576 : Int) < len0) || decide ((1048576 : Int) < len1)) = true
  · rw [hlong] at HL
    go_enter Try.func3, Try.ntmps3
    go_wp2_with (go_at_call 4; (with_reducible refine HL.mono ?_); rintro e w' ⟨rfl, rfl⟩)
    go_ret
    exact ⟨rfl, Below.refl _ _⟩
  rw [Bool.eq_false_iff.2 hlong] at HL
  clear hlong
  -- what the law reads
  obtain ⟨n6, hn6, A0⟩ := at_any a1 len1 cap1 z1 w w1 0 6 (by omega) (by omega) (by omega)
  obtain ⟨m8, hm8, A1⟩ := at_any a1 len1 cap1 z1 w w1 1 8 (by omega) (by omega) (by omega)
  obtain ⟨k8, hk8, A2⟩ := at_any a1 len1 cap1 z1 w w1 2 8 (by omega) (by omega) (by omega)
  obtain ⟨l32, hl32, A3⟩ := at_any a1 len1 cap1 z1 w w1 3 32 (by omega) (by omega) (by omega)
  obtain ⟨j8, hj8, A4⟩ := at_any a1 len1 cap1 z1 w w1 4 8 (by omega) (by omega) (by omega)
  replace A0 : ∀ w', Below w.heap.size w w' → Calls Try.prog 5 #[.slice a1 len1 cap1, .int .i64 0, .int .i64 6] w' fun e w'' => e = .returned (.int .i64 (n6 : Int)) ∧ w' = w'' := A0
  replace A1 : ∀ w', Below w.heap.size w w' → Calls Try.prog 5 #[.slice a1 len1 cap1, .int .i64 1, .int .i64 8] w' fun e w'' => e = .returned (.int .i64 (m8 : Int)) ∧ w' = w'' := A1
  replace A2 : ∀ w', Below w.heap.size w w' → Calls Try.prog 5 #[.slice a1 len1 cap1, .int .i64 2, .int .i64 8] w' fun e w'' => e = .returned (.int .i64 (k8 : Int)) ∧ w' = w'' := A2
  replace A3 : ∀ w', Below w.heap.size w w' → Calls Try.prog 5 #[.slice a1 len1 cap1, .int .i64 3, .int .i64 32] w' fun e w'' => e = .returned (.int .i64 (l32 : Int)) ∧ w' = w'' := A3
  replace A4 : ∀ w', Below w.heap.size w w' → Calls Try.prog 5 #[.slice a1 len1 cap1, .int .i64 4, .int .i64 8] w' fun e w'' => e = .returned (.int .i64 (j8 : Int)) ∧ w' = w'' := A4
  have hR : ∀ k : Nat, ∃ r : Nat, r < 16 ∧ (k ≤ 100 → ∀ w', Below w.heap.size w w' → Calls Try.prog 5 #[.slice a0 len0 cap0, .int .i64 k, .int .i64 16] w' fun e w'' => e = .returned (.int .i64 (r : Int)) ∧ w' = w'') := fun k => by
    by_cases h : k ≤ 100
    · obtain ⟨r, h1, h2⟩ := at_any a0 len0 cap0 z0 w w0 k 16 (by omega) (by omega) h
      exact ⟨r, h1, fun _ => h2⟩
    · exact ⟨0, by omega, fun h' => absurd h' h⟩
  obtain ⟨rk, hrk⟩ : ∃ rk : Nat → Nat, ∀ k, rk k < 16 ∧ (k ≤ 100 → ∀ w', Below w.heap.size w w' → Calls Try.prog 5 #[.slice a0 len0 cap0, .int .i64 k, .int .i64 16] w' fun e w'' => e = .returned (.int .i64 (rk k : Int)) ∧ w' = w'') := ⟨fun k => (hR k).choose, fun k => (hR k).choose_spec⟩
  clear hR w0 w1
  obtain ⟨n, hn⟩ : ∃ n, 2 + n6 = n := ⟨_, rfl⟩
  obtain ⟨lw, hlw⟩ : ∃ lw : Nat → Nat, ∀ k, lw k = qW (1 + rk k) := ⟨_, fun _ => rfl⟩
  have hp : Pcs n lw (fun k => ((1 + rk k : Nat) : Rat) / 4) := by
    have hb : ∀ k, (1 : Rat) ≤ ((1 + rk k : Nat) : Rat) ∧ ((1 + rk k : Nat) : Rat) ≤ 16 := fun k => by
      constructor
      · exact_mod_cast (by omega : 1 ≤ 1 + rk k)
      · have : ((1 + rk k : Nat) : Rat) ≤ ((16 : Nat) : Rat) := by exact_mod_cast (by have := (hrk k).1; omega : 1 + rk k ≤ 16)
        exact this
    refine ⟨fun k _ => by rw [hlw]; exact (q_ok (1 + rk k) (by have := (hrk k).1; omega)).2, fun k _ => ?_, fun k _ => ?_⟩
    · have := (hb k).1; grind
    · have := (hb k).2; grind
  have hqs : ∀ k, ∀ t w', (binOp .quo t (.float .f32 (floatOfInt .f32 (1 + (rk k : Int)))) (.float .f32 1082130432)).run Try.prog w' = .ok (.float .f32 (lw k)) w' := fun k => by
    have := (q_ok (1 + rk k) (by have := (hrk k).1; omega)).1
    rw [show ((1 + rk k : Nat) : Int) = 1 + (rk k : Int) by omega, ← hlw] at this
    exact rop this
  obtain ⟨most, hmost, sM, rM⟩ : ∃ most, most = hW (1 + m8) ∧ S most (((1 + m8 : Nat) : Rat) / 2) ∧ ∀ t w', (binOp .quo t (.float .f32 (floatOfInt .f32 (1 + (m8 : Int)))) (.float .f32 1073741824)).run Try.prog w' = .ok (.float .f32 most) w' := by
    have := h_ok (1 + m8) (by omega)
    rw [show ((1 + m8 : Nat) : Int) = 1 + (m8 : Int) by omega] at this
    exact ⟨_, rfl, this.2, rop this.1⟩
  obtain ⟨rise, hrise, sK, rK⟩ : ∃ rise, rise = hW (1 + k8) ∧ S rise (((1 + k8 : Nat) : Rat) / 2) ∧ ∀ t w', (binOp .quo t (.float .f32 (floatOfInt .f32 (1 + (k8 : Int)))) (.float .f32 1073741824)).run Try.prog w' = .ok (.float .f32 rise) w' := by
    have := h_ok (1 + k8) (by omega)
    rw [show ((1 + k8 : Nat) : Int) = 1 + (k8 : Int) by omega] at this
    exact ⟨_, rfl, this.2, rop this.1⟩
  obtain ⟨long, hlong, sL, rL⟩ : ∃ long, long = qW (1 + l32) ∧ S long (((1 + l32 : Nat) : Rat) / 4) ∧ ∀ t w', (binOp .quo t (.float .f32 (floatOfInt .f32 (1 + (l32 : Int)))) (.float .f32 1082130432)).run Try.prog w' = .ok (.float .f32 long) w' := by
    have := q_ok (1 + l32) (by omega)
    rw [show ((1 + l32 : Nat) : Int) = 1 + (l32 : Int) by omega] at this
    exact ⟨_, rfl, this.2, rop this.1⟩
  obtain ⟨jerk, hjerk, sJ, rJ⟩ : ∃ jerk, jerk = hW (1 + j8) ∧ S jerk (((1 + j8 : Nat) : Rat) / 2) ∧ ∀ t w', (binOp .quo t (.float .f32 (floatOfInt .f32 (1 + (j8 : Int)))) (.float .f32 1073741824)).run Try.prog w' = .ok (.float .f32 jerk) w' := by
    have := h_ok (1 + j8) (by omega)
    rw [show ((1 + j8 : Nat) : Int) = 1 + (j8 : Int) by omega] at this
    exact ⟨_, rfl, this.2, rop this.1⟩
  obtain ⟨M, hM⟩ : ∃ M : Rat, ((1 + m8 : Nat) : Rat) / 2 = M := ⟨_, rfl⟩
  obtain ⟨K, hK⟩ : ∃ K : Rat, ((1 + k8 : Nat) : Rat) / 2 = K := ⟨_, rfl⟩
  obtain ⟨L, hL⟩ : ∃ L : Rat, ((1 + l32 : Nat) : Rat) / 4 = L := ⟨_, rfl⟩
  obtain ⟨J, hJ⟩ : ∃ J : Rat, ((1 + j8 : Nat) : Rat) / 2 = J := ⟨_, rfl⟩
  rw [hM] at sM; rw [hK] at sK; rw [hL] at sL; rw [hJ] at sJ
  have half : ∀ (i : Nat) (X : Rat), i < 8 → ((1 + i : Nat) : Rat) / 2 = X → 2 * X = ((1 + i : Nat) : Rat) ∧ 1 / 2 ≤ X ∧ X ≤ 4 := fun i X hi hX => by
    have h1 : (1 : Rat) ≤ ((1 + i : Nat) : Rat) := by exact_mod_cast (by omega : 1 ≤ 1 + i)
    have h2 : ((1 + i : Nat) : Rat) ≤ ((8 : Nat) : Rat) := by exact_mod_cast (by omega : 1 + i ≤ 8)
    have e8 : ((8 : Nat) : Rat) = 8 := rfl
    generalize ((1 + i : Nat) : Rat) = q at *
    refine ⟨by grind, by grind, by grind⟩
  obtain ⟨eM, m0, m4⟩ := half m8 M hm8 hM
  obtain ⟨eK, k0, k4⟩ := half k8 K hk8 hK
  obtain ⟨eJ, j0, j4⟩ := half j8 J hj8 hJ
  obtain ⟨l0, l8⟩ : 1 / 4 ≤ L ∧ L ≤ 8 := by
    have h1 : (1 : Rat) ≤ ((1 + l32 : Nat) : Rat) := by exact_mod_cast (by omega : 1 ≤ 1 + l32)
    have h2 : ((1 + l32 : Nat) : Rat) ≤ ((32 : Nat) : Rat) := by exact_mod_cast (by omega : 1 + l32 ≤ 32)
    have e8 : ((32 : Nat) : Rat) = 32 := rfl
    generalize ((1 + l32 : Nat) : Rat) = q at *
    constructor <;> grind
  have hn2 : 2 ≤ n := by omega
  have hn7 : n ≤ 7 := by omega
  clear half hM hK hL hJ hmost hrise hlong hjerk hlw
  have HS := fun (b cap : Nat) => speedPlan_any b 0 n cap most rise lw _ M K hp sM sK m0 m4 k0 k4 hn2 hn7
  have HJ := fun w' => jerkPlan_any long most rise jerk J K M L _ _ _ sJ sK sM sL eJ eK eM ⟨by omega, by omega⟩ ⟨by omega, by omega⟩ ⟨by omega, by omega⟩ l0 l8 w'
  have hsf := run_store_float
  obtain ⟨i0, hi, hz0, hz1, hz2⟩ := info_parts info26
  have en : 2 + (n6 : Int) = (n : Int) := by omega
  go_enter Try.func3, Try.ntmps3
  go_wp2_with (go_at_call 4; (with_reducible refine HL.mono ?_); rintro e w' ⟨rfl, rfl⟩)
  go_loopw [5, 6] (fun v5 v6 wr => ∃ k : Nat, k ≤ n ∧ v6 = .int .i64 k ∧ wr.ownsRow w.heap.size 26 1 v5 k (row lw k) ∧ v5 ≠ .slice none 0 0 ∧ Below w.heap.size w wr) (fun _ v6 _ => n - (intOf v6).toNat)
  case atStart => exact ⟨0, by omega, rfl, ⟨rfl, .inr ⟨w.heap.size, 0, #[], rfl, Nat.le_refl _, World.alloc_heap_new _ _, by omega, by decide, rfl, rfl⟩⟩, by simp, (Below.refl _ w).alloc (Nat.le_refl _) _⟩
  case round =>
    obtain ⟨k, hkn, rfl, hown, hnn, hB⟩ := hrel
    have B0 := A0 wr hB
    by_cases hlt : k < n
    · have HA : Calls Try.prog 5 #[.slice a0 len0 cap0, .int .i64 k, .int .i64 16] wr fun e w'' => e = .returned (.int .i64 (rk k : Int)) ∧ wr = w'' := (hrk k).2 (by omega) wr hB
      have hq := hqs k
      have hr16 : (rk k : Int) < 16 := by have := (hrk k).1; omega
      have hr0 : (0 : Int) ≤ (rk k : Int) := by omega
      have hlt' : (k : Int) < 2 + (n6 : Int) := by omega
      have hk0 : (0 : Int) ≤ (k : Int) := by omega
      have hn6' : (n6 : Int) < 6 := by omega
      have P1 := Lib.hid hp
      clear hp HS HJ hrk hqs A0 A1 A2 A3 A4 HL
      go_wp2_with (first
        | (go_at_call 5; (with_reducible refine B0.mono ?_); rintro e w' ⟨rfl, rfl⟩)
        | (go_at_call 5; (with_reducible refine HA.mono ?_); rintro e w' ⟨rfl, rfl⟩)
        | (at_builtin; refine wpList_append_own _ rfl _ _ 24 rfl w.heap.size 26 i0 (.float .f32 0) 1 4 Try.underlying24 hi hz0 hz1 hz2 rfl (by decide) _ _ _ rfl (hown.alloc _) ⟨wr.heap.size, 0, none⟩ 1 1 [.float .f32 (lw k)] rfl rfl (cell_one_new _ _ _) (fun u hu => by simp at hu; subst hu; rfl) (by unfold maxLen; omega) (by omega) (by have := hB.size; simp; omega) ?_; intro v' w2 hown' hgrow hnil))
      have hlt5 := hown.lt
      exact ⟨⟨k + 1, by omega, by go_num, by rw [row_succ]; exact hown', by rw [ne_eq, hnil]; simp, (hB.alloc hB.size _).grown hgrow (by have := hB.size; simp; omega) (fun k e => (hlt5 k e).1)⟩, by simp [intOf]; omega⟩
    · obtain rfl : k = n := by omega
      have hlt' : ¬ (k : Int) < 2 + (n6 : Int) := by omega
      have hn6' : (n6 : Int) < 6 := by omega
      have hcells := fun g => hown.cells (g := g)
      rcases hown.2 with ⟨h, _⟩ | ⟨g, cap, cur, rfl, hgH, hgh, hcap, hcapm, _, _⟩
      · exact absurd h hnn
      have hlc : ∀ j, j < k → wr.cell? ⟨g, 0 + j, none⟩ = some (.float .f32 (lw j)) := fun j hj => by
        have := hcells g rfl j _ (row_get lw k j hj)
        rw [Nat.zero_add]
        have e : (⟨g, 0, none⟩ : Addr).add j = ⟨g, j, none⟩ := by by_cases h0 : j = 0 <;> simp [Addr.add, h0]
        rw [← e]; exact this
      have hgs : g < wr.heap.size := (Array.getElem?_eq_some_iff.1 hgh).1
      have B1 := A1 wr hB
      have B2 := A2 wr hB
      have HS' := HS g cap wr hgs hlc
      have hB0 := hB
      clear HS hcells hgh hrk hqs hown hnn hi
      obtain ⟨_, vv, hvv, hBf, hAf⟩ := bwd_inv (V0_spd k most M sM m0 hn2) hp sK k0 k4 m4 k (Nat.le_refl k)
      generalize bwdA (V0 k most) rise lw k k = V at *
      obtain ⟨t1, t2, t3, t4⟩ := time_near hvv hp sM m0 m4 hn2 hn7
      have pieces := fun i hi => piece_near hvv hp sM sK m0 m4 k0 k4 i hi (hBf i hi) (hAf i (by omega) hi)
      have leasts := (least_near hp sM m0 m4 hn7 k (Nat.le_refl k)).1
      have eq0 : FloatKind.f32.format.order (V 0) 0 = some .eq := eq_of_beq (ceq_t (hvv.s 0 (by omega)) s_zero hvv.z0)
      have eqn : FloatKind.f32.format.order (V k) 0 = some .eq := eq_of_beq (ceq_t (hvv.s k (Nat.le_refl k)) s_zero hvv.zn)
      generalize sumW V lw k = ts at *
      clear hvv hBf hAf
      have hm8' : (m8 : Int) < 8 := by omega
      have hk8' : (k8 : Int) < 8 := by omega
      have HT := Lib.hid (And.intro pieces leasts)
      clear hp pieces leasts
      have hkk0 : (2 : Int) ≤ (k : Int) := by omega
      have hkk7 : (k : Int) ≤ 7 := by omega
      go_wp2_with (first
        | (go_at_call 5; (with_reducible refine B0.mono ?_); rintro e w' ⟨rfl, rfl⟩)
        | (go_at_call 5; (with_reducible refine B1.mono ?_); rintro e w' ⟨rfl, rfl⟩)
        | (go_at_call 5; (with_reducible refine B2.mono ?_); rintro e w' ⟨rfl, rfl⟩)
        | (go_at_call 6; (with_reducible refine HS'.mono ?_); rintro e w2 ⟨g2, rfl, hb2, hg2, hv2⟩; have hc0 := hv2 0 (by omega); have hcn := hv2 k (by omega)))
      have hlc2 : ∀ j, j < k → w2.cell? ⟨g, 0 + j, none⟩ = some (.float .f32 (lw j)) := fun j hj => (hb2.cell (p := ⟨g, 0 + j, none⟩) hgs).trans (hlc j hj)
      have hBw : Below w.heap.size w w2 := hB0.trans (hb2.mono hB0.size)
      clear hlc hc0 hcn
      go_loopw [12, 96] (fun v12 v96 wr' => ∃ i q : Nat, i ≤ k ∧ v96 = .int .i64 i ∧ v12 = .float .f64 (leastW lw most i) ∧ wr' = w2.drewN q) (fun _ v96 _ => k - (intOf v96).toNat)
      case atStart => exact ⟨0, 0, by omega, rfl, rfl, rfl⟩
      case round =>
        obtain ⟨i, q, hik, rfl, rfl, hwr⟩ := hrel
        by_cases hlt2 : i < k
        · have o := HT.out.1 i hlt2
          have l := HT.out.2 i hlt2
          obtain ⟨x, y, d, hx, hy, hd, gg⟩ := o.gap
          have HG := gap_any _ _ d x y hx hy hd
          have r1 := rup l.u
          have r2 := rup l.um
          have r3 := rop l.d
          have r4 := rop l.s
          have r5 := rup o.u0
          have r6 := rup o.u1
          have r7 := rup o.ur
          have r8 := rop o.am
          have r9 := rop o.bb
          have r10 := rop o.aa
          have r11 := rop o.r2
          have r12 := rop o.rl
          have r13 := rop o.rc
          have g1 := o.lt0
          have g2' := o.gt
          have hc0 : wr.cell? ⟨g2, i, none⟩ = some (.float .f32 (V i)) := by rw [hwr]; exact hv2 i (by omega)
          have hc1 : wr.cell? ⟨g2, i + 1, none⟩ = some (.float .f32 (V (i + 1))) := by rw [hwr]; exact hv2 (i + 1) (by omega)
          have hlg : wr.cell? ⟨g, i, none⟩ = some (.float .f32 (lw i)) := by rw [hwr]; have := hlc2 i hlt2; rwa [Nat.zero_add] at this
          have hi0 : (0 : Int) ≤ (i : Int) := by omega
          have hik' : (i : Int) < (k : Int) := by omega
          have hwr' := Lib.hid hwr
          clear hwr o l hx hy hd HJ A3 A4 A0 A1 A2 HL hsf
          go_wp2
          go_quiet ((go_at_call 7; exact Calls.quiet_of_same ((HG _).mono (fun e w' h => ⟨h.1, h.2.symm⟩))))
          go_wp2
          exact ⟨⟨i + 1, q + nq, by omega, by go_num, rfl, by rw [hwr'.out, World.drewN_drewN]⟩, by simp [intOf]; omega⟩
        · obtain rfl : i = k := by omega
          have hBr : Below w.heap.size w wr := by rw [hwr]; exact ⟨hBw.os, hBw.tape, hBw.output, hBw.size, hBw.block⟩
          have B3 := A3 wr hBr
          have B4 := A4 wr hBr
          have HJ' := HJ wr
          have r1 := rup t2
          have r2 := rop t3
          have hl32' : (l32 : Int) < 32 := by omega
          have hj8' : (j8 : Int) < 8 := by omega
          have hlt3 : ¬ (i : Int) < (i : Int) := by omega
          have P2 := Lib.hid (And.intro sJ (And.intro sK (And.intro sM (And.intro sL (And.intro j0 (And.intro k0 (And.intro k4 (And.intro m0 (And.intro m4 (And.intro l0 l8))))))))))
          clear hwr HJ A0 A1 A2 A3 A4 HL HT hv2 hlc2 hb2 t1 t2 t3 sJ sK sM sL j0 k0 k4 m0 m4 l0 l8 eM eK eJ j4
          go_wp2_with (first
            | (go_at_call 5; (with_reducible refine B3.mono ?_); rintro e w' ⟨rfl, rfl⟩)
            | (go_at_call 5; (with_reducible refine B4.mono ?_); rintro e w' ⟨rfl, rfl⟩)
            | (go_at_call 8; fail))
          refine HJ'.mono ?_
          rintro e w3 ⟨r, h, c, R, H, C, al, pl, rfl, hb3⟩
          obtain ⟨sJ, sK, sM, sL, j0, k0, k4, m0, m4, l0, l8⟩ := P2.out
          obtain ⟨tok, tv, ht, tT, Tt, tv0, tv46⟩ := total_near pl l0
          have po := plan_near pl sK sM j0 k0 k4 m0 m4 l0
          have HP9 := planTime_any jerk r h c J R H C pl.w.sj pl.w.sr pl.w.sh pl.w.sc (by grind) (by have := pl.r0; grind) pl.p.h0 pl.p.c0 tok
          have looks := fun i hi => look_ok pl sL l0 l8 ht tv0 tv46 i hi
          have ends := end_ok pl sL l0 l8 ht tv0 tv46 tT Tt
          have HPW := fun t tv' z' ht' h0' hf' hz' w' => planWay_any jerk r h c t J R H C tv' z' pl.w.sj pl.w.sr pl.w.sh pl.w.sc ht' (by grind) (by have := pl.r0; grind) pl.p.h0 pl.p.c0 h0' hf' hz' w'
          have hB3 : Below w.heap.size w w3 := hBr.trans (hb3.mono hBr.size)
          clear pl sJ sK sM sL j0 k0 k4 m0 m4 l0 l8 tok ht tT Tt tv0 tv46 HJ' hb3
          go_wp2_with (go_at_call 9; fail)
          have hBA : Below w.heap.size w (w3.alloc (.cells #[.float .f32 jerk, .float .f32 r, .float .f32 h, .float .f32 c] 32)) := hB3.alloc hB3.size _
          have hp0 : (w3.alloc (.cells #[.float .f32 jerk, .float .f32 r, .float .f32 h, .float .f32 c] 32)).cell? ⟨w3.heap.size, 0, none⟩ = some (.float .f32 jerk) := by simp [World.cell?_alloc_at]
          have hp1 : (w3.alloc (.cells #[.float .f32 jerk, .float .f32 r, .float .f32 h, .float .f32 c] 32)).cell? ⟨w3.heap.size, 1, none⟩ = some (.float .f32 r) := by simp [World.cell?_alloc_at]
          have hp2 : (w3.alloc (.cells #[.float .f32 jerk, .float .f32 r, .float .f32 h, .float .f32 c] 32)).cell? ⟨w3.heap.size, 2, none⟩ = some (.float .f32 h) := by simp [World.cell?_alloc_at]
          have hp3 : (w3.alloc (.cells #[.float .f32 jerk, .float .f32 r, .float .f32 h, .float .f32 c] 32)).cell? ⟨w3.heap.size, 3, none⟩ = some (.float .f32 c) := by simp [World.cell?_alloc_at]
          have hps : w3.heap.size < (w3.alloc (.cells #[.float .f32 jerk, .float .f32 r, .float .f32 h, .float .f32 c] 32)).heap.size := by simp
          refine (HP9 _).mono ?_
          generalize (w3.alloc (.cells #[.float .f32 jerk, .float .f32 r, .float .f32 h, .float .f32 c] 32)) = w3' at *
          rintro e w4 ⟨rfl, hb4⟩
          have hB4 : Below w.heap.size w w4 := hBA.trans (hb4.mono hBA.size)
          have hp0 := (hb4.cell (p := ⟨w3.heap.size, 0, none⟩) hps).trans hp0
          have hp1 := (hb4.cell (p := ⟨w3.heap.size, 1, none⟩) hps).trans hp1
          have hp2 := (hb4.cell (p := ⟨w3.heap.size, 2, none⟩) hps).trans hp2
          have hp3 := (hb4.cell (p := ⟨w3.heap.size, 3, none⟩) hps).trans hp3
          have hps4 : w3.heap.size < w4.heap.size := Nat.lt_of_lt_of_le hps hb4.size
          generalize w3.heap.size = pb at *
          have q1 : FloatKind.f32.format.order jerk jerk = some .eq := eq_of_beq po.eq
          have q2 := po.r0
          have q3 := po.h0
          have q4 := po.c0
          have q5 := po.t0
          have q6 := rup po.uj
          have q7 := rup po.ur
          have q8 := rup po.uh
          have q9 := rup po.uk
          have q10 := rup po.um
          have q11 := rop po.rj
          have q12 := rop po.ka
          have q13 := po.g1
          have q14 := rop po.jr
          have q15 := rop po.rh
          have q16 := rop po.pr
          have q17 := rop po.ma
          have q18 := po.g2
          generalize timeW r h c = tau at *
          have LK := Lib.hid (And.intro looks (And.intro ends HPW))
          clear looks ends HPW po HP9 hb4 B3 B4 hBA hB3 r1 r2
          go_wp2
          go_loopw [22, 23] (fun v22 v23 wr => ∃ i : Nat, i ≤ 13 ∧ v23 = .int .i64 i ∧ v22 = .float .f32 (before jerk r h c tau i) ∧ Below w4.heap.size w4 wr) (fun _ v23 _ => 13 - (intOf v23).toNat)
          case atStart => exact ⟨0, by omega, rfl, rfl, Below.refl _ _⟩
          case round =>
            obtain ⟨t, htt, rfl, rfl, hbw⟩ := hrel
            have hcp0 := (hbw.cell (p := ⟨pb, 0, none⟩) hps4).trans hp0
            have hcp1 := (hbw.cell (p := ⟨pb, 1, none⟩) hps4).trans hp1
            have hcp2 := (hbw.cell (p := ⟨pb, 2, none⟩) hps4).trans hp2
            have hcp3 := (hbw.cell (p := ⟨pb, 3, none⟩) hps4).trans hp3
            clear q1 q2 q3 q4 q5 q6 q7 q8 q9 q10 q11 q12 q13 q14 q15 q16 q17 q18 hp0 hp1 hp2 hp3
            by_cases ht13 : t < 13
            · have o := LK.out.1 t (by omega)
              obtain ⟨z, hz, hz0⟩ := o.t
              obtain ⟨z', hz'⟩ := o.x
              have HW : ∀ w', Calls Try.prog 10 #[.agg #[.float .f32 jerk, .float .f32 r, .float .f32 h, .float .f32 c], .float .f32 (tW tau t)] w' fun e w'' => e = .returned (.tuple #[.float .f32 (xW jerk r h c (tW tau t)), .bool true]) ∧ Below w'.heap.size w' w'' := fun w' => LK.out.2.2 (tW tau t) z z' hz hz0 o.f hz' w'
              have q1 := rop o.m
              have q2 := rop o.d
              have q3 := rup o.ux
              have q4 := rup o.ub
              have q5 := rup o.ul
              have q6 := rop o.ol
              have q7 := rop o.ml
              have q8 := rop o.sb
              have q9 := o.lt
              have ht0 : (0 : Int) ≤ (t : Int) := by omega
              have ht12 : (t : Int) ≤ 12 := by omega
              clear o hz hz' hz0
              go_wp2_with (go_at_call 10; (with_reducible refine (HW _).mono ?_); rintro e w5 ⟨rfl, hb5⟩)
              exact ⟨⟨t + 1, by omega, by go_num, rfl, hbw.trans (hb5.mono hbw.size)⟩, by simp [intOf]; omega⟩
            · obtain rfl : t = 13 := by omega
              have o := LK.out.2.1
              obtain ⟨z, hz, hz0⟩ := o.t
              obtain ⟨z', hz'⟩ := o.x
              have HW : ∀ w', Calls Try.prog 10 #[.agg #[.float .f32 jerk, .float .f32 r, .float .f32 h, .float .f32 c], .float .f32 (fadd tau 1084227584)] w' fun e w'' => e = .returned (.tuple #[.float .f32 (xW jerk r h c (fadd tau 1084227584)), .bool true]) ∧ Below w'.heap.size w' w'' := fun w' => LK.out.2.2 (fadd tau 1084227584) z z' hz hz0 o.f hz' w'
              obtain ⟨x1, y1, d1, hx1, hy1, hd1, gg1⟩ := o.g1
              obtain ⟨x2, y2, d2, hx2, hy2, hd2, gg2⟩ := o.g2
              have HG1 : ∀ w', Calls Try.prog 7 #[.float .f64 (up (before jerk r h c tau 13)), .float .f64 (up long)] w' fun e w'' => e = .returned (.float .f64 d1) ∧ w' = w'' := fun w' => gap_any _ _ d1 x1 y1 hx1 hy1 hd1 w'
              have HG2 : ∀ w', Calls Try.prog 7 #[.float .f64 (up (xW jerk r h c (fadd tau 1084227584))), .float .f64 (up (before jerk r h c tau 13))] w' fun e w'' => e = .returned (.float .f64 d2) ∧ w' = w'' := fun w' => gap_any _ _ d2 x2 y2 hx2 hy2 hd2 w'
              have q1 := rop o.a
              have q2 := rup o.ux
              have q3 := rup (show floatToFloatBits .f32 (before jerk r h c tau 13) .f64 = some (up (before jerk r h c tau 13)) from o.ub)
              have q4 := rup o.ul
              have q5 := rop o.ol
              have q6 := rop o.ml
              have hE := Lib.hid (And.intro hB4 hbw)
              clear o hz hz' hz0 hx1 hy1 hd1 hx2 hy2 hd2
              go_wp2_with (first
                | (go_at_call 10; (with_reducible refine (HW _).mono ?_); rintro e w5 ⟨rfl, hb5⟩)
                | (go_at_call 7; (with_reducible refine (HG1 _).mono ?_); rintro e w' ⟨rfl, rfl⟩)
                | (go_at_call 7; (with_reducible refine (HG2 _).mono ?_); rintro e w' ⟨rfl, rfl⟩))
              go_ret
              exact ⟨rfl, hE.out.1.trans ((hE.out.2.trans (hb5.mono hE.out.2.size)).mono hE.out.1.size)⟩
end Go.Proofs.Ytpkcbofeoklpbaa
