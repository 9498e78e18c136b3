/- Walk: JerkPlan. -/
import Derived.Test.YtpkcbofeoklpbaaW4
import Derived.Test.YtpkcbofeoklpbaaJerk3
namespace Go.Proofs.Ytpkcbofeoklpbaa
open Go.RowKit Fl

/-- the end of JerkPlan's walk: a plan in a cell of its own -/
def RetPlan (j r h c : Nat) (w : World) (e : Ending) (w' : World) : Prop :=
  e = .returned (.tuple #[.agg #[.float .f32 j, .float .f32 r, .float .f32 h, .float .f32 c], .bool true]) ∧ Below w.heap.size w w'

/-- what lies in memory as the way of the plan is asked for -/
def jworld (l m k j r h : Nat) (w : World) : World :=
  (((w.alloc (.cells #[.float .f32 j] 26)).alloc (.cells #[.float .f32 0, .float .f32 0, .float .f32 0, .float .f32 0] 32)).alloc (.cells #[.float .f32 l, .float .f32 m, .float .f32 k, .float .f32 j] 26)).alloc (.cells #[.float .f32 j, .float .f32 r, .float .f32 h, .float .f32 0] 32)

theorem jres (l m k j r h : Nat) (w : World) (i : Nat) (hi : i < 4) : (jworld l m k j r h w).cell? ⟨w.heap.size + 1, i, none⟩ = some (.float .f32 0) := by
  unfold jworld
  rw [World.cell?_alloc_past _ _ _ (by simp), World.cell?_alloc_past _ _ _ (by simp), World.cell?_alloc_at _ _ _ _ (by simp)]
  match i, hi with
  | 0, _ => rfl
  | 1, _ => rfl
  | 2, _ => rfl
  | 3, _ => rfl
theorem jfro1 (l m k j r h : Nat) (w : World) (i : Nat) : (jworld l m k j r h w).frozen? ⟨w.heap.size + 1, i, none⟩ = false := by
  unfold jworld
  rw [World.frozen?_alloc_past _ _ _ (by simp), World.frozen?_alloc_past _ _ _ (by simp), World.frozen?_alloc_at _ _ _ _ (by simp)]
theorem jfro3 (l m k j r h : Nat) (w : World) (i : Nat) : (jworld l m k j r h w).frozen? ⟨w.heap.size + 1 + 1 + 1, i, none⟩ = false := by
  unfold jworld
  rw [World.frozen?_alloc_at _ _ _ _ (by simp)]
theorem jbelow (l m k j r h : Nat) (w : World) : Below w.heap.size w (jworld l m k j r h w) :=
  ((((Below.refl _ _).alloc (Nat.le_refl _) _).alloc (by simp) _).alloc (by simp; omega) _).alloc (by simp; omega) _


/-- what lies in the plan's block and in the result's -/
structure Lies (B j r h c : Nat) (w : World) : Prop where
  z : B + 3 < w.heap.size
  p0 : w.cell? ⟨B + 1 + 1 + 1, 0, none⟩ = some (.float .f32 j)
  p1 : w.cell? ⟨B + 1 + 1 + 1, 1, none⟩ = some (.float .f32 r)
  p2 : w.cell? ⟨B + 1 + 1 + 1, 2, none⟩ = some (.float .f32 h)
  p3 : w.cell? ⟨B + 1 + 1 + 1, 3, none⟩ = some (.float .f32 c)
  q0 : w.cell? ⟨B + 1, 0, none⟩ = some (.float .f32 0)
  q1 : w.cell? ⟨B + 1, 1, none⟩ = some (.float .f32 0)
  q2 : w.cell? ⟨B + 1, 2, none⟩ = some (.float .f32 0)
  q3 : w.cell? ⟨B + 1, 3, none⟩ = some (.float .f32 0)
  f0 : ∀ i, w.frozen? ⟨B + 1, i, none⟩ = false
  f3 : ∀ i, w.frozen? ⟨B + 1 + 1 + 1, i, none⟩ = false
  cj : w.cell? ⟨B, 0, none⟩ = some (.float .f32 j)

theorem Lies.below {B j r h c : Nat} {w w' : World} (l : Lies B j r h c w) (hb : Below w.heap.size w w') : Lies B j r h c w' := by
  have z := l.z
  have k (b i : Nat) (hbb : b ≤ B + 1 + 1 + 1) : w'.cell? ⟨b, i, none⟩ = w.cell? ⟨b, i, none⟩ := hb.cell (p := ⟨b, i, none⟩) (by show b < w.heap.size; omega)
  have f (b i : Nat) (hbb : b ≤ B + 1 + 1 + 1) : w'.frozen? ⟨b, i, none⟩ = w.frozen? ⟨b, i, none⟩ := hb.frozen (p := ⟨b, i, none⟩) (by show b < w.heap.size; omega)
  exact ⟨Nat.lt_of_lt_of_le z hb.size, by rw [k _ _ (by omega)]; exact l.p0, by rw [k _ _ (by omega)]; exact l.p1, by rw [k _ _ (by omega)]; exact l.p2, by rw [k _ _ (by omega)]; exact l.p3,
    by rw [k _ _ (by omega)]; exact l.q0, by rw [k _ _ (by omega)]; exact l.q1, by rw [k _ _ (by omega)]; exact l.q2, by rw [k _ _ (by omega)]; exact l.q3,
    fun i => by rw [f _ _ (by omega)]; exact l.f0 i, fun i => by rw [f _ _ (by omega)]; exact l.f3 i, by rw [k _ _ (by omega)]; exact l.cj⟩

theorem Lies.alloc {B j r h c : Nat} {w : World} (l : Lies B j r h c w) (o : Obj) : Lies B j r h c (w.alloc o) :=
  l.below ((Below.refl _ _).alloc (Nat.le_refl _) _)

theorem ne_block {b b' o o' : Nat} (h : b ≠ b' ∨ o ≠ o') : (⟨b, o, none⟩ : Addr) ≠ ⟨b', o', none⟩ := by
  intro e; injection e with e1 e2; omega

theorem Lies.set {B j r h c : Nat} {w : World} (l : Lies B j r h c w) (o x : Nat) (ho : o < 4) (h0 : o ≠ 0) :
    Lies B j (if o = 1 then x else r) (if o = 2 then x else h) (if o = 3 then x else c) (w.setCell ⟨B + 1 + 1 + 1, o, none⟩ (.float .f32 x)) := by
  have z := l.z
  have k (b i : Nat) (hne : b ≠ B + 1 + 1 + 1 ∨ i ≠ o) : (w.setCell ⟨B + 1 + 1 + 1, o, none⟩ (.float .f32 x)).cell? ⟨b, i, none⟩ = w.cell? ⟨b, i, none⟩ :=
    World.cell?_setCell_other w _ _ _ (ne_block (by omega))
  have kk (i : Nat) (v : Value) (hv : w.cell? ⟨B + 1 + 1 + 1, i, none⟩ = some v) (e : i = o) : (w.setCell ⟨B + 1 + 1 + 1, o, none⟩ (.float .f32 x)).cell? ⟨B + 1 + 1 + 1, i, none⟩ = some (.float .f32 x) := by
    subst e; exact World.cell?_setCell_same' w _ _ (by rw [hv]; rfl)
  refine ⟨by simpa using z, by rw [k _ _ (by omega)]; exact l.p0, ?_, ?_, ?_, by rw [k _ _ (by omega)]; exact l.q0, by rw [k _ _ (by omega)]; exact l.q1, by rw [k _ _ (by omega)]; exact l.q2, by rw [k _ _ (by omega)]; exact l.q3,
    fun i => by rw [World.frozen?_setCell]; exact l.f0 i, fun i => by rw [World.frozen?_setCell]; exact l.f3 i, by rw [k _ _ (by omega)]; exact l.cj⟩
  · by_cases e : o = 1
    · rw [if_pos e]; exact kk 1 _ l.p1 e.symm
    · rw [if_neg e, k _ _ (by omega)]; exact l.p1
  · by_cases e : o = 2
    · rw [if_pos e]; exact kk 2 _ l.p2 e.symm
    · rw [if_neg e, k _ _ (by omega)]; exact l.p2
  · by_cases e : o = 3
    · rw [if_pos e]; exact kk 3 _ l.p3 e.symm
    · rw [if_neg e, k _ _ (by omega)]; exact l.p3

theorem jlies (l m k j r h : Nat) (w : World) : Lies w.heap.size j r h 0 (jworld l m k j r h w) := by
  have k3 (i : Nat) : (jworld l m k j r h w).cell? ⟨w.heap.size + 1 + 1 + 1, i, none⟩ = #[Value.float .f32 j, .float .f32 r, .float .f32 h, .float .f32 0][i]? := by
    unfold jworld
    rw [World.cell?_alloc_at _ _ _ _ (by simp)]
  refine ⟨by simp [jworld], k3 0, k3 1, k3 2, k3 3, jres l m k j r h w 0 (by omega), jres l m k j r h w 1 (by omega), jres l m k j r h w 2 (by omega), jres l m k j r h w 3 (by omega), fun i => jfro1 l m k j r h w i, fun i => jfro3 l m k j r h w i, ?_⟩
  unfold jworld
  rw [World.cell?_alloc_past _ _ _ (by simp; omega), World.cell?_alloc_past _ _ _ (by simp; omega), World.cell?_alloc_past _ _ _ (by simp)]; simp

-- JerkPlan (8): a steep rise, a short way
theorem jerk_steep_short (l m k j : Nat) (J K M L : Rat) (hj : S j J) (hk : S k K) (hm : S m M) (hl : S l L) (j0 : 0 < J) (k0 : 0 < K) (m0 : 0 < M) (l0 : 0 < L)
    (o1 : floatBits .mul .f32 k k = some (fmul k k)) (o2 : floatBits .quo .f32 (fmul k k) j = some (fdiv (fmul k k) j))
    (hst : (FloatKind.f32.format.order (fdiv (fmul k k) j) m == some .gt) = true)
    (o3 : floatBits .quo .f32 m j = some (fdiv m j)) (q : Rat) (hq : S (fdiv m j) q) (q0 : 0 ≤ q) (q1 : q ≤ 9)
    (ok : WayOk j (froot (fdiv m j)) 0)
    (hle : (FloatKind.f32.format.order (wayW j (froot (fdiv m j)) 0) l == some .lt || FloatKind.f32.format.order (wayW j (froot (fdiv m j)) 0) l == some .eq) = true)
    (o6 : floatBits .sub .f32 l (wayW j (froot (fdiv m j)) 0) = some (fsub l (wayW j (froot (fdiv m j)) 0))) (c : Nat) (o7 : floatBits .quo .f32 (fsub l (wayW j (froot (fdiv m j)) 0)) (fmul (fmul j (froot (fdiv m j))) (fadd (froot (fdiv m j)) 0)) = some c)
    (R H C : Rat) (hr : S (froot (fdiv m j)) R) (hh : S 0 H) (hc : S c C) (R0 : 0 ≤ R) (H0 : 0 ≤ H) (C0 : 0 ≤ C) (w : World) :
    Calls Try.prog 8 #[.float .f32 l, .float .f32 m, .float .f32 k, .float .f32 j] w (RetPlan j (froot (fdiv m j)) 0 c w) := by
  have H4 := areMore_4 l m k j ⟨_, hl, l0⟩ ⟨_, hm, m0⟩ ⟨_, hk, k0⟩ ⟨_, hj, j0⟩
  have hsf := run_store_float
  have r1 := rop o1
  have r2 := rop o2
  have r3 := rop o3
  have HR := root_any _ q hq q0 (by grind)
  have HW := way_any j (froot (fdiv m j)) 0 w.heap.size ok
  have r6 := rop o6
  have r7 := rop o7
  have r8 := rop ok.a1
  have P3 := product_3 j (froot (fdiv m j)) (fadd (froot (fdiv m j)) 0) ok.m1 ok.m2
  have HP := isPlan_any j (froot (fdiv m j)) 0 c J R H C hj hr hh hc j0 R0 H0 C0
  clear hj hk hm hl j0 k0 m0 l0 o1 o2 o3 o6 o7 hr hh R0 H0 hq q0 q1 hc C0
  go_enter Try.func8, Try.ntmps8
  go_wp2_with (first | (go_at_call 11; refine (H4 _ _ (by simp)).mono ?_; rintro e w' ⟨rfl, rfl⟩) | (go_at_call 14; refine (HR _).mono ?_; rintro e w' ⟨rfl, rfl⟩) | (go_at_call 18; fail))
  have l0 := jlies l m k j (froot (fdiv m j)) 0 w
  refine (HW (jworld l m k j (froot (fdiv m j)) 0 w) l0.cj).mono ?_
  rintro e w1 ⟨rfl, hb1⟩
  have l1 := l0.below hb1
  have hB1 : Below w.heap.size w w1 := (jbelow l m k j (froot (fdiv m j)) 0 w).trans (hb1.mono (jbelow l m k j (froot (fdiv m j)) 0 w).size)
  clear l0 hb1
  obtain ⟨hz1, p0, p1, p2, p3, q0, q1, q2, q3, f0, f3, cj⟩ := id l1
  go_wp2_with (first | (go_at_call 19; refine (P3 _ _ (by simp)).mono ?_; rintro e w' ⟨rfl, rfl⟩) | (go_at_call 20; fail))
  refine (HP _).mono ?_
  rintro e w2 ⟨rfl, hb2⟩
  have l2 := ((l1.set 3 c (by omega) (by omega)).alloc _).below hb2
  have hB2 : Below w.heap.size w w2 := ((hB1.setCell (by show w.heap.size ≤ w.heap.size + 1 + 1 + 1; omega) _).alloc (by simp; omega) _).trans (hb2.mono (by simp; omega))
  clear p0 p1 p2 p3 q0 q1 q2 q3 f0 f3 cj hz1 hb2 l1 hB1
  obtain ⟨hz1, p0, p1, p2, p3, q0, q1, q2, q3, f0, f3, cj⟩ := l2
  simp only [Nat.reduceEqDiff, if_false, if_true] at p1 p2 p3
  go_wp2
  refine bodyPost_ret (v := .tuple #[.agg #[.float .f32 j, .float .f32 (froot (fdiv m j)), .float .f32 0, .float .f32 c], .bool true]) (by simp [results, Try.results8, go_sem, q0, q1, q2, q3]) rfl ⟨rfl, ?_⟩
  exact (((hB2.setCell (p := ⟨w.heap.size + 1, 0, none⟩) (Nat.le_succ _) _).setCell (p := ⟨w.heap.size + 1, 1, none⟩) (Nat.le_succ _) _).setCell (p := ⟨w.heap.size + 1, 2, none⟩) (Nat.le_succ _) _).setCell (p := ⟨w.heap.size + 1, 3, none⟩) (Nat.le_succ _) _

-- JerkPlan (8): a steep rise, a long way
theorem jerk_steep_long (l m k j : Nat) (J K M L : Rat) (hj : S j J) (hk : S k K) (hm : S m M) (hl : S l L) (j0 : 0 < J) (k0 : 0 < K) (m0 : 0 < M) (l0 : 0 < L)
    (o1 : floatBits .mul .f32 k k = some (fmul k k)) (o2 : floatBits .quo .f32 (fmul k k) j = some (fdiv (fmul k k) j))
    (hst : (FloatKind.f32.format.order (fdiv (fmul k k) j) m == some .gt) = true)
    (o3 : floatBits .quo .f32 m j = some (fdiv m j)) (q : Rat) (hq : S (fdiv m j) q) (q0 : 0 ≤ q) (q1 : q ≤ 9)
    (ok : WayOk j (froot (fdiv m j)) 0)
    (hle : (FloatKind.f32.format.order (wayW j (froot (fdiv m j)) 0) l == some .lt || FloatKind.f32.format.order (wayW j (froot (fdiv m j)) 0) l == some .eq) = false)
    (hb : ∀ i, i < 30 → BisOk j (froot (fdiv m j)) 0 (bis j (froot (fdiv m j)) 0 l i).1 (bis j (froot (fdiv m j)) 0 l i).2 (bisM j (froot (fdiv m j)) 0 l i))
    (o6 : floatBits .mul .f32 (bis j (froot (fdiv m j)) 0 l 30).1 (froot (fdiv m j)) = some (fmul (bis j (froot (fdiv m j)) 0 l 30).1 (froot (fdiv m j)))) (o7 : floatBits .mul .f32 (bis j (froot (fdiv m j)) 0 l 30).1 0 = some (fmul (bis j (froot (fdiv m j)) 0 l 30).1 0))
    (R H : Rat) (hr : S (fmul (bis j (froot (fdiv m j)) 0 l 30).1 (froot (fdiv m j))) R) (hh : S (fmul (bis j (froot (fdiv m j)) 0 l 30).1 0) H) (R0 : 0 ≤ R) (H0 : 0 ≤ H) (w : World) :
    Calls Try.prog 8 #[.float .f32 l, .float .f32 m, .float .f32 k, .float .f32 j] w (RetPlan j (fmul (bis j (froot (fdiv m j)) 0 l 30).1 (froot (fdiv m j))) (fmul (bis j (froot (fdiv m j)) 0 l 30).1 0) 0 w) := by
  have H4 := areMore_4 l m k j ⟨_, hl, l0⟩ ⟨_, hm, m0⟩ ⟨_, hk, k0⟩ ⟨_, hj, j0⟩
  have hsf := run_store_float
  have r1 := rop o1
  have r2 := rop o2
  have r3 := rop o3
  have HR := root_any _ q hq q0 (by grind)
  have HW := way_any j (froot (fdiv m j)) 0 w.heap.size ok
  have r6 := rop o6
  have r7 := rop o7
  have HP := isPlan_any j _ _ 0 J R H 0 hj hr hh s_zero j0 R0 H0 Rat.le_refl
  clear hj hk hm hl j0 k0 m0 l0 o1 o2 o3 o6 o7 hr hh R0 H0 hq q0 q1
  go_enter Try.func8, Try.ntmps8
  go_wp2_with (first | (go_at_call 11; refine (H4 _ _ (by simp)).mono ?_; rintro e w' ⟨rfl, rfl⟩) | (go_at_call 14; refine (HR _).mono ?_; rintro e w' ⟨rfl, rfl⟩) | (go_at_call 18; fail))
  have l0 := jlies l m k j (froot (fdiv m j)) 0 w
  refine (HW (jworld l m k j (froot (fdiv m j)) 0 w) l0.cj).mono ?_
  rintro e w1 ⟨rfl, hb1⟩
  have l1 := l0.below hb1
  have hB1 : Below w.heap.size w w1 := (jbelow l m k j (froot (fdiv m j)) 0 w).trans (hb1.mono (jbelow l m k j (froot (fdiv m j)) 0 w).size)
  clear l0 hb1
  obtain ⟨hz1, p0, p1, p2, p3, q0, q1, q2, q3, f0, f3, cj⟩ := id l1
  go_wp2
  go_loopw [14, 15, 76] (fun lo hi i wr => ∃ n : Nat, n ≤ 30 ∧ i = .int .i64 n ∧ lo = .float .f32 (bis j (froot (fdiv m j)) 0 l n).1 ∧ hi = .float .f32 (bis j (froot (fdiv m j)) 0 l n).2 ∧ Lies w.heap.size j (froot (fdiv m j)) 0 0 wr ∧ Below w.heap.size w wr) (fun _ _ i _ => 30 - (intOf i).toNat)
  case atStart => exact ⟨0, by omega, rfl, rfl, rfl, l1, hB1⟩
  case round =>
    clear p0 p1 p2 p3 q0 q1 q2 q3 f0 f3 cj hz1 l1 hB1
    obtain ⟨n, hn, rfl, rfl, rfl, l1, hB1⟩ := hrel
    by_cases hlt : n < 30
    · have o := hb n hlt
      have e1 : (bis j (froot (fdiv m j)) 0 l (n + 1)) = if (Ieee.single.order (wayW j (fmul (bisM j (froot (fdiv m j)) 0 l n) (froot (fdiv m j))) (fmul (bisM j (froot (fdiv m j)) 0 l n) 0)) l == some .lt || Ieee.single.order (wayW j (fmul (bisM j (froot (fdiv m j)) 0 l n) (froot (fdiv m j))) (fmul (bisM j (froot (fdiv m j)) 0 l n) 0)) l == some .eq) = true then (bisM j (froot (fdiv m j)) 0 l n, (bis j (froot (fdiv m j)) 0 l n).2) else ((bis j (froot (fdiv m j)) 0 l n).1, bisM j (froot (fdiv m j)) 0 l n) := rfl
      have s1 := rop o.a
      have s2 := rop o.d
      have s3 := rop o.m1
      have s4 := rop o.m2
      have HW2 := way_any j _ _ w.heap.size o.w
      have E1 := Lib.hid e1
      clear hb r6 r7 HP HW o e1 ok hle
      obtain ⟨hz1, p0, p1, p2, p3, q0, q1, q2, q3, f0, f3, cj⟩ := id l1
      generalize bisM j (froot (fdiv m j)) 0 l n = mm at *
      generalize (bis j (froot (fdiv m j)) 0 l n).1 = lo at *
      generalize (bis j (froot (fdiv m j)) 0 l n).2 = hi at *
      go_wp2_with (go_at_call 18; fail)
      refine (HW2 wr cj).mono ?_
      rintro e w2 ⟨rfl, hb2⟩
      have l2 := l1.below hb2
      have hB2 := hB1.trans (hb2.mono hB1.size)
      clear p0 p1 p2 p3 q0 q1 q2 q3 f0 f3 cj hz1 l1 hB1 hb2
      by_cases hcm : (Ieee.single.order (wayW j (fmul mm (froot (fdiv m j))) (fmul mm 0)) l == some .lt || Ieee.single.order (wayW j (fmul mm (froot (fdiv m j))) (fmul mm 0)) l == some .eq) = true
      · have hcm' : (FloatKind.f32.format.order (wayW j (fmul mm (froot (fdiv m j))) (fmul mm 0)) l == some .lt || FloatKind.f32.format.order (wayW j (fmul mm (froot (fdiv m j))) (fmul mm 0)) l == some .eq) = true := hcm
        have E2 : Hid (bis j (froot (fdiv m j)) 0 l (n + 1) = (mm, hi)) := by rw [E1.out, if_pos hcm]; exact rfl
        clear E1 hcm
        go_wp2
        go_roundw
        case rel => exact ⟨n + 1, by omega, by go_num, by rw [E2.out], by rw [E2.out], l2, hB2⟩
        case measure => simp [intOf]; omega
      · have hcm' : (FloatKind.f32.format.order (wayW j (fmul mm (froot (fdiv m j))) (fmul mm 0)) l == some .lt || FloatKind.f32.format.order (wayW j (fmul mm (froot (fdiv m j))) (fmul mm 0)) l == some .eq) = false := Bool.eq_false_iff.2 hcm
        have E2 : Hid (bis j (froot (fdiv m j)) 0 l (n + 1) = (lo, mm)) := by rw [E1.out, if_neg hcm]; exact rfl
        clear E1 hcm
        go_wp2
        go_roundw
        case rel => exact ⟨n + 1, by omega, by go_num, by rw [E2.out], by rw [E2.out], l2, hB2⟩
        case measure => simp [intOf]; omega
    · have hn30 : n = 30 := by omega
      subst hn30
      clear hb HW
      obtain ⟨hz1, p0, p1, p2, p3, q0, q1, q2, q3, f0, f3, cj⟩ := id l1
      go_wp2_with (go_at_call 20; fail)
      refine (HP _).mono ?_
      rintro e w2 ⟨rfl, hb2⟩
      have l2 := ((l1.set 1 (fmul (bis j (froot (fdiv m j)) 0 l 30).1 (froot (fdiv m j))) (by omega) (by omega)).set 2 (fmul (bis j (froot (fdiv m j)) 0 l 30).1 0) (by omega) (by omega)).below hb2
      have hB2 : Below w.heap.size w w2 := ((hB1.setCell (by show w.heap.size ≤ w.heap.size + 1 + 1 + 1; omega) _).setCell (by show w.heap.size ≤ w.heap.size + 1 + 1 + 1; omega) _).trans (hb2.mono (by simp; omega))
      clear p0 p1 p2 p3 q0 q1 q2 q3 f0 f3 cj hz1 hb2 l1 hB1
      obtain ⟨hz1, p0, p1, p2, p3, q0, q1, q2, q3, f0, f3, cj⟩ := l2
      simp only [Nat.reduceEqDiff, if_false, if_true] at p1 p2 p3
      go_wp2
      refine bodyPost_ret (v := .tuple #[.agg #[.float .f32 j, .float .f32 (fmul (bis j (froot (fdiv m j)) 0 l 30).1 (froot (fdiv m j))), .float .f32 (fmul (bis j (froot (fdiv m j)) 0 l 30).1 0), .float .f32 0], .bool true]) (by simp [results, Try.results8, go_sem, q0, q1, q2, q3]) rfl ⟨rfl, ?_⟩
      exact (((hB2.setCell (p := ⟨w.heap.size + 1, 0, none⟩) (Nat.le_succ _) _).setCell (p := ⟨w.heap.size + 1, 1, none⟩) (Nat.le_succ _) _).setCell (p := ⟨w.heap.size + 1, 2, none⟩) (Nat.le_succ _) _).setCell (p := ⟨w.heap.size + 1, 3, none⟩) (Nat.le_succ _) _

-- JerkPlan (8): a flat rise, a short way
theorem jerk_flat_short (l m k j : Nat) (J K M L : Rat) (hj : S j J) (hk : S k K) (hm : S m M) (hl : S l L) (j0 : 0 < J) (k0 : 0 < K) (m0 : 0 < M) (l0 : 0 < L)
    (o1 : floatBits .mul .f32 k k = some (fmul k k)) (o2 : floatBits .quo .f32 (fmul k k) j = some (fdiv (fmul k k) j))
    (hst : (FloatKind.f32.format.order (fdiv (fmul k k) j) m == some .gt) = false)
    (o3 : floatBits .quo .f32 k j = some (fdiv k j)) (o4 : floatBits .quo .f32 m k = some (fdiv m k)) (o5 : floatBits .sub .f32 (fdiv m k) (fdiv k j) = some (fsub (fdiv m k) (fdiv k j)))
    (ok : WayOk j (fdiv k j) (fsub (fdiv m k) (fdiv k j)))
    (hle : (FloatKind.f32.format.order (wayW j (fdiv k j) (fsub (fdiv m k) (fdiv k j))) l == some .lt || FloatKind.f32.format.order (wayW j (fdiv k j) (fsub (fdiv m k) (fdiv k j))) l == some .eq) = true)
    (o6 : floatBits .sub .f32 l (wayW j (fdiv k j) (fsub (fdiv m k) (fdiv k j))) = some (fsub l (wayW j (fdiv k j) (fsub (fdiv m k) (fdiv k j))))) (c : Nat) (o7 : floatBits .quo .f32 (fsub l (wayW j (fdiv k j) (fsub (fdiv m k) (fdiv k j)))) (fmul (fmul j (fdiv k j)) (fadd (fdiv k j) (fsub (fdiv m k) (fdiv k j)))) = some c)
    (R H C : Rat) (hr : S (fdiv k j) R) (hh : S (fsub (fdiv m k) (fdiv k j)) H) (hc : S c C) (R0 : 0 ≤ R) (H0 : 0 ≤ H) (C0 : 0 ≤ C) (w : World) :
    Calls Try.prog 8 #[.float .f32 l, .float .f32 m, .float .f32 k, .float .f32 j] w (RetPlan j (fdiv k j) (fsub (fdiv m k) (fdiv k j)) c w) := by
  have H4 := areMore_4 l m k j ⟨_, hl, l0⟩ ⟨_, hm, m0⟩ ⟨_, hk, k0⟩ ⟨_, hj, j0⟩
  have hsf := run_store_float
  have r1 := rop o1
  have r2 := rop o2
  have r3 := rop o3
  have r4 := rop o4
  have r5 := rop o5
  have HW := way_any j (fdiv k j) (fsub (fdiv m k) (fdiv k j)) w.heap.size ok
  have r6 := rop o6
  have r7 := rop o7
  have r8 := rop ok.a1
  have P3 := product_3 j (fdiv k j) (fadd (fdiv k j) (fsub (fdiv m k) (fdiv k j))) ok.m1 ok.m2
  have HP := isPlan_any j (fdiv k j) (fsub (fdiv m k) (fdiv k j)) c J R H C hj hr hh hc j0 R0 H0 C0
  clear hj hk hm hl j0 k0 m0 l0 o1 o2 o3 o6 o7 hr hh R0 H0 o4 o5 hc C0
  go_enter Try.func8, Try.ntmps8
  go_wp2_with (first | (go_at_call 11; refine (H4 _ _ (by simp)).mono ?_; rintro e w' ⟨rfl, rfl⟩) | (go_at_call 18; fail))
  have l0 := jlies l m k j (fdiv k j) (fsub (fdiv m k) (fdiv k j)) w
  refine (HW (jworld l m k j (fdiv k j) (fsub (fdiv m k) (fdiv k j)) w) l0.cj).mono ?_
  rintro e w1 ⟨rfl, hb1⟩
  have l1 := l0.below hb1
  have hB1 : Below w.heap.size w w1 := (jbelow l m k j (fdiv k j) (fsub (fdiv m k) (fdiv k j)) w).trans (hb1.mono (jbelow l m k j (fdiv k j) (fsub (fdiv m k) (fdiv k j)) w).size)
  clear l0 hb1
  obtain ⟨hz1, p0, p1, p2, p3, q0, q1, q2, q3, f0, f3, cj⟩ := id l1
  go_wp2_with (first | (go_at_call 19; refine (P3 _ _ (by simp)).mono ?_; rintro e w' ⟨rfl, rfl⟩) | (go_at_call 20; fail))
  refine (HP _).mono ?_
  rintro e w2 ⟨rfl, hb2⟩
  have l2 := ((l1.set 3 c (by omega) (by omega)).alloc _).below hb2
  have hB2 : Below w.heap.size w w2 := ((hB1.setCell (by show w.heap.size ≤ w.heap.size + 1 + 1 + 1; omega) _).alloc (by simp; omega) _).trans (hb2.mono (by simp; omega))
  clear p0 p1 p2 p3 q0 q1 q2 q3 f0 f3 cj hz1 hb2 l1 hB1
  obtain ⟨hz1, p0, p1, p2, p3, q0, q1, q2, q3, f0, f3, cj⟩ := l2
  simp only [Nat.reduceEqDiff, if_false, if_true] at p1 p2 p3
  go_wp2
  refine bodyPost_ret (v := .tuple #[.agg #[.float .f32 j, .float .f32 (fdiv k j), .float .f32 (fsub (fdiv m k) (fdiv k j)), .float .f32 c], .bool true]) (by simp [results, Try.results8, go_sem, q0, q1, q2, q3]) rfl ⟨rfl, ?_⟩
  exact (((hB2.setCell (p := ⟨w.heap.size + 1, 0, none⟩) (Nat.le_succ _) _).setCell (p := ⟨w.heap.size + 1, 1, none⟩) (Nat.le_succ _) _).setCell (p := ⟨w.heap.size + 1, 2, none⟩) (Nat.le_succ _) _).setCell (p := ⟨w.heap.size + 1, 3, none⟩) (Nat.le_succ _) _

-- JerkPlan (8): a flat rise, a long way
theorem jerk_flat_long (l m k j : Nat) (J K M L : Rat) (hj : S j J) (hk : S k K) (hm : S m M) (hl : S l L) (j0 : 0 < J) (k0 : 0 < K) (m0 : 0 < M) (l0 : 0 < L)
    (o1 : floatBits .mul .f32 k k = some (fmul k k)) (o2 : floatBits .quo .f32 (fmul k k) j = some (fdiv (fmul k k) j))
    (hst : (FloatKind.f32.format.order (fdiv (fmul k k) j) m == some .gt) = false)
    (o3 : floatBits .quo .f32 k j = some (fdiv k j)) (o4 : floatBits .quo .f32 m k = some (fdiv m k)) (o5 : floatBits .sub .f32 (fdiv m k) (fdiv k j) = some (fsub (fdiv m k) (fdiv k j)))
    (ok : WayOk j (fdiv k j) (fsub (fdiv m k) (fdiv k j)))
    (hle : (FloatKind.f32.format.order (wayW j (fdiv k j) (fsub (fdiv m k) (fdiv k j))) l == some .lt || FloatKind.f32.format.order (wayW j (fdiv k j) (fsub (fdiv m k) (fdiv k j))) l == some .eq) = false)
    (hb : ∀ i, i < 30 → BisOk j (fdiv k j) (fsub (fdiv m k) (fdiv k j)) (bis j (fdiv k j) (fsub (fdiv m k) (fdiv k j)) l i).1 (bis j (fdiv k j) (fsub (fdiv m k) (fdiv k j)) l i).2 (bisM j (fdiv k j) (fsub (fdiv m k) (fdiv k j)) l i))
    (o6 : floatBits .mul .f32 (bis j (fdiv k j) (fsub (fdiv m k) (fdiv k j)) l 30).1 (fdiv k j) = some (fmul (bis j (fdiv k j) (fsub (fdiv m k) (fdiv k j)) l 30).1 (fdiv k j))) (o7 : floatBits .mul .f32 (bis j (fdiv k j) (fsub (fdiv m k) (fdiv k j)) l 30).1 (fsub (fdiv m k) (fdiv k j)) = some (fmul (bis j (fdiv k j) (fsub (fdiv m k) (fdiv k j)) l 30).1 (fsub (fdiv m k) (fdiv k j))))
    (R H : Rat) (hr : S (fmul (bis j (fdiv k j) (fsub (fdiv m k) (fdiv k j)) l 30).1 (fdiv k j)) R) (hh : S (fmul (bis j (fdiv k j) (fsub (fdiv m k) (fdiv k j)) l 30).1 (fsub (fdiv m k) (fdiv k j))) H) (R0 : 0 ≤ R) (H0 : 0 ≤ H) (w : World) :
    Calls Try.prog 8 #[.float .f32 l, .float .f32 m, .float .f32 k, .float .f32 j] w (RetPlan j (fmul (bis j (fdiv k j) (fsub (fdiv m k) (fdiv k j)) l 30).1 (fdiv k j)) (fmul (bis j (fdiv k j) (fsub (fdiv m k) (fdiv k j)) l 30).1 (fsub (fdiv m k) (fdiv k j))) 0 w) := by
  have H4 := areMore_4 l m k j ⟨_, hl, l0⟩ ⟨_, hm, m0⟩ ⟨_, hk, k0⟩ ⟨_, hj, j0⟩
  have hsf := run_store_float
  have r1 := rop o1
  have r2 := rop o2
  have r3 := rop o3
  have r4 := rop o4
  have r5 := rop o5
  have HW := way_any j (fdiv k j) (fsub (fdiv m k) (fdiv k j)) w.heap.size ok
  have r6 := rop o6
  have r7 := rop o7
  have HP := isPlan_any j _ _ 0 J R H 0 hj hr hh s_zero j0 R0 H0 Rat.le_refl
  clear hj hk hm hl j0 k0 m0 l0 o1 o2 o3 o6 o7 hr hh R0 H0 o4 o5
  go_enter Try.func8, Try.ntmps8
  go_wp2_with (first | (go_at_call 11; refine (H4 _ _ (by simp)).mono ?_; rintro e w' ⟨rfl, rfl⟩) | (go_at_call 18; fail))
  have l0 := jlies l m k j (fdiv k j) (fsub (fdiv m k) (fdiv k j)) w
  refine (HW (jworld l m k j (fdiv k j) (fsub (fdiv m k) (fdiv k j)) w) l0.cj).mono ?_
  rintro e w1 ⟨rfl, hb1⟩
  have l1 := l0.below hb1
  have hB1 : Below w.heap.size w w1 := (jbelow l m k j (fdiv k j) (fsub (fdiv m k) (fdiv k j)) w).trans (hb1.mono (jbelow l m k j (fdiv k j) (fsub (fdiv m k) (fdiv k j)) w).size)
  clear l0 hb1
  obtain ⟨hz1, p0, p1, p2, p3, q0, q1, q2, q3, f0, f3, cj⟩ := id l1
  go_wp2
  go_loopw [14, 15, 76] (fun lo hi i wr => ∃ n : Nat, n ≤ 30 ∧ i = .int .i64 n ∧ lo = .float .f32 (bis j (fdiv k j) (fsub (fdiv m k) (fdiv k j)) l n).1 ∧ hi = .float .f32 (bis j (fdiv k j) (fsub (fdiv m k) (fdiv k j)) l n).2 ∧ Lies w.heap.size j (fdiv k j) (fsub (fdiv m k) (fdiv k j)) 0 wr ∧ Below w.heap.size w wr) (fun _ _ i _ => 30 - (intOf i).toNat)
  case atStart => exact ⟨0, by omega, rfl, rfl, rfl, l1, hB1⟩
  case round =>
    clear p0 p1 p2 p3 q0 q1 q2 q3 f0 f3 cj hz1 l1 hB1
    obtain ⟨n, hn, rfl, rfl, rfl, l1, hB1⟩ := hrel
    by_cases hlt : n < 30
    · have o := hb n hlt
      have e1 : (bis j (fdiv k j) (fsub (fdiv m k) (fdiv k j)) l (n + 1)) = if (Ieee.single.order (wayW j (fmul (bisM j (fdiv k j) (fsub (fdiv m k) (fdiv k j)) l n) (fdiv k j)) (fmul (bisM j (fdiv k j) (fsub (fdiv m k) (fdiv k j)) l n) (fsub (fdiv m k) (fdiv k j)))) l == some .lt || Ieee.single.order (wayW j (fmul (bisM j (fdiv k j) (fsub (fdiv m k) (fdiv k j)) l n) (fdiv k j)) (fmul (bisM j (fdiv k j) (fsub (fdiv m k) (fdiv k j)) l n) (fsub (fdiv m k) (fdiv k j)))) l == some .eq) = true then (bisM j (fdiv k j) (fsub (fdiv m k) (fdiv k j)) l n, (bis j (fdiv k j) (fsub (fdiv m k) (fdiv k j)) l n).2) else ((bis j (fdiv k j) (fsub (fdiv m k) (fdiv k j)) l n).1, bisM j (fdiv k j) (fsub (fdiv m k) (fdiv k j)) l n) := rfl
      have s1 := rop o.a
      have s2 := rop o.d
      have s3 := rop o.m1
      have s4 := rop o.m2
      have HW2 := way_any j _ _ w.heap.size o.w
      have E1 := Lib.hid e1
      clear hb r6 r7 HP HW o e1 ok hle
      obtain ⟨hz1, p0, p1, p2, p3, q0, q1, q2, q3, f0, f3, cj⟩ := id l1
      generalize bisM j (fdiv k j) (fsub (fdiv m k) (fdiv k j)) l n = mm at *
      generalize (bis j (fdiv k j) (fsub (fdiv m k) (fdiv k j)) l n).1 = lo at *
      generalize (bis j (fdiv k j) (fsub (fdiv m k) (fdiv k j)) l n).2 = hi at *
      go_wp2_with (go_at_call 18; fail)
      refine (HW2 wr cj).mono ?_
      rintro e w2 ⟨rfl, hb2⟩
      have l2 := l1.below hb2
      have hB2 := hB1.trans (hb2.mono hB1.size)
      clear p0 p1 p2 p3 q0 q1 q2 q3 f0 f3 cj hz1 l1 hB1 hb2
      by_cases hcm : (Ieee.single.order (wayW j (fmul mm (fdiv k j)) (fmul mm (fsub (fdiv m k) (fdiv k j)))) l == some .lt || Ieee.single.order (wayW j (fmul mm (fdiv k j)) (fmul mm (fsub (fdiv m k) (fdiv k j)))) l == some .eq) = true
      · have hcm' : (FloatKind.f32.format.order (wayW j (fmul mm (fdiv k j)) (fmul mm (fsub (fdiv m k) (fdiv k j)))) l == some .lt || FloatKind.f32.format.order (wayW j (fmul mm (fdiv k j)) (fmul mm (fsub (fdiv m k) (fdiv k j)))) l == some .eq) = true := hcm
        have E2 : Hid (bis j (fdiv k j) (fsub (fdiv m k) (fdiv k j)) l (n + 1) = (mm, hi)) := by rw [E1.out, if_pos hcm]; exact rfl
        clear E1 hcm
        go_wp2
        go_roundw
        case rel => exact ⟨n + 1, by omega, by go_num, by rw [E2.out], by rw [E2.out], l2, hB2⟩
        case measure => simp [intOf]; omega
      · have hcm' : (FloatKind.f32.format.order (wayW j (fmul mm (fdiv k j)) (fmul mm (fsub (fdiv m k) (fdiv k j)))) l == some .lt || FloatKind.f32.format.order (wayW j (fmul mm (fdiv k j)) (fmul mm (fsub (fdiv m k) (fdiv k j)))) l == some .eq) = false := Bool.eq_false_iff.2 hcm
        have E2 : Hid (bis j (fdiv k j) (fsub (fdiv m k) (fdiv k j)) l (n + 1) = (lo, mm)) := by rw [E1.out, if_neg hcm]; exact rfl
        clear E1 hcm
        go_wp2
        go_roundw
        case rel => exact ⟨n + 1, by omega, by go_num, by rw [E2.out], by rw [E2.out], l2, hB2⟩
        case measure => simp [intOf]; omega
    · have hn30 : n = 30 := by omega
      subst hn30
      clear hb HW
      obtain ⟨hz1, p0, p1, p2, p3, q0, q1, q2, q3, f0, f3, cj⟩ := id l1
      go_wp2_with (go_at_call 20; fail)
      refine (HP _).mono ?_
      rintro e w2 ⟨rfl, hb2⟩
      have l2 := ((l1.set 1 (fmul (bis j (fdiv k j) (fsub (fdiv m k) (fdiv k j)) l 30).1 (fdiv k j)) (by omega) (by omega)).set 2 (fmul (bis j (fdiv k j) (fsub (fdiv m k) (fdiv k j)) l 30).1 (fsub (fdiv m k) (fdiv k j))) (by omega) (by omega)).below hb2
      have hB2 : Below w.heap.size w w2 := ((hB1.setCell (by show w.heap.size ≤ w.heap.size + 1 + 1 + 1; omega) _).setCell (by show w.heap.size ≤ w.heap.size + 1 + 1 + 1; omega) _).trans (hb2.mono (by simp; omega))
      clear p0 p1 p2 p3 q0 q1 q2 q3 f0 f3 cj hz1 hb2 l1 hB1
      obtain ⟨hz1, p0, p1, p2, p3, q0, q1, q2, q3, f0, f3, cj⟩ := l2
      simp only [Nat.reduceEqDiff, if_false, if_true] at p1 p2 p3
      go_wp2
      refine bodyPost_ret (v := .tuple #[.agg #[.float .f32 j, .float .f32 (fmul (bis j (fdiv k j) (fsub (fdiv m k) (fdiv k j)) l 30).1 (fdiv k j)), .float .f32 (fmul (bis j (fdiv k j) (fsub (fdiv m k) (fdiv k j)) l 30).1 (fsub (fdiv m k) (fdiv k j))), .float .f32 0], .bool true]) (by simp [results, Try.results8, go_sem, q0, q1, q2, q3]) rfl ⟨rfl, ?_⟩
      exact (((hB2.setCell (p := ⟨w.heap.size + 1, 0, none⟩) (Nat.le_succ _) _).setCell (p := ⟨w.heap.size + 1, 1, none⟩) (Nat.le_succ _) _).setCell (p := ⟨w.heap.size + 1, 2, none⟩) (Nat.le_succ _) _).setCell (p := ⟨w.heap.size + 1, 3, none⟩) (Nat.le_succ _) _

end Go.Proofs.Ytpkcbofeoklpbaa
