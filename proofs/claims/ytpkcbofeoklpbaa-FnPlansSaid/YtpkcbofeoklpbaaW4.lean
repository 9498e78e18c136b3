/- Walk: PlanWay. -/
import Derived.Test.YtpkcbofeoklpbaaW3
import Derived.Test.YtpkcbofeoklpbaaWay4
namespace Go.Proofs.Ytpkcbofeoklpbaa
open Go.RowKit Fl

theorem neg_pure (a : Nat) : ∀ w, (Op.unary .neg (.float .f32 a)).run Try.prog w = .ok (.float .f32 (Op.negFloat .f32 a)) w := fun _ => rfl

theorem run_store_float (a : Addr) (k : FloatKind) (b : Nat) (m : Mode) (w : World) : (store a (.float k b) m).run Try.prog w = stored Try.prog w a (.float k b) m := run_store Try.prog w a _ m rfl

theorem idx_run (r h c k : Nat) (hk : k < 7) : ∀ w, (Instr.index 50 (.agg #[.float .f32 r, .float .f32 h, .float .f32 r, .float .f32 c, .float .f32 r, .float .f32 h, .float .f32 r]) (.int .i64 k)).run Try.prog w = .ok (.float .f32 (wd r h c k)) w := by
  match k, hk with
  | 0, _ => exact fun _ => by kernel_rfl
  | 1, _ => exact fun _ => by kernel_rfl
  | 2, _ => exact fun _ => by kernel_rfl
  | 3, _ => exact fun _ => by kernel_rfl
  | 4, _ => exact fun _ => by kernel_rfl
  | 5, _ => exact fun _ => by kernel_rfl
  | 6, _ => exact fun _ => by kernel_rfl

-- PlanWay (10)
theorem planWay_any (j r h c t : Nat) (J R H C tv z : Rat) (hj : S j J) (hr : S r R) (hh : S h H) (hc : S c C) (ht : S t tv) (j0 : 0 < J) (r0 : 0 ≤ R) (h0 : 0 ≤ H) (c0 : 0 ≤ C) (t0 : 0 ≤ tv)
    (hf : ∀ i, i < 7 → Fine7 j r h c t i) (hz : S (pst j r h c t 7).x z) (w : World) :
    Calls Try.prog 10 #[.agg #[.float .f32 j, .float .f32 r, .float .f32 h, .float .f32 c], .float .f32 t] w fun e w' => e = .returned (.tuple #[.float .f32 (pst j r h c t 7).x, .bool true]) ∧ Below w.heap.size w w' := by
  have HP := isPlan_any j r h c J R H C hj hr hh hc j0 r0 h0 c0
  have g1 := cge_t ht s_zero t0
  have n1 := neg_pure j
  have hsf := run_store_float
  have HF := isFinite_any t tv ht
  clear hj hr hh hc ht j0 r0 h0 c0 t0
  go_enter Try.func10, Try.ntmps10
  go_wp2_with (first | (go_at_call 20; refine (HP _).mono ?_; rintro e w1 ⟨rfl, hb1⟩; obtain ⟨hcl, hfl⟩ := bcell hb1; have hz1 : w.heap.size < w1.heap.size := by have := hb1.size; simp at this; omega) | (go_at_call 17; refine (HF _).mono ?_; rintro e w' ⟨rfl, rfl⟩))
  have hB0 : Below w.heap.size w ((w1.alloc (.cells #[.float .f32 r, .float .f32 h, .float .f32 r, .float .f32 c, .float .f32 r, .float .f32 h, .float .f32 r] 50)).alloc (.cells #[.float .f32 j, .float .f32 0, .float .f32 (Op.negFloat .f32 j), .float .f32 0, .float .f32 (Op.negFloat .f32 j), .float .f32 0, .float .f32 j] 50)) :=
    ((((Below.refl _ _).alloc (Nat.le_refl _) _).trans (hb1.mono (by simp))).alloc (by omega) _).alloc (by simp; omega) _
  have hjc : ∀ k, k < 7 → ((w1.alloc (.cells #[.float .f32 r, .float .f32 h, .float .f32 r, .float .f32 c, .float .f32 r, .float .f32 h, .float .f32 r] 50)).alloc (.cells #[.float .f32 j, .float .f32 0, .float .f32 (Op.negFloat .f32 j), .float .f32 0, .float .f32 (Op.negFloat .f32 j), .float .f32 0, .float .f32 j] 50)).cell? ⟨w1.heap.size + 1, k, none⟩ = some (.float .f32 (wj j k)) :=
    fun k hk => match k, hk with
    | 0, _ => by simp [World.cell?_alloc_at, wj]
    | 1, _ => by simp [World.cell?_alloc_at, wj]
    | 2, _ => by simp [World.cell?_alloc_at, wj]
    | 3, _ => by simp [World.cell?_alloc_at, wj]
    | 4, _ => by simp [World.cell?_alloc_at, wj]
    | 5, _ => by simp [World.cell?_alloc_at, wj]
    | 6, _ => by simp [World.cell?_alloc_at, wj]
  have hsz : ((w1.alloc (.cells #[.float .f32 r, .float .f32 h, .float .f32 r, .float .f32 c, .float .f32 r, .float .f32 h, .float .f32 r] 50)).alloc (.cells #[.float .f32 j, .float .f32 0, .float .f32 (Op.negFloat .f32 j), .float .f32 0, .float .f32 (Op.negFloat .f32 j), .float .f32 0, .float .f32 j] 50)).heap.size = w1.heap.size + 2 := by simp
  obtain ⟨W0, hW0⟩ : ∃ W0, ((w1.alloc (.cells #[.float .f32 r, .float .f32 h, .float .f32 r, .float .f32 c, .float .f32 r, .float .f32 h, .float .f32 r] 50)).alloc (.cells #[.float .f32 j, .float .f32 0, .float .f32 (Op.negFloat .f32 j), .float .f32 0, .float .f32 (Op.negFloat .f32 j), .float .f32 0, .float .f32 j] 50)) = W0 := ⟨_, rfl⟩
  rw [hW0] at hB0 hjc hsz ⊢
  have hsz' : w1.heap.size + 1 < W0.heap.size := by omega
  clear hW0 hsz hcl hfl hb1 HP HF n1 g1
  go_loopw [1, 6, 7, 8, 54] (fun tt x v a i wr => ∃ k : Nat, k ≤ 7 ∧ i = .int .i64 k ∧ tt = .float .f32 (pst j r h c t k).t ∧ x = .float .f32 (pst j r h c t k).x ∧ v = .float .f32 (pst j r h c t k).v ∧ a = .float .f32 (pst j r h c t k).a ∧ Below W0.heap.size W0 wr) (fun _ _ _ _ i _ => 7 - (intOf i).toNat)
  case atStart => exact ⟨0, by omega, rfl, rfl, rfl, rfl, rfl, Below.refl _ _⟩
  case round =>
    obtain ⟨k, hk, rfl, rfl, rfl, rfl, rfl, hb⟩ := hrel
    by_cases hlt : k < 7
    · have hjk : wr.cell? ⟨w1.heap.size + 1, k, none⟩ = some (.float .f32 (wj j k)) := by
        have := hb.cell (p := ⟨w1.heap.size + 1, k, none⟩) hsz'
        rw [this]; exact hjc k hlt
      obtain ⟨ok, hsub⟩ := hf k hlt
      have hix := idx_run r h c k hlt
      have e1 : (pst j r h c t (k + 1)).x = nx (pst j r h c t k).x (pst j r h c t k).v (pst j r h c t k).a (wmin (pst j r h c t k).t (wd r h c k)) (wj j k) := rfl
      have e2 : (pst j r h c t (k + 1)).v = nv (pst j r h c t k).v (pst j r h c t k).a (wmin (pst j r h c t k).t (wd r h c k)) (wj j k) := rfl
      have e3 : (pst j r h c t (k + 1)).a = na (pst j r h c t k).a (wmin (pst j r h c t k).t (wd r h c k)) (wj j k) := rfl
      have e4 : (pst j r h c t (k + 1)).t = fsub (pst j r h c t k).t (wmin (pst j r h c t k).t (wd r h c k)) := rfl
      generalize pst j r h c t k = q at *
      generalize wd r h c k = d at *
      generalize wj j k = jj at *
      clear hf hjc hz
      by_cases hcm : (Ieee.single.order q.t d == some .lt) = true
      · have hw : wmin q.t d = q.t := by unfold wmin; rw [hcm]; rfl
        have hcm' : (FloatKind.f32.format.order q.t d == some .lt) = true := hcm
        rw [hw] at e1 e2 e3 e4 ok hsub
        have P1 := product_4 wHalf q.a q.t q.t ok.m1 ok.m2 ok.m3
        have P2 := product_4 jj q.t q.t q.t ok.n1 ok.n2 ok.n3
        have P3 := product_4 wHalf jj q.t q.t ok.k1 ok.k2 ok.k3
        have r1 := rop ok.q
        have r2 := rop ok.vs
        have r3 := rop ok.s1
        have r4 := rop ok.s2
        have r5 := rop ok.sx
        have r6 := rop ok.as
        have r7 := rop ok.s3
        have r8 := rop ok.sv
        have r9 := rop ok.sa
        have r10 := rop ok.n1
        have r11 := rop hsub
        have E1 := Lib.hid e1
        have E2 := Lib.hid e2
        have E3 := Lib.hid e3
        have E4 := Lib.hid e4
        clear ok hsub e1 e2 e3 e4 hw hcm
        go_wp2_with (first | (go_at_call 19; (with_reducible refine (P1 _ _ ?_).mono ?_); simp; rintro e w' ⟨rfl, rfl⟩) | (go_at_call 19; (with_reducible refine (P2 _ _ ?_).mono ?_); simp; rintro e w' ⟨rfl, rfl⟩) | (go_at_call 19; (with_reducible refine (P3 _ _ ?_).mono ?_); simp; rintro e w' ⟨rfl, rfl⟩))
        go_roundw
        case rel => exact ⟨k + 1, by omega, by go_num, by rw [E4.out], by rw [E1.out]; rfl, by rw [E2.out]; rfl, by rw [E3.out]; rfl, ((hb.alloc hb.size _).alloc (by have := hb.size; simp; omega) _).alloc (by have := hb.size; simp; omega) _⟩
        case measure => simp [intOf]; omega
      · have hw : wmin q.t d = d := by unfold wmin; rw [if_neg hcm]
        have hcm' : (FloatKind.f32.format.order q.t d == some .lt) = false := Bool.eq_false_iff.2 hcm
        rw [hw] at e1 e2 e3 e4 ok hsub
        have P1 := product_4 wHalf q.a d d ok.m1 ok.m2 ok.m3
        have P2 := product_4 jj d d d ok.n1 ok.n2 ok.n3
        have P3 := product_4 wHalf jj d d ok.k1 ok.k2 ok.k3
        have r1 := rop ok.q
        have r2 := rop ok.vs
        have r3 := rop ok.s1
        have r4 := rop ok.s2
        have r5 := rop ok.sx
        have r6 := rop ok.as
        have r7 := rop ok.s3
        have r8 := rop ok.sv
        have r9 := rop ok.sa
        have r10 := rop ok.n1
        have r11 := rop hsub
        have E1 := Lib.hid e1
        have E2 := Lib.hid e2
        have E3 := Lib.hid e3
        have E4 := Lib.hid e4
        clear ok hsub e1 e2 e3 e4 hw hcm
        go_wp2_with (first | (go_at_call 19; (with_reducible refine (P1 _ _ ?_).mono ?_); simp; rintro e w' ⟨rfl, rfl⟩) | (go_at_call 19; (with_reducible refine (P2 _ _ ?_).mono ?_); simp; rintro e w' ⟨rfl, rfl⟩) | (go_at_call 19; (with_reducible refine (P3 _ _ ?_).mono ?_); simp; rintro e w' ⟨rfl, rfl⟩))
        go_roundw
        case rel => exact ⟨k + 1, by omega, by go_num, by rw [E4.out], by rw [E1.out]; rfl, by rw [E2.out]; rfl, by rw [E3.out]; rfl, ((hb.alloc hb.size _).alloc (by have := hb.size; simp; omega) _).alloc (by have := hb.size; simp; omega) _⟩
        case measure => simp [intOf]; omega
    · have hk7 : k = 7 := by omega
      subst hk7
      clear hf hjc
      go_wp2_with (go_at_call 21; refine (ifNumber_any _ _ hz _).mono ?_; rintro e w' ⟨rfl, rfl⟩)
      go_ret2
      exact ⟨rfl, hB0.trans (hb.mono hB0.size)⟩
end Go.Proofs.Ytpkcbofeoklpbaa
