/- Walks: the law FnDashes. -/
import Derived.Test.YtojbgeimlipajaaW17
namespace Go.Proofs.Ytojbgeimlipajaa
open Go.RowKit Fl

theorem quarter (r : Nat) (h : r ≤ 100) : ∃ a, S a (((2 + r : Nat) : Rat) / 4) ∧ ∀ t w', (binOp .quo t (.float .f32 (floatOfInt .f32 (2 + (r : Int)))) (.float .f32 1082130432)).run Try.prog w' = .ok (.float .f32 a) w' := by
  obtain ⟨h1, h2⟩ := q4_ok (2 + (r : Int)) (by omega)
  refine ⟨q4W (2 + (r : Int)), ?_, rop h1⟩
  have e : (((2 + r : Nat) : Int) : Rat) = ((2 + r : Nat) : Rat) := by exact_mod_cast rfl
  rw [← e]
  exact h2

set_option maxRecDepth 100000 in
set_option maxHeartbeats 4000000 in
theorem walk (a0 : Option Addr) (len0 cap0 : Nat) (z0 : List Int) (a1 : Option Addr) (len1 cap1 : Nat) (z1 : List Int) (w : World) (w0 : IsRow .u8 w a0 len0 cap0 z0) (w1 : IsRow .u8 w a1 len1 cap1 z1) :
    Calls Try.prog 3 #[.slice a0 len0 cap0, .slice a1 len1 cap1] w fun e w' => e = .returned (.bool true) ∧ Below w.heap.size w w' := by
  have HL := long_any a0 a1 len0 cap0 len1 cap1 w
  by_cases hlong : (decide ((1048576 : Int) < len0) || decide ((1048576 : Int) < len1)) = true
  · rw [hlong] at HL
    go_enter Try.func3, Try.ntmps3
    go_wp2_with (go_at_call 4; (with_reducible refine HL.mono ?_); rintro e w' ⟨rfl, rfl⟩)
    go_ret
    exact ⟨rfl, Below.refl _ _⟩
  rw [Bool.eq_false_iff.2 hlong] at HL
  clear hlong
  -- what the law reads
  obtain ⟨n6, hn6, A0⟩ := at_any a1 len1 cap1 z1 w w1 0 6 (by omega) (by omega) (by omega)
  obtain ⟨p7, hp7, A1⟩ := at_any a1 len1 cap1 z1 w w1 1 7 (by omega) (by omega) (by omega)
  obtain ⟨o7, ho7, A2⟩ := at_any a1 len1 cap1 z1 w w1 2 7 (by omega) (by omega) (by omega)
  replace A0 : ∀ w', Below w.heap.size w w' → Calls Try.prog 6 #[.slice a1 len1 cap1, .int .i64 0, .int .i64 6] w' fun e w'' => e = .returned (.int .i64 (n6 : Int)) ∧ w' = w'' := A0
  replace A1 : ∀ w', Below w.heap.size w w' → Calls Try.prog 6 #[.slice a1 len1 cap1, .int .i64 1, .int .i64 7] w' fun e w'' => e = .returned (.int .i64 (p7 : Int)) ∧ w' = w'' := A1
  replace A2 : ∀ w', Below w.heap.size w w' → Calls Try.prog 6 #[.slice a1 len1 cap1, .int .i64 2, .int .i64 7] w' fun e w'' => e = .returned (.int .i64 (o7 : Int)) ∧ w' = w'' := A2
  obtain ⟨N, hN⟩ : ∃ N, 2 + n6 = N + 1 := ⟨1 + n6, by omega⟩
  have HP : Calls Try.prog 5 #[.slice a0 len0 cap0, .int .i64 (2 + (n6 : Int))] w (Drawn w (N + 1)) := by
    have := path_any a0 len0 cap0 z0 (N + 1) w w0 (by omega)
    have e : ((N + 1 : Nat) : Int) = 2 + (n6 : Int) := by omega
    rw [e] at this; exact this
  clear w0 w1
  obtain ⟨a, sa, qa⟩ := quarter p7 (by omega)
  obtain ⟨b, sb, qb⟩ := quarter o7 (by omega)
  have B0 := A0 w (Below.refl _ _)
  have i60 : (0 : Int) ≤ (n6 : Int) := by omega
  have i61 : (n6 : Int) < 6 := by omega
  have i70 : (0 : Int) ≤ (p7 : Int) := by omega
  have i71 : (p7 : Int) < 7 := by omega
  have i80 : (0 : Int) ≤ (o7 : Int) := by omega
  have i81 : (o7 : Int) < 7 := by omega
  have HA1 := Lib.hid A1
  have HA2 := Lib.hid A2
  clear A0 A1 A2
  go_enter Try.func3, Try.ntmps3
  go_wp2_with (first
    | (go_at_call 4; (with_reducible refine HL.mono ?_); rintro e w' ⟨rfl, rfl⟩)
    | (go_at_call 6; (with_reducible refine B0.mono ?_); rintro e w' ⟨rfl, rfl⟩)
    | (go_at_call 5; (with_reducible refine HP.mono ?_); rintro e w2 ⟨xs, g, c, hok, hlen, rfl, hB2, hg0, hg1, hcells⟩))
  obtain ⟨pw, hpN, hpP⟩ := path_mk xs hok (by omega) (by omega)
  obtain rfl : N = pw.N := by omega
  have hpts : IsPts w2 g (pw.N + 1) pw.P := ⟨hg1, fun k hk => by rw [hpP]; exact hcells k hk⟩
  clear hcells hpP hpN hlen hok HL B0 HP hg0 hg1
  have n1 : (1 : Int) ≤ (pw.N : Int) := by have := pw.n0; omega
  have n6 : (pw.N : Int) ≤ 6 := by have := pw.n6; omega
  go_loopg [6, 7] pw.N (fun gk v6 v7 wr => ∃ k : Nat, gk + k = pw.N ∧ v6 = .float .f64 (totW pw.P k) ∧ v7 = .int .i64 ((k : Int) + 1) ∧ Below w2.heap.size w2 wr)
  case atStart => exact ⟨0, rfl, rfl, rfl, Below.refl _ _⟩
  case round =>
    obtain ⟨k, hgk, rfl, rfl, hB⟩ := hrel
    have k0 : (0 : Int) ≤ (k : Int) := by omega
    by_cases hlt : k < pw.N
    · have hp := hpts.below hB
      have c0 := hp.2 k (by omega)
      have c1 := hp.2 (k + 1) (by omega)
      obtain ⟨s1, s2, lk⟩ := pw.segs k (by omega)
      have hd := cdif s1 s2
      have L : ∀ w', Calls Try.prog 7 #[.complex .f32 (fsub (pw.P (k + 1)).1 (pw.P k).1) (fsub (pw.P (k + 1)).2 (pw.P k).2)] w' fun e w'' => e = .returned (.float .f32 (longW (subP (pw.P (k + 1)) (pw.P k)))) ∧ w' = w'' := specLong_any _ lk
      have hu := cup lk.ul
      have ha := rop ((tot_near pw pw.N (Nat.le_refl _)).1 k hlt)
      rw [Nat.zero_add] at c0 c1
      unfold cx at c0 c1
      have k1 : (k : Int) + 1 < (pw.N : Int) + 1 := by omega
      have k2 : (k : Int) < (pw.N : Int) + 1 := by omega
      have k3 : (0 : Int) ≤ (k : Int) + 1 := by omega
      have tn : ((k : Int) + 1).toNat = k + 1 := by omega
      have wk : IntKind.i64.wrap (k : Int) = (k : Int) := by rw [IntKind.wrap_i64]; omega
      clear s1 s2 lk hp
      go_wp2
      go_quiet ((go_at_call 7; exact Calls.quiet_of_same ((L _).mono (fun e w' h => ⟨h.1, h.2.symm⟩))))
      go_wp2
      go_roundg (gk - 1)
      case measure => omega
      case rel => exact ⟨k + 1, by omega, rfl, by go_num, below_drewN hB _⟩
    · obtain rfl : k = pw.N := by omega
      have p2 : 2 ≤ 2 + p7 := by omega
      have p8 : 2 + p7 ≤ 8 := by omega
      have o2 : 2 ≤ 2 + o7 := by omega
      have o8 : 2 + o7 ≤ 8 := by omega
      have hp2 : (2 : Rat) ≤ ((2 + p7 : Nat) : Rat) := cast_le (n := 2) p2
      have hp8 : ((2 + p7 : Nat) : Rat) ≤ 8 := cast_le (m := 8) p8
      have ho2 : (2 : Rat) ≤ ((2 + o7 : Nat) : Rat) := cast_le (n := 2) o2
      have ho8 : ((2 + o7 : Nat) : Rat) ≤ 8 := cast_le (m := 8) o8
      obtain ⟨r0, sr, hR1⟩ := run_main (w := pw) sa sb (by grind) (by grind) (by grind) (by grind)
      obtain ⟨M, hLaw⟩ := law_in (w := pw) p2 p8 o2 o8 sa sb sr
      obtain ⟨r2, I2, hR2, hO2⟩ := run_whole pw
      obtain ⟨r3, st3, I3, hR3, hO3⟩ := run_none pw
      have hBw : Below w.heap.size w wr := hB2.trans (hB.mono hB2.size)
      have C1 := HA1.out wr hBw
      have C2 := HA2.out wr hBw
      have hpw := hpts.below hB
      have D1 := dash_at (c := c) hpw hR1 ⟨_, sa, by grind⟩ ⟨_, sb, by grind⟩ rfl
      have mk2 : ∀ w3, IsPts w3 g (pw.N + 1) pw.P → Calls Try.prog 8 #[.slice (some ⟨g, 0, none⟩) (pw.N + 1) c, .slice (some ⟨w3.heap.size, 0, none⟩) 2 2, .float .f32 0] (w3.alloc (.cells #[.float .f32 1148846080, .float .f32 1065353216] 28)) (DashGot w3 [pathL pw.P pw.N] 1) := fun w3 h3 => by
        have := dash_at (c := c) h3 hR2 ⟨_, s_thousand, by decide +kernel⟩ ⟨_, s_one, by decide +kernel⟩ rfl
        rw [hO2] at this
        exact this
      have mk3 : ∀ w3, IsPts w3 g (pw.N + 1) pw.P → Calls Try.prog 8 #[.slice (some ⟨g, 0, none⟩) (pw.N + 1) c, .slice (some ⟨w3.heap.size, 0, none⟩) 2 2, .float .f32 1065353216] (w3.alloc (.cells #[.float .f32 1065353216, .float .f32 1148846080] 28)) (DashGot w3 [] 0) := fun w3 h3 => by
        have := dash_at (c := c) h3 hR3 ⟨_, s_one, by decide +kernel⟩ ⟨_, s_thousand, by decide +kernel⟩ rfl
        rw [hO3] at this
        exact this
      have MK2 := Lib.hid mk2
      have MK3 := Lib.hid mk3
      clear mk2 mk3 hR1 hR2 hR3 hO2 hO3 HA1 HA2 hpts hB sr sa sb hp2 hp8 ho2 ho8
      generalize outsD (runD a b pw.P pw.N ⟨0, r0, [], [pw.P 0]⟩) = outs at *
      have o1 : (1 : Int) ≤ (outs.length : Int) := by have := hLaw.o1; omega
      have o16 : (outs.length : Int) ≤ 16 := by have := hLaw.o16; omega
      have hLaw' := Lib.hid hLaw
      clear hLaw
      go_wp2_with (first
        | (go_at_call 6; (with_reducible refine C1.mono ?_); rintro e w' ⟨rfl, rfl⟩)
        | (go_at_call 6; (with_reducible refine C2.mono ?_); rintro e w' ⟨rfl, rfl⟩)
        | (go_at_call 8; (with_reducible refine D1.mono ?_); rintro e w3 ⟨base3, g3, c3, vs3, rfl, hB3, hM3⟩; have hp3 := hpw.below hB3; have hBw3 := hBw.trans (hB3.mono hBw.size); have D2 := MK2.out w3 hp3)
        | (go_at_call 8; (with_reducible refine D2.mono ?_); rintro e w4 ⟨base4, g4, c4, vs4, rfl, hB4, hM4⟩; have hp4 := hp3.below hB4; have hBw4 := hBw3.trans (hB4.mono hBw3.size); have hM34 := hM3.below hB4; have D3 := MK3.out w4 hp4)
        | (go_at_call 8; (with_reducible refine D3.mono ?_); rintro e w5 ⟨base5, g5, c5, vs5, rfl, hB5, hM5⟩; have hp5 := hp4.below hB5; have hBw5 := hBw4.trans (hB5.mono hBw4.size); have hM35 := hM34.below hB5; obtain ⟨g6, c6, h6, h6'⟩ := whole_cells (hM4.below hB5); have SA := sameAll_any g6 0 (pw.N + 1) c6 g 0 c pw.P w5 (by omega) h6' hp5.2 pw.fin; clear h6')
        | (go_at_call 9; (with_reducible refine SA.mono ?_); rintro e w6 ⟨rfl, q6, hq6⟩))
      clear SA h6 D1 D2 D3 C1 C2 MK2 MK3 hM3 hM34 hM4 hM5 hp3 hp4 hpw qa qb hq6
      have hM7 := hM35.drewN q6
      have hp7' := hp5.below (below_drewN (Below.refl _ _) q6)
      have hBw7 := below_drewN hBw5 q6
      clear hM35 hp5 hBw5 hBw3 hBw4
      generalize w5.drewN q6 = w7 at *
      go_loopg [16, 120] outs.length (fun gk v16 v120 wr => ∃ k : Nat, gk + k = outs.length ∧ v16 = .float .f64 (sumD outs k) ∧ v120 = .int .i64 (k : Int) ∧ Below w7.heap.size w7 wr)
      case atStart => exact ⟨0, rfl, rfl, rfl, Below.refl _ _⟩
      case round =>
        obtain ⟨k, hgk, rfl, rfl, hB⟩ := hrel
        have k0 : (0 : Int) ≤ (k : Int) := by omega
        have k16 : (k : Int) ≤ 16 := by omega
        by_cases hlt : k < outs.length
        · have k1 : (k : Int) < (outs.length : Int) := by omega
          obtain ⟨hg3, g', c', d1, d2, d3⟩ := hM7.dashAt k hlt
          have hlook := hLaw'.out.look k hlt
          have hsum := rop (hLaw'.out.sum k hlt)
          obtain ⟨ps, hps⟩ : ∃ ps, ps = outs.getD k [] := ⟨_, rfl⟩
          rw [← hps] at d1 d3 hlook hsum
          have HPS := Lib.hid hps
          clear hps
          have e1 := (hB.cell (p := ⟨g3, k, none⟩) hg3).trans d1
          have n2 := hlook.two
          have n9 := hlook.n9
          have n2' : (2 : Int) ≤ (ps.length : Int) := by omega
          have n9' : (ps.length : Int) ≤ 9 := by omega
          have hgt := hlook.gt
          have hltl := hlook.lt
          have hua := cup hlook.ua
          have hpp := rop hlook.p
          have hmm := rop hlook.m
          have hpc := Lib.hid hlook.pc
          have hD3 := Lib.hid d3
          clear hlook d3
          unfold dCenti at hpp hmm hgt hltl
          go_wp2
          go_loopg [18, 19] ps.length (fun gk v18 v19 wr => ∃ i : Nat, gk + i = ps.length ∧ i + 1 ≤ ps.length ∧ v18 = .float .f64 (lenW ps i) ∧ v19 = .int .i64 ((i : Int) + 1) ∧ Below w7.heap.size w7 wr)
          case atStart => exact ⟨0, rfl, by omega, rfl, rfl, hB⟩
          case round =>
            clear e1
            obtain ⟨i, hgi, hil, rfl, rfl, hBi⟩ := hrel
            have i0 : (0 : Int) ≤ (i : Int) := by omega
            have e2 := (hBi.cell (p := ⟨g3, k, none⟩) hg3).trans d1
            by_cases hli : i + 1 < ps.length
            · have hp := hpc.out i hli
              have c0 := (hBi.cell (p := ⟨g', i, none⟩) d2).trans (hD3.out i (by omega))
              have c1 := (hBi.cell (p := ⟨g', i + 1, none⟩) d2).trans (hD3.out (i + 1) hli)
              have hd := cdif hp.s1 hp.s2
              have L : ∀ w', Calls Try.prog 7 #[.complex .f32 (fsub (ps.getD (i + 1) (0, 0)).1 (ps.getD i (0, 0)).1) (fsub (ps.getD (i + 1) (0, 0)).2 (ps.getD i (0, 0)).2)] w' fun e w'' => e = .returned (.float .f32 (longW (subP (ps.getD (i + 1) (0, 0)) (ps.getD i (0, 0))))) ∧ w' = w'' := specLong_any _ hp.lk
              have hu := cup hp.lk.ul
              have ha := rop hp.a
              unfold cx at c0 c1
              generalize ps.getD (i + 1) (0, 0) = pt1 at *
              generalize ps.getD i (0, 0) = pt0 at *
              have i1 : (i : Int) + 1 < (ps.length : Int) := by omega
              have i2 : (i : Int) < (ps.length : Int) := by omega
              have i3 : (0 : Int) ≤ (i : Int) + 1 := by omega
              have tn : ((i : Int) + 1).toNat = i + 1 := by omega
              have wi : IntKind.i64.wrap (i : Int) = (i : Int) := by rw [IntKind.wrap_i64]; omega
              clear hp
              go_wp2
              go_quiet ((go_at_call 7; exact Calls.quiet_of_same ((L _).mono (fun e w' h => ⟨h.1, h.2.symm⟩))))
              go_wp2
              go_roundg (ps.length - (i + 1))
              case measure => omega
              case rel => exact ⟨i + 1, by omega, by omega, rfl, by go_num, below_drewN hBi _⟩
            · have hi : i + 1 = ps.length := by omega
              have hdl : lenW ps i = dashLen ps := by unfold dashLen; rw [← hi]; rfl
              rw [hdl]
              have i1 : ¬ (i : Int) + 1 < (ps.length : Int) := by omega
              clear hdl
              by_cases hk1 : k + 1 < outs.length
              · have hltk := hltl hk1
                have k2 : (k : Int) + 1 < (outs.length : Int) := by omega
                clear hltl
                go_wp2
                go_roundg (outs.length - (k + 1))
                case measure => omega
                case rel => exact ⟨k + 1, by omega, rfl, by go_num, hBi⟩
              · have k2 : ¬ (k : Int) + 1 < (outs.length : Int) := by omega
                clear hltl
                go_wp2
                go_roundg (outs.length - (k + 1))
                case measure => omega
                case rel => exact ⟨k + 1, by omega, rfl, by go_num, hBi⟩
        · obtain rfl : k = outs.length := by omega
          go_wp2
          have hua := cup hLaw'.out.ua
          have hub := cup hLaw'.out.ub
          have hab := rop hLaw'.out.ab
          go_loopg [20, 21] M (fun gk v20 v21 wr => ∃ k : Nat, gk + k = M ∧ v20 = .float .f64 (wantW a b (totW pw.P pw.N) k) ∧ v21 = .float .f64 (atW a b k) ∧ Below w7.heap.size w7 wr)
          case atStart => exact ⟨0, rfl, rfl, rfl, hB⟩
          case round =>
            clear hB
            obtain ⟨m, hgm, rfl, rfl, hB⟩ := hrel
            by_cases hm : m < M
            · have h1 := hLaw'.out.lt m hm
              have h2 := rop (hLaw'.out.step m hm)
              have hw := hLaw'.out.want m hm
              have h3 := rop hw.s
              have h4 := fmin_run hw.o
              have h5 := rop hw.a
              clear hw
              go_wp2
              go_roundg (M - (m + 1))
              case measure => omega
              case rel => exact ⟨m + 1, by omega, rfl, rfl, hB⟩
            · obtain rfl : m = M := by omega
              have h1 := hLaw'.out.ge
              obtain ⟨x, y, d, hx, hy, hd, hdl⟩ := hLaw'.out.gap
              have G : ∀ w', Calls Try.prog 10 #[.float .f64 (sumD outs outs.length), .float .f64 (wantW a b (totW pw.P pw.N) m)] w' fun e w'' => e = .returned (.float .f64 d) ∧ w' = w'' := gap_any _ _ d x y hx hy hd
              unfold dTwenty at hdl
              obtain ⟨hg3, g', c', d1, d2, d3⟩ := hM7.dashAt 0 (by omega)
              have hfirst := hLaw'.out.first
              have hlk := (hLaw'.out.look 0 (by omega)).two
              have e0 := d3 0 (by omega)
              rw [hfirst] at e0
              generalize outs.getD 0 [] = ps at *
              have c1 := (hB.cell (p := ⟨g3, 0, none⟩) hg3).trans d1
              have c2 := (hB.cell (p := ⟨g', 0, none⟩) d2).trans e0
              have hpr := hp7'.below hB
              have c3' := hpr.2 0 (by omega)
              rw [Nat.zero_add] at c3'
              obtain ⟨x0, y0, hx0, hy0⟩ := pw.fin 0 (by omega)
              have q1 := ceq_t hx0 hx0 rfl
              have q2 := ceq_t hy0 hy0 rfl
              unfold cx at c2 c3'
              have n0 : (0 : Int) < (ps.length : Int) := by omega
              have n00 : (0 : Int) < (outs.length : Int) := by omega
              have n01 : (0 : Int) < (pw.N : Int) + 1 := by omega
              clear hfirst e0 d3 d1 hx hy hd hpr hx0 hy0
              go_wp2
              go_quiet ((go_at_call 10; exact Calls.quiet_of_same ((G _).mono (fun e w' h => ⟨h.1, h.2.symm⟩))))
              go_wp2
              go_ret
              exact ⟨rfl, below_drewN (hBw7.trans (hB.mono hBw7.size)) _⟩
end Go.Proofs.Ytojbgeimlipajaa
