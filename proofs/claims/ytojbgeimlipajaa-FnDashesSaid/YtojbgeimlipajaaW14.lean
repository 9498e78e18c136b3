/- Walks: DashPath. -/
import Derived.Test.YtojbgeimlipajaaW13
namespace Go.Proofs.Ytojbgeimlipajaa
open Go.RowKit Fl

set_option maxRecDepth 100000 in
set_option maxHeartbeats 4000000 in
-- DashPath (8)
theorem dashPath_any (w : World) (b off cap pg poff pc pa pb N c r0 start : Nat) (P : Nat → Pt) (st : Nat → Nat) (I : Nat → Nat → DS → Prop) (h : DashIn w b off cap pg poff pa pb N P) (hr : RunIn P N c r0 pa pb start st I) :
    Calls Try.prog 8 #[.slice (some ⟨b, off, none⟩) (N + 1) cap, .slice (some ⟨pg, poff, none⟩) 2 pc, .float .f32 start] w (DashOut w (outsD (runD pa pb P N ⟨c, r0, [], [P 0]⟩))) := by
  obtain ⟨i0, hi, hz0, hz1, hz2⟩ := info_parts info30
  obtain ⟨j0, hj, hy0, hy1, hy2⟩ := info_parts info24
  obtain ⟨sv, hsv, sv0⟩ := hr.fin
  have hF := isFinite_any start sv hsv
  have hge : (FloatKind.f32.format.order start 0 == some .gt || FloatKind.f32.format.order start 0 == some .eq) = true := by
    by_cases hz : sv = 0
    · rw [ceq_t hsv s_zero hz]; simp
    · rw [cgt_t hsv s_zero (by grind)]; rfl
  have h1 := h.below ((Below.refl _ w).alloc (Nat.le_refl _) (.cells #[.slice (some ⟨pg, poff, none⟩) 2 pc] 34))
  have HP := h1.isPath
  have n6 : (N : Int) ≤ 6 := by have := h.n6; omega
  have n1 : (1 : Int) ≤ (N : Int) := by have := h.n1; omega
  have hH := Lib.hid h
  have hR := Lib.hid hr
  clear h hr h1
  go_enter Try.func8, Try.ntmps8
  go_wp2_with (first
    | (go_at_call 14; (with_reducible refine HP.mono ?_); rintro e w2 ⟨rfl, hb2⟩; have hb2' : Below w.heap.size w w2 := (((Below.refl _ w).alloc (Nat.le_refl _) _).trans (hb2.mono (by simp))); have hin2 := hH.out.below hb2'; have HA := hin2.areMore pc; have hbox : w2.heap[w.heap.size]? = some (.cells #[.slice (some ⟨pg, poff, none⟩) 2 pc] 34 (0, 0)) := (hb2.block w.heap.size (by simp)).trans (World.alloc_heap_new _ _); have hcell : w2.cell? ⟨w.heap.size, 0, none⟩ = some (.slice (some ⟨pg, poff, none⟩) 2 pc) := cell_of_one hbox; clear hin2)
    | (go_at_call 15; (with_reducible refine HA.mono ?_); rintro e w' ⟨rfl, rfl⟩)
    | (go_at_call 16; (with_reducible refine (hF _).mono ?_); rintro e w' ⟨rfl, rfl⟩))
  have bx0 : Boxes w (w2.alloc (.cells #[.int .i64 0] 3)) w.heap.size w2.heap.size (w2.heap.size + 1) (.slice (some ⟨pg, poff, none⟩) 2 pc) ((0 : Nat) : Int) :=
    ⟨hb2'.alloc hb2'.size _, Nat.le_refl _, by have := hb2.size; simp at this; omega, Nat.lt_succ_self _, by simp, by rw [heap_alloc_old _ _ (by have := hb2.size; simp at this; omega)]; exact hbox, World.alloc_heap_new _ _⟩
  have c1 := hR.out.c1
  clear HA hcell hbox hb2 HP hge
  generalize w2.heap.size = b8 at *
  generalize w2.alloc (.cells #[.int .i64 0] 3) = w3 at *
  go_loopg [2] c (fun gk v2 wr => ∃ k : Nat, gk + k = c ∧ v2 = .float .f32 (st k) ∧ Boxes w wr w.heap.size b8 (b8 + 1) (.slice (some ⟨pg, poff, none⟩) 2 pc) (k : Int))
  case atStart => exact ⟨0, rfl, by rw [hR.out.s0], bx0⟩
  case round =>
    clear bx0
    obtain ⟨k, hgk, rfl, bx⟩ := hrel
    have HC := current_bx hH.out bx (by omega)
    have cc := cell_of_one bx.cb
    have fc := free_of_one bx.cb
    have k0 : (0 : Int) ≤ (k : Int) := by omega
    have k1 : (k : Int) ≤ 1 := by omega
    by_cases hlt : k < c
    · obtain ⟨m1, m2⟩ := hR.out.more k hlt
      have m3 := rop m2
      clear m2
      go_wp2_with (first
        | (go_at_call 17; (with_reducible refine HC.mono ?_); rintro e w4 ⟨rfl, hg4⟩; have bx4 := bx.quiet hg4; have HC4 := current_bx hH.out bx4 (by omega))
        | (go_at_call 17; (with_reducible refine HC4.mono ?_); rintro e w5 ⟨rfl, hg5⟩; have bx5 := bx4.quiet hg5; have cc5 := cell_of_one bx5.cb; have fc5 := free_of_one bx5.cb))
      have bx6 := bx5.set ((k : Int) + 1)
      go_roundg (c - (k + 1))
      case measure => omega
      case rel => exact ⟨k + 1, by omega, rfl, bx6⟩
    · obtain rfl : k = c := by omega
      have m1 := hR.out.done
      have m2 := rop hR.out.rest
      go_wp2_with (first
        | (go_at_call 17; (with_reducible refine HC.mono ?_); rintro e w4 ⟨rfl, hg4⟩; have bx4 := bx.quiet hg4; have HC4 := current_bx hH.out bx4 (by omega))
        | (go_at_call 17; (with_reducible refine HC4.mono ?_); rintro e w5 ⟨rfl, hg5⟩; have bx5 := bx4.quiet hg5; have cc5 := cell_of_one bx5.cb; have fc5 := free_of_one bx5.cb; have hp0 : ∀ o, (w5.alloc o).cell? ⟨b, off, none⟩ = some (cx (P 0)) := (fun o => (hH.out.below (bx5.alloc o).bel).pts 0 (by omega)); unfold cx at hp0))
      have hm0 := mem_start bx5.sz ⟨k, r0, [], [P 0]⟩ (P 0) rfl rfl
      have bx6 := (bx5.alloc (.cells #[] 24)).alloc (.cells #[cx (P 0)] 30)
      have hi0 := hR.out.i0
      clear m1 m2 hg4 hg5 bx4 HC4 HC cc fc cc5 fc5 hp0 hF hsv
      unfold cx at hm0 bx6
      generalize ((w5.alloc (Obj.cells #[] 24)).alloc (Obj.cells #[Value.complex FloatKind.f32 (P 0).fst (P 0).snd] 30)) = w6 at *
      clear bx5
      generalize w5.heap.size = h5 at *
      go_loopg [10, 13, 14, 15] N (fun gk v10 v13 v14 v15 wr => ∃ i s vs, gk + i = N ∧ Rel2 w b8 (.slice (some ⟨pg, poff, none⟩) 2 pc) pa pb P N ⟨k, r0, [], [P 0]⟩ I i s vs v10 v13 v14 v15 wr)
      case atStart => exact ⟨0, _, _, rfl, Nat.zero_le _, rfl, hi0, rfl, rfl, bx6, hm0⟩
      case round =>
        clear hm0 bx6 hi0
        obtain ⟨i, s, vs, hgi, hle, heq, hinv, rfl, rfl, bx, hM⟩ := hrel
        have i0 : (0 : Int) ≤ (i : Int) := by omega
        by_cases hlt : i < N
        · have hD := hH.out.below bx.bel
          have c0 := hD.pts i (by omega)
          have c1' := hD.pts (i + 1) (by omega)
          obtain ⟨s1, s2, lk⟩ := hD.seg i (by omega)
          have M := minus_pl _ _ s1 s2
          have L := long_pl _ _ lk
          unfold cx at c0 c1'
          have i1 : (i : Int) + 1 < (N : Int) + 1 := by omega
          have i2 : (i : Int) < (N : Int) + 1 := by omega
          have i3 : (0 : Int) ≤ (i : Int) + 1 := by omega
          have tn : ((i : Int) + 1).toNat = i + 1 := by omega
          have wk : IntKind.i64.wrap (i : Int) = (i : Int) := by rw [IntKind.wrap_i64]; omega
          have hE := Lib.hid heq
          have hI := Lib.hid hinv
          clear hD s1 s2 lk heq hinv
          go_wp2
          go_quiet (fail)
          have bxq := bx.drewN nq
          have hMq := hM.drewN nq
          clear c0 c1' bx hM
          generalize wr.drewN nq = wq at *
          go_wp2_with (first
            | (go_at_call 20; (with_reducible refine (M _).mono ?_); rintro e w' ⟨rfl, rfl⟩)
            | (go_at_call 19; (with_reducible refine (L _).mono ?_); rintro e w' ⟨rfl, rfl⟩))
          have bd0 := (hR.out.bd _ _ _ hI.out).1
          go_loopg [10, 13, 14, 19] (40 - s.cnt) (fun gk v10 v13 v14 v19 wr => ∃ f g s' vs', gk + s'.cnt = 40 ∧ Rel3 w b8 (.slice (some ⟨pg, poff, none⟩) 2 pc) pa pb P i (segGo pa pb 50 (P i) (P (i + 1)) 0 s) I f g s' vs' v10 v13 v14 v19 wr)
          case atStart => exact ⟨50, 0, s, vs, by omega, by omega, rfl, hI.out, rfl, rfl, bxq, hMq⟩
          case round =>
            clear bxq hMq bd0
            obtain ⟨f, g, s', vs', hgk', hfu, hseg, hinv', rfl, rfl, bx', hM'⟩ := hrel
            obtain ⟨b31, b16, b7⟩ := hR.out.bd _ _ _ hinv'
            obtain ⟨f, rfl⟩ : ∃ f', f = f' + 1 := ⟨f - 1, by omega⟩
            have msub := rop (hR.out.sub i g s' hlt hinv')
            have hlen := hM'.len
            have g0 : (0 : Int) ≤ (s'.cnt : Int) := by omega
            have g1 : (s'.cnt : Int) ≤ 31 := by omega
            have e1 : (vs'.length : Int) ≤ 16 := by omega
            have e0 : (0 : Int) ≤ (vs'.length : Int) := by omega
            by_cases hc : condW (P i) (P (i + 1)) g s'.rest = true
            · obtain ⟨hcut, hinv2⟩ := hR.out.cut i g s' hlt hinv' hc
              have mc : (FloatKind.f32.format.order (fsub (longW (subP (P (i + 1)) (P i))) g) s'.rest == some .gt) = true := hc
              have madd := rop hcut.a
              have mquo := rop hcut.pl.d
              have SC := scale_pl hcut.pl
              have PL := plus_pl hcut.pl
              have hseg' : segGo pa pb f (P i) (P (i + 1)) (fadd g s'.rest) (stepD pa pb (P i) (P (i + 1)) g s') = segGo pa pb 50 (P i) (P (i + 1)) 0 s := by
                rw [← hseg]
                show _ = if condW (P i) (P (i + 1)) g s'.rest = true then _ else _
                rw [if_pos hc]
              have cc := cell_of_one bx'.cb
              have hI2 := Lib.hid hinv2
              have hS2 := Lib.hid hseg'
              clear hseg hseg' hinv' hinv2 hcut hc hlen
              by_cases hev : s'.cnt % 2 = 0
              · have ID := isDash_e b8 s'.cnt wr cc (by omega) hev
                have hdl := b7 hev
                have hMd : Mem wr (b8 + 1) u13 u14 vs' s'.out (some s'.dash) := by
                  have e : dashO s' = some s'.dash := if_pos hev
                  rw [← e]; exact hM'
                clear hM'
                go_wp2_with (first
                  | (go_at_call 20; (with_reducible refine (M _).mono ?_); rintro e w' ⟨rfl, rfl⟩)
                  | (go_at_call 22; (with_reducible refine (SC _).mono ?_); rintro e w' ⟨rfl, rfl⟩)
                  | (go_at_call 21; (with_reducible refine (PL _).mono ?_); rintro e w' ⟨rfl, rfl⟩)
                  | (go_at_call 18; (with_reducible refine ID.mono ?_); rintro e w' ⟨rfl, rfl⟩)
                  | (at_builtin; refine step_dash (placeW (P i) (P (i + 1)) (fadd g s'.rest)) hMd bx' (by omega) rfl (.tmp 112) (.tmp 114) rfl rfl rfl ?_; intro g6 cap6 w6 hM6 bx6)
                  | (at_builtin; refine step_out undef hM6 bx6 (by omega) rfl (.tmp 111) (.tmp 116) rfl rfl rfl rfl ?_; intro g7 cap7 w7 hM7 bx7; have cc7 := cell_of_one bx7.cb; have fc7 := free_of_one bx7.cb; have bx8 : Boxes w (w7.setCell ⟨b8, 0, none⟩ (.int .i64 ((s'.cnt : Int) + 1))) w.heap.size b8 (b8 + 1) (.slice (some ⟨pg, poff, none⟩) 2 pc) ((s'.cnt + 1 : Nat) : Int) := bx7.set _; have HC8 := current_bx hH.out bx8 (by omega))
                  | (go_at_call 17; (with_reducible refine HC8.mono ?_); rintro e w9 ⟨rfl, hg9⟩; have bx9 := bx8.quiet hg9; have hM9 := (hM7.set (Nat.lt_succ_self b8) (.int .i64 ((s'.cnt : Int) + 1))).quiet hg9))
                go_roundg (gk - 1)
                case measure => omega
                case rel =>
                  refine ⟨f, fadd g s'.rest, stepD pa pb (P i) (P (i + 1)) g s', vs' ++ [.slice (some ⟨g6, 0, none⟩) (s'.dash.length + 1) cap6], by show gk - 1 + (s'.cnt + 1) = 40; omega, by show 33 ≤ f + (s'.cnt + 1); omega, hS2.out, hI2.out, rfl, rfl, bx9, ?_⟩
                  rw [show (stepD pa pb (P i) (P (i + 1)) g s').out = _ from if_pos hev, show dashO (stepD pa pb (P i) (P (i + 1)) g s') = none from if_neg (by show ¬ (s'.cnt + 1) % 2 = 0; omega)]
                  exact hM9.drop _
              · have ID := isDash_o b8 s'.cnt wr cc (by omega) hev
                have fc := free_of_one bx'.cb
                have hMd : Mem wr (b8 + 1) u13 u14 vs' s'.out none := by
                  have e : dashO s' = none := if_neg hev
                  rw [← e]; exact hM'
                clear hM'
                obtain ⟨g13, c13, rfl, _⟩ := hMd.slice13
                have hMf := hMd.fresh bx'.sz (placeW (P i) (P (i + 1)) (fadd g s'.rest))
                have bxf := bx'.alloc (.cells #[cx (placeW (P i) (P (i + 1)) (fadd g s'.rest))] 30)
                have hMs := hMf.set (Nat.lt_succ_self b8) (.int .i64 ((s'.cnt : Int) + 1))
                have bxs : Boxes w ((wr.alloc (.cells #[cx (placeW (P i) (P (i + 1)) (fadd g s'.rest))] 30)).setCell ⟨b8, 0, none⟩ (.int .i64 ((s'.cnt : Int) + 1))) w.heap.size b8 (b8 + 1) (.slice (some ⟨pg, poff, none⟩) 2 pc) ((s'.cnt + 1 : Nat) : Int) := bxf.set _
                have HC8 := current_bx hH.out bxs (by omega)
                have ccf := cell_of_one bxf.cb
                have fcf := free_of_one bxf.cb
                unfold cx at HC8 ccf fcf
                go_wp2_with (first
                  | (go_at_call 20; (with_reducible refine (M _).mono ?_); rintro e w' ⟨rfl, rfl⟩)
                  | (go_at_call 22; (with_reducible refine (SC _).mono ?_); rintro e w' ⟨rfl, rfl⟩)
                  | (go_at_call 21; (with_reducible refine (PL _).mono ?_); rintro e w' ⟨rfl, rfl⟩)
                  | (go_at_call 18; (with_reducible refine ID.mono ?_); rintro e w' ⟨rfl, rfl⟩)
                  | (go_at_call 17; (with_reducible refine HC8.mono ?_); rintro e w9 ⟨rfl, hg9⟩; have bx9 := bxs.quiet hg9; have hM9 := hMs.quiet hg9))
                go_roundg (gk - 1)
                case measure => omega
                case rel =>
                  refine ⟨f, fadd g s'.rest, stepD pa pb (P i) (P (i + 1)) g s', vs', by show gk - 1 + (s'.cnt + 1) = 40; omega, by show 33 ≤ f + (s'.cnt + 1); omega, hS2.out, hI2.out, rfl, rfl, bx9, ?_⟩
                  rw [show (stepD pa pb (P i) (P (i + 1)) g s').out = _ from if_neg hev, show dashO (stepD pa pb (P i) (P (i + 1)) g s') = some [placeW (P i) (P (i + 1)) (fadd g s'.rest)] from by
                    unfold dashO
                    rw [if_pos (by show (s'.cnt + 1) % 2 = 0; omega)]
                    show some (if s'.cnt % 2 = 0 then _ else _) = _
                    rw [if_neg hev]]
                  exact hM9
            · have hcf : condW (P i) (P (i + 1)) g s'.rest = false := Bool.eq_false_iff.2 hc
              obtain ⟨hrs, hinv2⟩ := hR.out.leave i g s' hlt hinv' hcf
              have mc : (FloatKind.f32.format.order (fsub (longW (subP (P (i + 1)) (P i))) g) s'.rest == some .gt) = false := hcf
              have mrs := rop hrs
              have hseg' : endD (P i) (P (i + 1)) g s' = segGo pa pb 50 (P i) (P (i + 1)) 0 s := by
                rw [← hseg]
                show _ = if condW (P i) (P (i + 1)) g s'.rest = true then _ else _
                rw [if_neg hc]
              have cc := cell_of_one bx'.cb
              have hI2 := Lib.hid hinv2
              have hS2 := Lib.hid hseg'
              clear hseg hseg' hinv' hinv2 hrs hc hcf hlen
              by_cases hev : s'.cnt % 2 = 0
              · have ID := isDash_e b8 s'.cnt wr cc (by omega) hev
                have hdl := b7 hev
                have hMd : Mem wr (b8 + 1) u13 u14 vs' s'.out (some s'.dash) := by
                  have e : dashO s' = some s'.dash := if_pos hev
                  rw [← e]; exact hM'
                clear hM'
                go_wp2_with (first
                  | (go_at_call 18; (with_reducible refine ID.mono ?_); rintro e w' ⟨rfl, rfl⟩)
                  | (at_builtin; refine step_dash (P (i + 1)) hMd bx' (by omega) rfl (.tmp 140) (.tmp 142) rfl rfl rfl ?_; intro g6 cap6 w6 hM6 bx6))
                go_roundg (N - (i + 1))
                case measure => omega
                case rel =>
                  refine ⟨i + 1, endD (P i) (P (i + 1)) g s', vs', by omega, by omega, ?_, hI2.out, by go_num, rfl, bx6, ?_⟩
                  · rw [hS2.out]
                    show _ = segGo pa pb 50 (P i) (P (i + 1)) 0 (runD pa pb P i _)
                    rw [← hE.out]
                  · rw [show dashO (endD (P i) (P (i + 1)) g s') = some (s'.dash ++ [P (i + 1)]) from by
                      unfold dashO
                      rw [if_pos (by show s'.cnt % 2 = 0; exact hev)]
                      show some (if s'.cnt % 2 = 0 then _ else _) = _
                      rw [if_pos hev]]
                    exact hM6
              · have ID := isDash_o b8 s'.cnt wr cc (by omega) hev
                go_wp2_with (first
                  | (go_at_call 18; (with_reducible refine ID.mono ?_); rintro e w' ⟨rfl, rfl⟩))
                go_roundg (N - (i + 1))
                case measure => omega
                case rel =>
                  refine ⟨i + 1, endD (P i) (P (i + 1)) g s', vs', by omega, by omega, ?_, hI2.out, by go_num, rfl, bx', ?_⟩
                  · rw [hS2.out]
                    show _ = segGo pa pb 50 (P i) (P (i + 1)) 0 (runD pa pb P i _)
                    rw [← hE.out]
                  · rw [show dashO (endD (P i) (P (i + 1)) g s') = none from if_neg (by show ¬ s'.cnt % 2 = 0; exact hev)]
                    have e : dashO s' = none := if_neg hev
                    rw [e] at hM'
                    exact hM'
        · obtain rfl : i = N := by omega
          have hfs := hR.out.fins _ _ hinv
          obtain ⟨b31, b16, b7⟩ := hR.out.bd _ _ _ hinv
          have hlen := hM.len
          have e1 : (vs.length : Int) ≤ 16 := by omega
          have e0 : (0 : Int) ≤ (vs.length : Int) := by omega
          have g0 : (0 : Int) ≤ (s.cnt : Int) := by omega
          have g1 : (s.cnt : Int) ≤ 31 := by omega
          have cc := cell_of_one bx.cb
          have hlo : w.heap.size ≤ b8 + 1 := by have := bx.lo; have := bx.l48; omega
          have hE := Lib.hid heq
          have iN : ¬ (i : Int) + 1 < (i : Int) + 1 := by omega
          clear heq hlen hgi hle hlt hinv
          by_cases hev : s.cnt % 2 = 0
          · have ID := isDash_e b8 s.cnt wr cc (by omega) hev
            have hMd : Mem wr (b8 + 1) u13 u14 vs s.out (some s.dash) := by
              have e : dashO s = some s.dash := if_pos hev
              rw [← e]; exact hM
            clear hM
            obtain ⟨g13, c13, rfl, _⟩ := hMd.slice13
            obtain ⟨g14, c14, rfl⟩ := hMd.slice14
            have hdl := b7 hev
            have d1 : (s.dash.length : Int) ≤ 7 := by omega
            have d0 : (0 : Int) ≤ (s.dash.length : Int) := by omega
            by_cases hd : 1 < s.dash.length
            · have d2 : (1 : Int) < (s.dash.length : Int) := by omega
              have eo : outsD s = s.out ++ [s.dash] := if_pos ⟨hev, hd⟩
              rw [eo] at hfs
              have hF := Lib.hid hfs
              have hO := Lib.hid eo
              clear hfs eo hev b7
              go_wp2_with (first
                | (go_at_call 18; (with_reducible refine ID.mono ?_); rintro e w' ⟨rfl, rfl⟩)
                | (at_builtin; refine step_out undef hMd bx (by omega) rfl (.tmp 151) (.tmp 153) rfl rfl rfl rfl ?_; intro g7 cap7 w7 hM7 bx7; have LK := hM7.look (by simp; omega) hF.out)
                | (go_at_call 23; (with_reducible refine LK.mono ?_); rintro e w' ⟨rfl, rfl⟩))
              go_ret2
              refine ⟨b8 + 1, .slice (some ⟨g7, 0, none⟩) (vs.length + 1) cap7, vs ++ [.slice (some ⟨g14, 0, none⟩) s.dash.length c14], hlo, rfl, bx7.bel, ?_⟩
              rw [← hE.out, hO.out]
              exact hM7
            · have d2 : ¬ (1 : Int) < (s.dash.length : Int) := by omega
              have eo : outsD s = s.out := if_neg (fun h => hd h.2)
              rw [eo] at hfs
              have LK := hMd.look (by omega) hfs
              have hO := Lib.hid eo
              clear hfs eo hev b7
              go_wp2_with (first
                | (go_at_call 18; (with_reducible refine ID.mono ?_); rintro e w' ⟨rfl, rfl⟩)
                | (go_at_call 23; (with_reducible refine LK.mono ?_); rintro e w' ⟨rfl, rfl⟩))
              go_ret2
              refine ⟨b8 + 1, .slice (some ⟨g13, 0, none⟩) vs.length c13, vs, hlo, rfl, bx.bel, ?_⟩
              rw [← hE.out, hO.out]
              exact hMd.drop _
          · have ID := isDash_o b8 s.cnt wr cc (by omega) hev
            have hMd : Mem wr (b8 + 1) u13 u14 vs s.out none := by
              have e : dashO s = none := if_neg hev
              rw [← e]; exact hM
            clear hM
            obtain ⟨g13, c13, rfl, _⟩ := hMd.slice13
            have eo : outsD s = s.out := if_neg (fun h => hev h.1)
            rw [eo] at hfs
            have LK := hMd.look (by omega) hfs
            have hO := Lib.hid eo
            clear hfs eo hev b7
            go_wp2_with (first
              | (go_at_call 18; (with_reducible refine ID.mono ?_); rintro e w' ⟨rfl, rfl⟩)
              | (go_at_call 23; (with_reducible refine LK.mono ?_); rintro e w' ⟨rfl, rfl⟩))
            go_ret2
            refine ⟨b8 + 1, .slice (some ⟨g13, 0, none⟩) vs.length c13, vs, hlo, rfl, bx.bel, ?_⟩
            rw [← hE.out, hO.out]
            exact hMd.drop _
end Go.Proofs.Ytojbgeimlipajaa
