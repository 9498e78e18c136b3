/- SpeedPlan: its walk, up to the loop back. -/
import Derived.Test.YtpkcbofeoklpbaaW10b
import Derived.RangeFuncCalls
namespace Go.Proofs.Ytpkcbofeoklpbaa
open Go.RowKit Go.Shelf Fl
attribute [local go_sem] Oper.semAt_some

def V0 (n m : Nat) (k : Nat) : Nat := if k = 0 then 0 else if k = n then 0 else m

theorem V0_eq (n m : Nat) : upd (upd (fun _ => m) 0 0) n 0 = V0 n m := by
  funext k
  simp only [upd, V0]
  by_cases e : k = 0
  · simp [e]
  · by_cases e2 : k = n <;> simp [e, e2]

theorem V0_spd (n m : Nat) (M : Rat) (hm : S m M) (m0 : 1 / 2 ≤ M) (hn : 2 ≤ n) : Spd n M (V0 n m) (fun k => if k = 0 then 0 else if k = n then 0 else M) := by
  refine ⟨?_, ?_, ?_, ?_, ?_, ?_⟩
  · intro k hk
    by_cases e : k = 0
    · simp [V0, e]; exact s_zero
    · by_cases e2 : k = n
      · simp only [V0, e, e2, if_true, if_false]
        have : ¬ n = 0 := by omega
        simp only [this, if_false]; exact s_zero
      · simp only [V0, e, e2, if_false]; exact hm
  · intro k hk
    split
    · exact Rat.le_refl
    · split
      · exact Rat.le_refl
      · grind
  · intro k hk
    split
    · grind
    · split <;> grind
  · intro k h1 h2
    have e1 : ¬ k = 0 := by omega
    have e2 : ¬ k = n := by omega
    simp only [e1, e2, if_false]; grind
  · simp
  · simp

/-- what SpeedPlan answers -/
def SpeedRet (n : Nat) (V : Nat → Nat) (s : Nat) (w : World) (e : Ending) (w' : World) : Prop :=
  ∃ g, e = .returned (.tuple #[.slice (some ⟨g, 0, none⟩) (n + 1) (n + 1), .float .f32 s, .bool true]) ∧ Below w.heap.size w w' ∧ w.heap.size ≤ g ∧ (∀ k, k < n + 1 → w'.cell? ⟨g, k, none⟩ = some (.float .f32 (V k)))

set_option maxRecDepth 100000 in
set_option maxHeartbeats 2000000 in
theorem speedPlan_any (b off n cap most rise : Nat) (lw : Nat → Nat) (L : Nat → Rat) (M K : Rat) (hp : Pcs n lw L) (hm : S most M) (hk : S rise K) (m0 : 1 / 2 ≤ M) (m4 : M ≤ 4) (k0 : 1 / 2 ≤ K) (k4 : K ≤ 4)
    (hn : 2 ≤ n) (hn7 : n ≤ 7) (w : World) (hb : b < w.heap.size) (hl : ∀ k, k < n → w.cell? ⟨b, off + k, none⟩ = some (.float .f32 (lw k))) :
    Calls Try.prog 6 #[.slice (some ⟨b, off, none⟩) n cap, .float .f32 most, .float .f32 rise] w (SpeedRet n (bwdA (V0 n most) rise lw n n) (sumW (bwdA (V0 n most) rise lw n n) lw n) w) := by
  have HV : ∀ k, k < n → ∃ v, S (lw k) v ∧ 0 < v := fun k hk => ⟨L k, hp.s k hk, by have := hp.lo k hk; grind⟩
  have HM2 := areMore_2 most rise ⟨M, hm, by grind⟩ ⟨K, hk, by grind⟩
  have HR := repeat_any most (n + 1) ⟨by omega, by omega⟩
  have ec : ((n + 1 : Nat) : Int) = (n : Int) + 1 := by omega
  rw [ec] at HR
  have HM1 := areMore_any b off n cap lw (w.alloc (.cells #[.float .f32 rise] 26)) (by omega) (fun k hk => ((((Below.refl _ w).alloc (Nat.le_refl _) _)).cell (p := ⟨b, off + k, none⟩) hb).trans (hl k hk)) HV
  have n0 : (2 : Int) ≤ (n : Int) := by omega
  have n7 : (n : Int) ≤ 7 := by omega
  have hsf := run_store_float
  refine (callsIn_wide (n := 6)).1 ?_
  refine callsIn_of_wp_marks Try.func6 rfl trivial ?_ rfl
  simp only [Try.ntmps6, List.size_toArray, List.length_cons, List.length_nil, Nat.reduceAdd, Nat.reduceSub, Array.replicate_succ, Array.replicate_zero, List.push_toArray, List.append_toArray, List.nil_append, List.cons_append]
  refine wpIn_wide.2 ?_
  go_wp2_with (first | (go_at_call 11; (with_reducible refine HM1.mono ?_); rintro e w' ⟨rfl, rfl⟩) | (go_at_call 11; (with_reducible refine (HM2 _ _ (by simp)).mono ?_); rintro e w' ⟨rfl, rfl⟩) | (go_at_call 12; (with_reducible refine (HR _ _ (by simp)).mono ?_); rintro e w' ⟨rfl, q, rfl⟩))
  clear HM1 HM2 HR HV
  obtain ⟨W0, hW0⟩ : ∃ W0, ((((((w.alloc (.cells #[.float .f32 rise] 26)).alloc (.cells #[.float .f32 most, .float .f32 rise] 26)).alloc (.cells #[.float .f32 most] 26)).alloc (.cells (fill most (n + 1) (n + 1)) 26)).drewN q).alloc (.cells #[.slice (some ⟨w.heap.size + 1 + 1 + 1, 0, none⟩) (n + 1) (n + 1)] 24)) = W0 := ⟨_, rfl⟩
  have hL0 : Lay w W0 w.heap.size b off n lw (fun _ => most) rise false := by rw [← hW0]; exact Lay.start w b off n most rise q lw hb hl
  have hs0 : W0.heap.size = w.heap.size + 5 := by rw [← hW0]; simp
  rw [hW0]
  clear hW0
  have hvb := hL0.vb
  have hv0 := hL0.v 0 (by omega)
  have hvn := hL0.v n (by omega)
  have hf0 := hL0.fr 0 (by omega)
  have hfn := hL0.fr n (by omega)
  have hnn : (0 : Int) ≤ (n : Int) := by omega
  go_region
  have hL1 := ((((hL0.set hb (i := 0) (by omega) 0).set hb (i := n) (by omega) 0).drew1).func2 (V0 n most) (V0_eq n most))
  have hs1 : (((W0.setCell ⟨w.heap.size + 3, 0, none⟩ (.float .f32 0)).setCell ⟨w.heap.size + 3, n, none⟩ (.float .f32 0)).drew).heap.size = w.heap.size + 5 := by simp [hs0]
  generalize (((W0.setCell ⟨w.heap.size + 3, 0, none⟩ (.float .f32 0)).setCell ⟨w.heap.size + 3, n, none⟩ (.float .f32 0)).drew) = W1 at hL1 hs1 ⊢
  clear hL0 hs0 hvb hv0 hvn hf0 hfn
  go_wp2
  have hL2 := hL1.func (Nat.le_refl _) hs1 (w.heap.size + 1 + 1 + 1 + 1) w.heap.size (by omega) rfl
  generalize (W1.alloc (.cells #[.func (.func 13) #[] #[.pointer (some ⟨w.heap.size + 1 + 1 + 1 + 1, 0, none⟩), .pointer (some ⟨w.heap.size, 0, none⟩)]] 41)) = W2 at hL2 ⊢
  clear hL1 hs1 W1 W0 q ec hl
  have h0 := V0_spd n most M hm m0 hn
  go_loopw [55] (fun i wr => ∃ k : Nat, k ≤ n ∧ i = .int .i64 k ∧ Lay w wr w.heap.size b off n lw (fwdA (V0 n most) rise lw k) rise true) (fun i _ => n - (intOf i).toNat)
  case atStart => exact ⟨0, by omega, rfl, hL2⟩
  case round =>
    obtain ⟨k, hkn, rfl, hL⟩ := hrel
    by_cases hlt : k < n
    · have ok := (fwd_inv h0 hp hk k0 k4 m4 (k + 1) hlt).1 k (Nat.lt_succ_self k)
      have key : fwdA (V0 n most) rise lw (k + 1) = if lowW (reachW (fwdA (V0 n most) rise lw k k) rise (lw k)) (fwdA (V0 n most) rise lw k (k + 1)) = true then upd (fwdA (V0 n most) rise lw k) (k + 1) (reachW (fwdA (V0 n most) rise lw k k) rise (lw k)) else fwdA (V0 n most) rise lw k := rfl
      have hri := hL.ri
      have hvb := hL.vb
      have hfb := hL.fb rfl
      have hvk := hL.v k (by omega)
      have hvk1 := hL.v (k + 1) (by omega)
      have hfk1 := hL.fr (k + 1) (by omega)
      have hlg := hL.lg k hlt
      have HC := reach_any k (n + 1) _ _ _ (w.heap.size + 4) w.heap.size (w.heap.size + 3) ok wr (by omega) (by omega) hvb hri hvk
      generalize hx : reachW (fwdA (V0 n most) rise lw k k) rise (lw k) = x at *
      have hy := hL.v (k + 1) (by omega)
      generalize hyy : fwdA (V0 n most) rise lw k (k + 1) = y at *
      clear ok hL2 h0 hp hm hk
      have hk0 : (0 : Int) ≤ (k : Int) := by omega
      have hkn' : (k : Int) < (n : Int) := by omega
      by_cases hc : lowW x y = true
      · have hc' : (FloatKind.f32.format.order x y == some .lt) = true := hc
        rw [if_pos hc] at key
        have K1 := Lib.hid key
        have K2 := Lib.hid hL
        clear key hc hL hyy hx
        go_wp2_with (first | (go_at_call 13; (with_reducible refine HC.mono ?_); rintro e w' ⟨rfl, q, rfl⟩))
        exact ⟨⟨k + 1, by omega, by go_num, by rw [K1.out]; exact (K2.out.drew q).set hb (by omega) x⟩, by simp [intOf]; omega⟩
      · have hc' : (FloatKind.f32.format.order x y == some .lt) = false := Bool.eq_false_iff.2 hc
        rw [if_neg hc] at key
        have K1 := Lib.hid key
        have K2 := Lib.hid hL
        clear key hc hL hyy hx
        go_wp2_with (first | (go_at_call 13; (with_reducible refine HC.mono ?_); rintro e w' ⟨rfl, q, rfl⟩))
        exact ⟨⟨k + 1, by omega, by go_num, by rw [K1.out]; exact K2.out.drew q⟩, by simp [intOf]; omega⟩
    · obtain rfl : k = n := by omega
      clear hL2
      have hk0 : (0 : Int) ≤ (k : Int) := by omega
      have hlt' : ¬ (k : Int) < (k : Int) := by omega
      have HB := fun w => callsIn_wide.1 (back_in Fence.wide 5 trivial rfl (some ⟨b, off, none⟩) k cap w)
      go_wp2_with (first | (go_at_call 15; (with_reducible refine (HB _).mono ?_); rintro e w' ⟨rfl, rfl⟩))
      have h3 : w.heap.size + 3 < wr.heap.size := by
        obtain ⟨o, ho, _⟩ := cells_of_cell (hL.v 0 (by omega))
        exact (Array.getElem?_eq_some_iff.1 ho).1
      have hwa := hL.alloc (Nat.le_refl _) (.cells #[.slice (some ⟨b, off, none⟩) k cap] 24)
      have hbs : (wr.alloc (.cells #[.slice (some ⟨b, off, none⟩) k cap] 24)).cell? ⟨wr.heap.size, 0, none⟩ = some (.slice (some ⟨b, off, none⟩) k cap) := by rw [World.cell?_alloc_at _ _ _ _ rfl]; rfl
      have hbs2 : wr.heap.size < (wr.alloc (.cells #[.slice (some ⟨b, off, none⟩) k cap] 24)).heap.size := by simp
      have hspd := foldB_spd hp hk k0 k4 m4 (n := k) (rise := rise)
      obtain ⟨_, v1, hv1, _⟩ := fwd_inv h0 hp hk k0 k4 m4 k (Nat.le_refl _)
      generalize hW3 : (wr.alloc (.cells #[.slice (some ⟨b, off, none⟩) k cap] 24)) = W3 at *
      generalize hBs : wr.heap.size = Bs at *
      clear hW3 hL HB
      refine (wpIn_wide (n := 6)).1 ?_
      refine wpIn_rangeFunc_ownF (F := Fence.wide) (n := 6) rfl (by omega) (gf := 26) (lb := #[.pointer (some ⟨Bs, 0, none⟩)]) rfl trivial (enters_of Try.func26 (by kernel_rfl) rfl)
        (back_stops Fence.wide 5 trivial rfl (by omega) Bs b off k cap lw (by omega) (by omega) W3 hbs2 (by omega) hbs hwa.lg) (fun h k => h.trans k) (kp2_b hbs2 (by omega)) (Below.refl _ _) (fun _ => rfl)
        (fun pre W => Lay w W w.heap.size b off k lw (foldB k rise lw (fwdA (V0 k most) rise lw k) pre) rise true) (fun _ _ _ => False)
        (fun s A B row hs hg hr => hs.grown (Nat.le_refl _) hg (fun r e => ⟨by have := (hr r e).1; omega, (hr r e).2⟩)) (fun _ _ _ _ _ hs _ _ => hs) hwa ?a1 ?assign ?body ?done ?stop
      case assign =>
        intro l x W K hK
        dsimp only [encB]
        gi_wp2
        exact hK
      case stop =>
        rintro D c pre W _ _ h _
        exact h.elim
      case body =>
        rintro l pre x W hI hlen
        obtain ⟨vp, hvp⟩ := hspd pre _ ⟨v1, hv1⟩
        obtain ⟨ok, _⟩ := stepB_spd hvp hp hk k0 k4 m4 x.1 x.2
        have key := foldB_snoc k rise lw (fwdA (V0 k most) rise lw k) pre x
        unfold stepB at key
        clear hspd hv1 hvp h0 hwa hp hk hm
        obtain ⟨i, hik⟩ := x
        dsimp only at ok key ⊢
        generalize foldB k rise lw (fwdA (V0 k most) rise lw k) pre = V at *
        have hri := hI.ri
        have hvb := hI.vb
        have hfb := hI.fb rfl
        have hvk := hI.v i (by omega)
        have hvk1 := hI.v (i + 1) (by omega)
        have hfk := hI.fr i (by omega)
        have HC := reach_any (i + 1) (k + 1) _ _ _ (w.heap.size + 4) w.heap.size (w.heap.size + 3) ok W (by omega) (by omega) hvb hri hvk1
        have eI : ((i + 1 : Nat) : Int) = (i : Int) + 1 := by omega
        rw [eI] at HC
        clear ok
        have hi0 : (0 : Int) ≤ (i : Int) := by omega
        have hik' : (i : Int) < (k : Int) := by omega
        generalize hx : reachW (V (i + 1)) rise (lw i) = z at *
        generalize hyy : V i = y at *
        by_cases hc : lowW z y = true
        · have hc' : (FloatKind.f32.format.order z y == some .lt) = true := hc
          rw [if_pos hc] at key
          have K1 := Lib.hid key
          have K2 := Lib.hid hI
          clear key hc hI
          gi_wp2
          refine ⟨trivial, ?_⟩
          refine (CallsIn.inRound l (callsIn_wide.2 HC)).mono ?_
          rintro e w' ⟨rfl, q, rfl⟩
          gi_wp2
          refine ⟨⟨(KeepsOthers.setCell W _ _).size, (KeepsOthers.setCell (W.drewN q) ⟨w.heap.size + 3, i, none⟩ (.float .f32 z)).same⟩, ?_, by dsimp only; rw [K1.out]; exact (K2.out.drew q).set hb (by omega) z⟩
          intro c j hc
          exact World.cell?_setCell_other (W.drewN q) _ _ _ (fun e => by injection e with e1 e2; rcases hc with rfl | rfl <;> omega)
        · have hc' : (FloatKind.f32.format.order z y == some .lt) = false := Bool.eq_false_iff.2 hc
          rw [if_neg hc] at key
          have K1 := Lib.hid key
          have K2 := Lib.hid hI
          clear key hc hI
          gi_wp2
          refine ⟨trivial, ?_⟩
          refine (CallsIn.inRound l (callsIn_wide.2 HC)).mono ?_
          rintro e w' ⟨rfl, q, rfl⟩
          gi_wp2
          exact ⟨⟨Nat.le_refl _, fun _ _ h _ => h⟩, fun _ _ _ => rfl, by dsimp only; rw [K1.out]; exact K2.out.drew q⟩
      case done =>
        rintro D ys W hD rfl hI hDh
        rw [foldB_bwd k (V0 k most) rise lw (by omega) k (Nat.le_refl _)] at hI
        obtain ⟨_, v2, hv2, _⟩ := bwd_inv h0 hp hk k0 k4 m4 k (Nat.le_refl _)
        generalize bwdA (V0 k most) rise lw k k = V at *
        obtain ⟨hsum, sv, hsv, _⟩ := sum_near hv2 hp m0 m4 hn hn7 k (Nat.le_refl _)
        have HF := areFinite_any (w.heap.size + 3) 0 (k + 1) (k + 1) V
        have HF1 := isFinite_any _ _ hsv
        have hfin : ∀ j, j < k + 1 → ∃ v, S (V j) v := fun j hj => ⟨_, hv2.s j (by omega)⟩
        clear hspd hv1 hwa hv2 hsv h0 hp hk hm
        go_wp2
        go_loopw [18, 98] (fun s i wr => ∃ t q : Nat, t ≤ k ∧ i = .int .i64 t ∧ s = .float .f32 (sumW V lw t) ∧ wr = W.drewN q) (fun _ i _ => k - (intOf i).toNat)
        case atStart => exact ⟨0, 0, by omega, rfl, rfl, rfl⟩
        case round =>
          obtain ⟨t, q, htk, rfl, rfl, rfl⟩ := hrel
          by_cases hlt2 : t < k
          · have o := hsum t hlt2
            obtain ⟨bv, hbv, bpos⟩ := o.pos
            have r1 := rop o.a
            have r2 := rop o.m
            have r3 := rop o.d
            have r4 := rop o.s
            have g1 := cgt_t hbv s_zero bpos
            have hvb := hI.vb
            have hvt := hI.v t (by omega)
            have hvt1 := hI.v (t + 1) (by omega)
            have hlg := hI.lg t hlt2
            have ht0 : (0 : Int) ≤ (t : Int) := by omega
            have htk' : (t : Int) < (k : Int) := by omega
            have K2 := Lib.hid hI
            clear o hbv bpos hsum HF HF1 hfin hI
            go_wp2
            go_quiet (fail)
            go_wp2
            exact ⟨⟨t + 1, q + nq, by omega, by go_num, rfl, rfl⟩, by simp [intOf]; omega⟩
          · obtain rfl : t = k := by omega
            have ht0 : (0 : Int) ≤ (t : Int) := by omega
            have hlt2 : ¬ (t : Int) < (t : Int) := by omega
            have hvb := hI.vb
            have HF' := HF (W.drewN q) (by omega) (fun j hj => by rw [Nat.zero_add]; exact hI.v j hj) hfin
            clear hsum HF hfin
            have K2 := Lib.hid hI
            clear hI
            go_wp2_with (first | (go_at_call 16; (with_reducible refine HF'.mono ?_); rintro e w' ⟨rfl, rfl⟩) | (go_at_call 17; (with_reducible refine (HF1 _).mono ?_); rintro e w' ⟨rfl, rfl⟩))
            have hDh' : (W.drewN q).heap[D]? = some (.deferred (some [])) := hDh
            refine ⟨by simp, .inl ⟨_, _, rfl, run_takeDeferred hDh', ?_⟩⟩
            refine ⟨.tuple #[.slice (some ⟨w.heap.size + 3, 0, none⟩) (t + 1) (t + 1), .float .f32 (sumW V lw t), .bool true], ?_, ⟨w.heap.size + 3, rfl, ?_, by omega, ?_⟩⟩
            · simp [results, Try.f6, go_sem]
            · exact (K2.out.drew q).lo.trans (belowK_b (w := w) (Nat.le_refl _) (W.drewN q) D _ _ (by omega) hDh' rfl rfl)
            · intro j hj
              exact ((K2.out.drew q).grown (Nat.le_refl _) (grownBy_putObj' _ D (.deferred none)) (fun r e => by cases e; exact ⟨by omega, _, hDh', rfl⟩)).v j hj
end Go.Proofs.Ytpkcbofeoklpbaa
