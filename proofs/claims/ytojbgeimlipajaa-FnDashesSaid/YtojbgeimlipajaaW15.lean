/- The three runs of DashPath that the law asks for. -/
import Derived.Test.YtojbgeimlipajaaW13
namespace Go.Proofs.Ytojbgeimlipajaa
open Go.RowKit Fl

theorem Path.fin (w : Path) (k : Nat) (hk : k < w.N + 1) : FinP (w.P k) := by
  by_cases h : k < w.N
  · have s := w.seg k h
    exact ⟨_, _, s.sx, s.sy⟩
  · have h0 := w.n0
    obtain ⟨m, rfl⟩ : ∃ m, k = m + 1 := ⟨k - 1, by omega⟩
    have s := w.seg m (by omega)
    exact ⟨_, _, s.tx, s.ty⟩
theorem Path.segs (w : Path) (k : Nat) (hk : k + 1 < w.N + 1) : floatBits .sub .f32 (w.P (k + 1)).1 (w.P k).1 = some (fsub (w.P (k + 1)).1 (w.P k).1) ∧ floatBits .sub .f32 (w.P (k + 1)).2 (w.P k).2 = some (fsub (w.P (k + 1)).2 (w.P k).2) ∧ LongOk (subP (w.P (k + 1)) (w.P k)) := by
  have s := w.seg k (by omega)
  exact ⟨s.ox, s.oy, s.lk⟩
theorem Path.pos (w : Path) (k : Nat) (hk : k + 1 < w.N + 1) : ∃ l, S (longW (subP (w.P (k + 1)) (w.P k))) l ∧ 0 < l := by
  have s := w.seg k (by omega)
  have := s.l0
  exact ⟨_, s.sl, by grind⟩

theorem Acc.finP {ps : List Pt} {r : Pt} {sig : Rat} (h : Acc ps r sig) : ∀ p ∈ ps, FinP p := by
  intro p hp
  obtain ⟨i, hi, rfl⟩ := List.getElem_of_mem hp
  obtain ⟨x, y, hx, hy⟩ := h.fin i hi
  rw [List.getD_eq_getElem?_getD, List.getElem?_eq_getElem hi] at hx hy
  exact ⟨x, y, hx, hy⟩

theorem run_main {w : Path} {a b : Nat} {A B : Rat} (sa : S a A) (sb : S b B) (hA : 1 / 2 ≤ A) (hA2 : A ≤ 2) (hB : 1 / 2 ≤ B) (hB2 : B ≤ 2) :
    ∃ r0, S r0 A ∧ RunIn w.P w.N 0 r0 a b 0 (fun _ => 0) (fun i g s => (i < w.N ∧ ∃ u, Inv w A B i u g s) ∨ (i = w.N ∧ g = 0 ∧ Mid w A B w.N s)) := by
  have e0 : A - 0 = A := by grind
  have g := fsub_ex sa s_zero (by rw [e0]; grind) (by rw [e0]; grind) (by rw [e0]; exact rep_of_is sa)
  obtain ⟨r0, hr0, sr⟩ : ∃ r0, floatBits .sub .f32 a 0 = some r0 ∧ S r0 A := ⟨_, g.ok, by have := g.is; rwa [e0] at this⟩
  have n0 := w.n0
  refine ⟨r0, sr, by omega, rfl, ⟨0, s_zero, Rat.le_refl⟩, fun k hk => absurd hk (Nat.not_lt_zero k), ?_, hr0, ?_, ?_, ?_, ?_, ?_, ?_⟩
  · show (FloatKind.f32.format.order 0 a == some .gt || FloatKind.f32.format.order 0 a == some .eq) = false
    rw [cgt_f s_zero sa (by grind), ceq_f s_zero sa (by grind)]; rfl
  · exact .inl ⟨by omega, 0, (start_mid sr hA).enter (by omega)⟩
  · rintro i g s hi (⟨_, u, v⟩ | ⟨h, _⟩)
    · exact (v.sub hi).1
    · omega
  · rintro i g s hi (⟨_, u, v⟩ | ⟨h, _⟩) hc
    · obtain ⟨c, u', v'⟩ := v.cut (pa := a) (pb := b) hi hA hA2 hB hB2 sa sb hc
      exact ⟨c, .inl ⟨hi, u', v'⟩⟩
    · omega
  · rintro i g s hi (⟨_, u, v⟩ | ⟨h, _⟩) hc
    · obtain ⟨c, v'⟩ := v.leave hi hA hA2 hB hB2 hc
      refine ⟨c, ?_⟩
      by_cases h : i + 1 < w.N
      · exact .inl ⟨h, 0, v'.enter h⟩
      · have e : i + 1 = w.N := by omega
        refine .inr ⟨e, rfl, ?_⟩
        generalize endD (w.P i) (w.P (i + 1)) g s = t at *
        rw [e] at v'
        exact v'
    · omega
  · rintro i g s (⟨hi, u, v⟩ | ⟨rfl, _, v⟩)
    · have h1 := v.c30
      have h2 := v.olen
      refine ⟨by omega, by omega, fun hp => ?_⟩
      obtain ⟨_, _, _, _, h, _⟩ := v.dash hp
      exact h
    · have h1 := v.c30
      have h2 := v.olen
      refine ⟨by omega, by omega, fun hp => ?_⟩
      obtain ⟨_, _, h, _⟩ := v.dash hp
      exact h
  · rintro g s (⟨h, _⟩ | ⟨_, _, v⟩)
    · omega
    · intro ps hps
      obtain ⟨k, hk, rfl⟩ := List.getElem_of_mem hps
      obtain ⟨_, hd, _⟩ := ends v hA hA2 hB hB2
      have hdk := hd k hk
      rw [List.getD_eq_getElem?_getD, List.getElem?_eq_getElem hk] at hdk
      obtain ⟨r, sig, ac, _⟩ := hdk.acc
      exact ⟨ac.finP, Nat.le_trans ac.n9 (by omega)⟩

abbrev wK : Nat := 1148846080
abbrev wO : Nat := 1065353216
theorem s_thousand : S wK 1000 := is_const (s := false) (m := 16384000) (e := -14) (by decide +kernel) (by decide) (by decide +kernel)

theorem pathL_fin (w : Path) (n : Nat) (hn : n ≤ w.N) : ∀ p ∈ pathL w.P n, FinP p := by
  intro p hp
  unfold pathL at hp
  obtain ⟨k, hk, rfl⟩ := List.mem_map.1 hp
  exact w.fin k (by have := List.mem_range.1 hk; omega)

theorem run_plain {w : Path} {pa pb start c r0 : Nat} {st : Nat → Nat} (hr0 : S r0 1000) (c1 : c ≤ 1) (h0 : st 0 = start) (hf : ∃ v, S start v ∧ 0 ≤ v)
    (hm : ∀ k, k < c → (FloatKind.f32.format.order (st k) (pat pa pb k) == some .gt || FloatKind.f32.format.order (st k) (pat pa pb k) == some .eq) = true ∧ floatBits .sub .f32 (st k) (pat pa pb k) = some (st (k + 1)))
    (hd : (FloatKind.f32.format.order (st c) (pat pa pb c) == some .gt || FloatKind.f32.format.order (st c) (pat pa pb c) == some .eq) = false) (hr : floatBits .sub .f32 (pat pa pb c) (st c) = some r0) :
    RunIn w.P w.N c r0 pa pb start st (fun i g s => i ≤ w.N ∧ g = 0 ∧ s = runD pa pb w.P i ⟨c, r0, [], [w.P 0]⟩) ∧
    outsD (runD pa pb w.P w.N ⟨c, r0, [], [w.P 0]⟩) = if c % 2 = 0 then [pathL w.P w.N] else [] := by
  have n0 := w.n0
  have rl := fun i hi => run_long (w := w) (pa := pa) (pb := pb) (c := c) hr0 (by grind) Rat.le_refl c1 i hi
  have near : ∀ i s, i < w.N → s = runD pa pb w.P i ⟨c, r0, [], [w.P 0]⟩ → floatBits .sub .f32 (longW (subP (w.P (i + 1)) (w.P i))) 0 = some (fsub (longW (subP (w.P (i + 1)) (w.P i))) 0) ∧ condW (w.P i) (w.P (i + 1)) 0 s.rest = false ∧
      floatBits .sub .f32 s.rest (fsub (longW (subP (w.P (i + 1)) (w.P i))) 0) = some (fsub s.rest (fsub (longW (subP (w.P (i + 1)) (w.P i))) 0)) := by
    rintro i s hi rfl
    obtain ⟨r', rho', e, sr', q1, q2⟩ := rl i (by omega)
    have i6 : (i : Rat) ≤ 6 := cast_le (m := 6) (by have := w.n6; omega)
    obtain ⟨h1, h2, h3, _⟩ := rest_near hi sr' (by grind) q2
    rw [e]
    exact ⟨h1, h2, h3⟩
  have out : outsD (runD pa pb w.P w.N ⟨c, r0, [], [w.P 0]⟩) = if c % 2 = 0 then [pathL w.P w.N] else [] := by
    obtain ⟨r', rho', e, _⟩ := rl w.N (Nat.le_refl _)
    rw [e]
    unfold outsD
    dsimp only
    by_cases hc : c % 2 = 0
    · rw [if_pos hc, if_pos hc, if_pos ⟨hc, by rw [pathL_len]; omega⟩]; rfl
    · rw [if_neg (fun h => hc h.1), if_neg hc]
  refine ⟨⟨c1, h0, hf, hm, hd, hr, ⟨Nat.zero_le _, rfl, rfl⟩, ?_, ?_, ?_, ?_, ?_⟩, out⟩
  · rintro i g s hi ⟨_, rfl, hs⟩
    exact (near i s hi hs).1
  · rintro i g s hi ⟨_, rfl, hs⟩ hc
    rw [(near i s hi hs).2.1] at hc
    cases hc
  · rintro i g s hi ⟨_, rfl, hs⟩ hc
    refine ⟨(near i s hi hs).2.2, by omega, rfl, ?_⟩
    show _ = segGo pa pb 50 (w.P i) (w.P (i + 1)) 0 (runD pa pb w.P i ⟨c, r0, [], [w.P 0]⟩)
    rw [← hs]
    show _ = if condW (w.P i) (w.P (i + 1)) 0 s.rest = true then _ else _
    rw [if_neg (by rw [hc]; decide)]
  · rintro i g s ⟨hi, rfl, rfl⟩
    obtain ⟨r', rho', e, _⟩ := rl i hi
    rw [e]
    refine ⟨by show c ≤ 31; omega, by simp, fun hp => ?_⟩
    have hp : c % 2 = 0 := hp
    show (if c % 2 = 0 then pathL w.P i else [w.P 0]).length ≤ i + 1
    rw [if_pos hp, pathL_len]; exact Nat.le_refl _
  · rintro g s ⟨_, _, rfl⟩ ps hps
    rw [out] at hps
    by_cases hc : c % 2 = 0
    · rw [if_pos hc] at hps
      obtain rfl := List.mem_singleton.1 hps
      exact ⟨pathL_fin w w.N (Nat.le_refl _), by rw [pathL_len]; have := w.n6; omega⟩
    · rw [if_neg hc] at hps; cases hps

theorem run_whole (w : Path) : ∃ r0 I, RunIn w.P w.N 0 r0 wK wO 0 (fun _ => 0) I ∧ outsD (runD wK wO w.P w.N ⟨0, r0, [], [w.P 0]⟩) = [pathL w.P w.N] := by
  have e0 : (1000 : Rat) - 0 = 1000 := by decide +kernel
  have g := fsub_ex s_thousand s_zero (by rw [e0]; decide) (by rw [e0]; decide) (by rw [e0]; exact rep_of_is s_thousand)
  have hs : S (fsub wK 0) 1000 := by have := g.is; rwa [e0] at this
  obtain ⟨h1, h2⟩ := run_plain (w := w) (pa := wK) (pb := wO) (start := 0) (c := 0) (st := fun _ => 0) hs (by omega) rfl ⟨0, s_zero, Rat.le_refl⟩ (fun k hk => absurd hk (Nat.not_lt_zero k))
    (by show (FloatKind.f32.format.order 0 wK == some .gt || FloatKind.f32.format.order 0 wK == some .eq) = false
        rw [cgt_f s_zero s_thousand (by decide +kernel), ceq_f s_zero s_thousand (by decide +kernel)]; rfl) g.ok
  exact ⟨_, _, h1, h2⟩
theorem run_none (w : Path) : ∃ r0 st I, RunIn w.P w.N 1 r0 wO wK wO st I ∧ outsD (runD wO wK w.P w.N ⟨1, r0, [], [w.P 0]⟩) = [] := by
  have e1 : (1 : Rat) - 1 = 0 := by decide +kernel
  have k := fsub_ex s_one s_one (by rw [e1]; decide) (by rw [e1]; decide) (by rw [e1]; exact rep_of_is s_zero)
  have hz : S (fsub wO wO) 0 := by have := k.is; rwa [e1] at this
  have e0 : (1000 : Rat) - 0 = 1000 := by decide +kernel
  have g := fsub_ex s_thousand hz (by rw [e0]; decide) (by rw [e0]; decide) (by rw [e0]; exact rep_of_is s_thousand)
  have hs : S (fsub wK (fsub wO wO)) 1000 := by have := g.is; rwa [e0] at this
  obtain ⟨h1, h2⟩ := run_plain (w := w) (pa := wO) (pb := wK) (start := wO) (c := 1) (st := fun k => if k = 0 then wO else fsub wO wO) hs (by omega) rfl ⟨1, s_one, by decide⟩
    (fun j hj => by
      obtain rfl : j = 0 := by omega
      refine ⟨?_, k.ok⟩
      show (FloatKind.f32.format.order wO wO == some .gt || FloatKind.f32.format.order wO wO == some .eq) = true
      rw [ceq_t s_one s_one rfl]; simp)
    (by show (FloatKind.f32.format.order (fsub wO wO) wK == some .gt || FloatKind.f32.format.order (fsub wO wO) wK == some .eq) = false
        rw [cgt_f hz s_thousand (by decide +kernel), ceq_f hz s_thousand (by decide +kernel)]; rfl) g.ok
  exact ⟨_, _, _, h1, h2⟩
end Go.Proofs.Ytojbgeimlipajaa
