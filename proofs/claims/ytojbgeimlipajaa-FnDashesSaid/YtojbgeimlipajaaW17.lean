/- Walks: what FnDashes calls. -/
import Derived.Test.YtojbgeimlipajaaW14
import Derived.Test.YtojbgeimlipajaaW16
namespace Go.Proofs.Ytojbgeimlipajaa
open Go.RowKit Fl

def DashGot (wq : World) (outs : List (List Pt)) (n : Nat) (e : Ending) (w' : World) : Prop :=
  ∃ base g c vs, e = .returned (.tuple #[.slice (some ⟨g, 0, none⟩) n c, .bool true]) ∧ Below wq.heap.size wq w' ∧ Mem w' base (.slice (some ⟨g, 0, none⟩) n c) undef vs outs none

def IsPts (w : World) (g n : Nat) (P : Nat → Pt) : Prop := g < w.heap.size ∧ ∀ k, k < n → w.cell? ⟨g, 0 + k, none⟩ = some (cx (P k))
theorem IsPts.below {w w' : World} {g n : Nat} {P : Nat → Pt} (h : IsPts w g n P) (hb : Below w.heap.size w w') : IsPts w' g n P :=
  ⟨Nat.lt_of_lt_of_le h.1 hb.size, fun k hk => (hb.cell (p := ⟨g, 0 + k, none⟩) h.1).trans (h.2 k hk)⟩

theorem dash_at {pw : Path} {wq : World} {g c pa pb c0 r0 start n : Nat} {st : Nat → Nat} {I : Nat → Nat → DS → Prop} (hp : IsPts wq g (pw.N + 1) pw.P) (hR : RunIn pw.P pw.N c0 r0 pa pb start st I) (spa : ∃ v, S pa v ∧ 0 < v) (spb : ∃ v, S pb v ∧ 0 < v)
    (hn : (outsD (runD pa pb pw.P pw.N ⟨c0, r0, [], [pw.P 0]⟩)).length = n) :
    Calls Try.prog 8 #[.slice (some ⟨g, 0, none⟩) (pw.N + 1) c, .slice (some ⟨wq.heap.size, 0, none⟩) 2 2, .float .f32 start] (wq.alloc (.cells #[.float .f32 pa, .float .f32 pb] 28)) (DashGot wq (outsD (runD pa pb pw.P pw.N ⟨c0, r0, [], [pw.P 0]⟩)) n) := by
  have hb := (Below.refl _ wq).alloc (Nat.le_refl _) (.cells #[.float .f32 pa, .float .f32 pb] 28)
  have hp' := hp.below hb
  have hnew := World.alloc_heap_new wq (.cells #[.float .f32 pa, .float .f32 pb] 28)
  have hin : DashIn (wq.alloc (.cells #[.float .f32 pa, .float .f32 pb] 28)) g 0 c wq.heap.size 0 pa pb pw.N pw.P :=
    ⟨pw.n0, pw.n6, hp'.1, by simp, hp'.2, by simp only [World.cell?, hnew]; rfl, by simp only [World.cell?, hnew]; rfl, pw.fin, pw.segs, pw.pos, spa, spb⟩
  refine (dashPath_any _ g 0 c wq.heap.size 0 2 pa pb pw.N c0 r0 start pw.P st I hin hR).mono ?_
  rintro e w' ⟨base, v13, vs, h1, rfl, h2, h3⟩
  obtain ⟨g', c', rfl, _⟩ := h3.slice13
  have hl := h3.len
  rw [hn] at hl
  rw [hl] at h3 ⊢
  exact ⟨base, g', c', vs, rfl, hb.trans (h2.mono (by simp)), h3⟩
theorem Mem.below {w w' : World} {base : Nat} {v13 v14 : Value} {vs : List Value} {outs : List (List Pt)} {dash : Option (List Pt)} (h : Mem w base v13 v14 vs outs dash) (hb : Below w.heap.size w w') : Mem w' base v13 v14 vs outs dash :=
  h.quiet ⟨hb.os, hb.tape, hb.output, hb.size, fun k hk _ => hb.block k hk⟩

/-- the one dash of the run without a cut -/
theorem whole_cells {pw : Path} {w : World} {base g c : Nat} {vs : List Value} (h : Mem w base (.slice (some ⟨g, 0, none⟩) 1 c) undef vs [pathL pw.P pw.N] none) :
    ∃ g' c', w.cell? ⟨g, 0, none⟩ = some (.slice (some ⟨g', 0, none⟩) (pw.N + 1) c') ∧ ∀ k, k < pw.N + 1 → w.cell? ⟨g', 0 + k, none⟩ = some (cx (pw.P k)) := by
  have hl : vs.length = 1 := h.len
  obtain ⟨g1, c1, e, _, _, hc⟩ := h.slice13
  rw [hl] at e
  cases e
  obtain ⟨g2, c2, e2, _, _, hc2⟩ := h.row 0 (by omega)
  have h0 := hc 0 (by omega)
  rw [e2] at h0
  have e3 : ([pathL pw.P pw.N] : List (List Pt)).getD 0 [] = pathL pw.P pw.N := rfl
  rw [e3] at h0 hc2
  rw [pathL_len] at h0 hc2
  refine ⟨g2, c2, h0, fun k hk => ?_⟩
  rw [hc2 k hk, pathL_get pw.P pw.N k (by omega)]
theorem Mem.dashAt {w : World} {base g n c : Nat} {v14 : Value} {vs : List Value} {outs : List (List Pt)} {dash : Option (List Pt)} (h : Mem w base (.slice (some ⟨g, 0, none⟩) n c) v14 vs outs dash) (j : Nat) (hj : j < n) :
    g < w.heap.size ∧ ∃ g' c', w.cell? ⟨g, j, none⟩ = some (.slice (some ⟨g', 0, none⟩) (outs.getD j []).length c') ∧ g' < w.heap.size ∧ ∀ k, k < (outs.getD j []).length → w.cell? ⟨g', k, none⟩ = some (cx ((outs.getD j []).getD k (0, 0))) := by
  obtain ⟨g1, c1, e, _, q, hc⟩ := h.slice13
  have hn : n = vs.length := by simp at e; exact e.2.1
  subst hn
  cases e
  obtain ⟨g2, c2, e2, _, q2, hc2⟩ := h.row j hj
  have h0 := hc j hj
  rw [e2, Nat.zero_add] at h0
  refine ⟨q, g2, c2, h0, q2, fun k hk => ?_⟩
  have := hc2 k hk
  rwa [Nat.zero_add] at this
end Go.Proofs.Ytojbgeimlipajaa
