/- What DashPath's memory reads as. -/
import Derived.Test.YtojbgeimlipajaaW12b
namespace Go.Proofs.Ytojbgeimlipajaa
open Go.RowKit Fl

theorem row_slice {w : World} {base e n : Nat} {v : Value} {xs : List Value} (h : w.ownsRow base e 1 v n xs) (hn : v.ownBlock ≠ none) : ∃ g c, v = .slice (some ⟨g, 0, none⟩) n c ∧ base ≤ g ∧ g < w.heap.size ∧ ∀ j u, xs[j]? = some u → w.cell? ⟨g, 0 + j, none⟩ = some u := by
  have hc := fun g => h.cells (g := g)
  have hl := h.lt
  rcases h.2 with ⟨rfl, _⟩ | ⟨g, cap, cur, rfl, hb, _⟩
  · exact absurd rfl hn
  · refine ⟨g, cap, rfl, hb, (hl g rfl).2, fun j u hu => ?_⟩
    have := hc g rfl j u hu
    have e : (⟨g, 0, none⟩ : Addr).add j = ⟨g, 0 + j, none⟩ := by rw [Nat.zero_add]; by_cases h0 : j = 0 <;> simp [Addr.add, h0]
    rw [← e]; exact this

theorem Mem.slice13 {w : World} {base : Nat} {v13 v14 : Value} {vs : List Value} {outs : List (List Pt)} {dash : Option (List Pt)} (h : Mem w base v13 v14 vs outs dash) :
    ∃ g c, v13 = .slice (some ⟨g, 0, none⟩) vs.length c ∧ base ≤ g ∧ g < w.heap.size ∧ ∀ j, j < vs.length → w.cell? ⟨g, 0 + j, none⟩ = some (vs.getD j undef) := by
  obtain ⟨g, c, h1, h2, h3, h4⟩ := row_slice h.out h.onn
  refine ⟨g, c, h1, h2, h3, fun j hj => h4 j _ ?_⟩
  rw [List.getElem?_eq_getElem hj, List.getD_eq_getElem?_getD, List.getElem?_eq_getElem hj]; rfl
theorem Mem.slice14 {w : World} {base : Nat} {v13 v14 : Value} {vs : List Value} {outs : List (List Pt)} {ps : List Pt} (h : Mem w base v13 v14 vs outs (some ps)) : ∃ g c, v14 = .slice (some ⟨g, 0, none⟩) ps.length c := by
  obtain ⟨d1, d2, _⟩ := h.dash ps rfl
  obtain ⟨g, c, h1, _⟩ := row_slice d1 d2
  exact ⟨g, c, h1⟩
/-- a dash, read -/
theorem Mem.row {w : World} {base : Nat} {v13 v14 : Value} {vs : List Value} {outs : List (List Pt)} {dash : Option (List Pt)} (h : Mem w base v13 v14 vs outs dash) (j : Nat) (hj : j < vs.length) :
    ∃ g c, vs.getD j undef = .slice (some ⟨g, 0, none⟩) (outs.getD j []).length c ∧ base ≤ g ∧ g < w.heap.size ∧ ∀ k, k < (outs.getD j []).length → w.cell? ⟨g, 0 + k, none⟩ = some (cx ((outs.getD j []).getD k (0, 0))) := by
  obtain ⟨h1, h2⟩ := h.rows j hj
  obtain ⟨g, c, q1, q2, q3, q4⟩ := row_slice h1 h2
  refine ⟨g, c, q1, q2, q3, fun k hk => q4 k _ ?_⟩
  generalize outs.getD j [] = ps at *
  simp [cells, List.getD_eq_getElem?_getD, List.getElem?_eq_getElem hk]

def addrOf : Value → Option Addr | .slice a _ _ => a | _ => none
def lenOf : Value → Nat | .slice _ n _ => n | _ => 0
def capOf : Value → Nat | .slice _ _ c => c | _ => 0

theorem Mem.look {w : World} {base g c n : Nat} {v14 : Value} {vs : List Value} {outs : List (List Pt)} {dash : Option (List Pt)} (h : Mem w base (.slice (some ⟨g, 0, none⟩) n c) v14 vs outs dash) (h100 : vs.length ≤ 100) (hf : ∀ ps ∈ outs, (∀ p ∈ ps, FinP p) ∧ ps.length ≤ 100) :
    Calls Try.prog 23 #[.slice (some ⟨g, 0, none⟩) n c, .func (.func 24) #[] #[]] w fun e w' => e = .returned (.bool false) ∧ w = w' := by
  obtain ⟨g', c', e, _, _, hc⟩ := h.slice13
  cases e
  refine contains24_any g 0 vs.length c (fun j => addrOf (vs.getD j undef)) (fun j => lenOf (vs.getD j undef)) (fun j => capOf (vs.getD j undef)) w (by omega) (fun j hj => ?_) (fun j hj => ?_)
  · rw [hc j hj]
    obtain ⟨g1, c1, e, _⟩ := h.row j hj
    rw [e]; rfl
  · obtain ⟨g1, c1, e, _, _, hcell⟩ := h.row j hj
    rw [e]
    have hj' : j < outs.length := by rw [← h.len]; exact hj
    have em : outs.getD j [] ∈ outs := by rw [List.getD_eq_getElem?_getD, List.getElem?_eq_getElem hj']; exact List.getElem_mem hj'
    obtain ⟨f1, f2⟩ := hf _ em
    refine pointsNot_any g1 0 (outs.getD j []).length c1 (fun k => (outs.getD j []).getD k (0, 0)) w (by omega) hcell (fun k hk => f1 _ ?_)
    generalize outs.getD j [] = ps at *
    rw [List.getD_eq_getElem?_getD, List.getElem?_eq_getElem hk]; exact List.getElem_mem hk
end Go.Proofs.Ytojbgeimlipajaa
