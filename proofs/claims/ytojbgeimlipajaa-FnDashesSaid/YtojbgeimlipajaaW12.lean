/- The memory of DashPath: the dashes that are done, and the one that is under way. -/
import Derived.Test.YtojbgeimlipajaaW11
import Derived.OwnWalk
namespace Go.Proofs.Ytojbgeimlipajaa
open Go.RowKit Fl

def cells (ps : List Pt) : List Value := ps.map cx

theorem rows_ne {w : World} {base e e' : Nat} {v v' : Value} {n n' : Nat} {xs xs' : List Value} (h : w.ownsRow base e 1 v n xs) (h' : w.ownsRow base e' 1 v' n' xs') (hne : e ≠ e') (hv : v.ownBlock ≠ none) : v.ownBlock ≠ v'.ownBlock := by
  intro he
  rcases h.2 with ⟨rfl, _⟩ | ⟨g, cap, cur, rfl, _, hg, _⟩
  · exact hv rfl
  · rcases h'.2 with ⟨rfl, _⟩ | ⟨g', cap', cur', rfl, _, hg', _⟩
    · exact hv he
    · have e1 : g = g' := by simpa [Value.ownBlock] using he
      subst e1
      rw [hg] at hg'
      simp at hg'
      exact hne hg'.2

structure Mem (w : World) (base : Nat) (v13 v14 : Value) (vs : List Value) (outs : List (List Pt)) (dash : Option (List Pt)) : Prop where
  len : vs.length = outs.length
  out : w.ownsRow base 24 1 v13 vs.length vs
  onn : v13.ownBlock ≠ none
  rows : ∀ j, j < vs.length → w.ownsRow base 30 1 (vs.getD j undef) (outs.getD j []).length (cells (outs.getD j [])) ∧ (vs.getD j undef).ownBlock ≠ none
  dash : ∀ ps, dash = some ps → w.ownsRow base 30 1 v14 ps.length (cells ps) ∧ v14.ownBlock ≠ none ∧ ∀ j, j < vs.length → (vs.getD j undef).ownBlock ≠ v14.ownBlock

/-- what touches none of it -/
theorem Mem.kept {w w' : World} {base : Nat} {v13 v14 : Value} {vs : List Value} {outs : List (List Pt)} {dash : Option (List Pt)} (h : Mem w base v13 v14 vs outs dash) {row : Option Nat} (hg : w.grownBy w' row) (hr : ∀ k, row = some k → k < base) : Mem w' base v13 v14 vs outs dash := by
  have ne : ∀ {e n : Nat} {v : Value} {xs : List Value}, w.ownsRow base e 1 v n xs → v.ownBlock = none ∨ v.ownBlock ≠ row := fun {e n v xs} hv => by
    cases hb : v.ownBlock with
    | none => exact .inl rfl
    | some k => exact .inr fun e => by have h1 := (hv.lt k hb).1; have h2 := hr k e.symm; omega
  refine ⟨h.len, h.out.kept hg (ne h.out), h.onn, fun j hj => ?_, fun ps hp => ?_⟩
  · obtain ⟨h1, h2⟩ := h.rows j hj
    exact ⟨h1.kept hg (ne h1), h2⟩
  · obtain ⟨h1, h2⟩ := h.dash ps hp
    exact ⟨h1.kept hg (ne h1), h2⟩
theorem Mem.alloc {w : World} {base : Nat} {v13 v14 : Value} {vs : List Value} {outs : List (List Pt)} {dash : Option (List Pt)} (h : Mem w base v13 v14 vs outs dash) (o : Obj) : Mem (w.alloc o) base v13 v14 vs outs dash :=
  h.kept (World.grownBy_alloc w o none) (fun k e => by cases e)
theorem grownBy_drewN (w : World) (n : Nat) : w.grownBy (w.drewN n) none := ⟨rfl, rfl, rfl, Nat.le_refl _, fun _ _ _ => rfl⟩
theorem Mem.drewN {w : World} {base : Nat} {v13 v14 : Value} {vs : List Value} {outs : List (List Pt)} {dash : Option (List Pt)} (h : Mem w base v13 v14 vs outs dash) (n : Nat) : Mem (w.drewN n) base v13 v14 vs outs dash :=
  h.kept (grownBy_drewN w n) (fun k e => by cases e)
theorem Mem.set {w : World} {base b : Nat} {v13 v14 : Value} {vs : List Value} {outs : List (List Pt)} {dash : Option (List Pt)} (h : Mem w base v13 v14 vs outs dash) (hb : b < base) (u : Value) : Mem (w.setCell ⟨b, 0, none⟩ u) base v13 v14 vs outs dash := by
  have hg : w.grownBy (w.setCell ⟨b, 0, none⟩ u) (some b) := by
    refine ⟨rfl, rfl, rfl, Nat.le_of_eq ?_, fun k hk hne => Below.heap_setCell _ _ _ _ (fun e => hne (by rw [e]))⟩
    unfold World.setCell
    simp
  exact h.kept hg (fun k e => by cases e; exact hb)
/-- the dash under way is let go -/
theorem Mem.drop {w : World} {base : Nat} {v13 v14 : Value} {vs : List Value} {outs : List (List Pt)} {dash : Option (List Pt)} (h : Mem w base v13 v14 vs outs dash) (v : Value) : Mem w base v13 v vs outs none :=
  ⟨h.len, h.out, h.onn, h.rows, fun _ e => by cases e⟩

/-- append to the dash -/
theorem Mem.onDash {w w' : World} {base g n cap : Nat} {v13 v14 : Value} {vs : List Value} {outs : List (List Pt)} {ps : List Pt} {q : Pt} (h : Mem w base v13 v14 vs outs (some ps))
    (hown : w'.ownsRow base 30 1 (.slice (some ⟨g, 0, none⟩) n cap) n (cells ps ++ [cx q])) (hn : n = ps.length + 1) (hg : w.grownBy w' v14.ownBlock) (hat : v14.ownBlock = some g ∨ w.heap.size ≤ g) :
    Mem w' base v13 (.slice (some ⟨g, 0, none⟩) n cap) vs outs (some (ps ++ [q])) := by
  subst hn
  obtain ⟨d1, d2, d3⟩ := h.dash ps rfl
  refine ⟨h.len, h.out.kept hg (.inr (rows_ne h.out d1 (by decide) h.onn)), h.onn, fun j hj => ?_, fun ps' hp => ?_⟩
  · obtain ⟨h1, h2⟩ := h.rows j hj
    exact ⟨h1.kept hg (.inr (d3 j hj)), h2⟩
  · cases hp
    refine ⟨by simpa [cells] using hown, by simp [Value.ownBlock], fun j hj => ?_⟩
    obtain ⟨h1, h2⟩ := h.rows j hj
    intro e
    have e' : (vs.getD j undef).ownBlock = some g := e
    rcases hat with hat | hat
    · exact d3 j hj (e'.trans hat.symm)
    · have := (h1.lt g e').2
      omega

theorem getD_app' {α : Type} (l : List α) (x d : α) (k : Nat) (h : k < l.length) : (l ++ [x]).getD k d = l.getD k d := by
  simp [List.getD_eq_getElem?_getD, List.getElem?_append_left h]
theorem getD_end' {α : Type} (l : List α) (x d : α) : (l ++ [x]).getD l.length d = x := by simp [List.getD_eq_getElem?_getD]
/-- append of the dash to what is done -/
theorem Mem.onOut {w w' : World} {base n : Nat} {v13 v13' v14 v : Value} {vs : List Value} {outs : List (List Pt)} {ps : List Pt} (h : Mem w base v13 v14 vs outs (some ps))
    (hown : w'.ownsRow base 24 1 v13' n (vs ++ [v14])) (hn : n = vs.length + 1) (hnn : v13'.ownBlock ≠ none) (hg : w.grownBy w' v13.ownBlock) :
    Mem w' base v13' v (vs ++ [v14]) (outs ++ [ps]) none := by
  subst hn
  obtain ⟨d1, d2, d3⟩ := h.dash ps rfl
  refine ⟨by simp [h.len], by simpa using hown, hnn, fun j hj => ?_, fun _ e => by cases e⟩
  have hj' : j < vs.length + 1 := by simpa using hj
  by_cases he : j < vs.length
  · obtain ⟨h1, h2⟩ := h.rows j he
    rw [getD_app' _ _ _ _ he, getD_app' _ _ _ _ (by rw [← h.len]; exact he)]
    exact ⟨h1.kept hg (.inr (rows_ne h1 h.out (by decide) h2)), h2⟩
  · obtain rfl : j = vs.length := by omega
    rw [getD_end', show vs.length = outs.length from h.len, getD_end']
    exact ⟨d1.kept hg (.inr (rows_ne d1 h.out (by decide) d2)), d2⟩

/-- a new dash -/
theorem Mem.fresh {w : World} {base : Nat} {v13 v14 : Value} {vs : List Value} {outs : List (List Pt)} (h : Mem w base v13 v14 vs outs none) (hb : base ≤ w.heap.size) (p : Pt) :
    Mem (w.alloc (.cells #[cx p] 30)) base v13 (.slice (some ⟨w.heap.size, 0, none⟩) 1 1) vs outs (some [p]) := by
  have h' := h.alloc (.cells #[cx p] 30)
  refine ⟨h'.len, h'.out, h'.onn, h'.rows, fun ps hp => ?_⟩
  cases hp
  refine ⟨⟨rfl, .inr ⟨w.heap.size, 1, #[cx p], rfl, hb, World.alloc_heap_new _ _, Nat.le_refl _, by decide, rfl, rfl⟩⟩, by simp [Value.ownBlock], fun j hj => ?_⟩
  obtain ⟨h1, h2⟩ := h.rows j hj
  intro e
  have e' : (vs.getD j undef).ownBlock = some w.heap.size := e
  have := (h1.lt _ e').2
  omega

/-- the two boxes: the pattern, the count -/
structure Boxes (w0 w : World) (b4 b8 base : Nat) (pv : Value) (cnt : Int) : Prop where
  bel : Below w0.heap.size w0 w
  lo : w0.heap.size ≤ b4
  l48 : b4 < b8
  l8 : b8 < base
  sz : base ≤ w.heap.size
  pb : w.heap[b4]? = some (.cells #[pv] 34 (0, 0))
  cb : w.heap[b8]? = some (.cells #[.int .i64 cnt] 3 (0, 0))
theorem Boxes.kept {w0 w w' : World} {b4 b8 base : Nat} {pv : Value} {cnt : Int} (h : Boxes w0 w b4 b8 base pv cnt) {row : Option Nat} (hg : w.grownBy w' row) (hr : ∀ k, row = some k → base ≤ k) : Boxes w0 w' b4 b8 base pv cnt := by
  have h1 := h.lo
  have h2 := h.l48
  have h3 := h.l8
  have h4 := h.sz
  have ne : ∀ k, k < base → some k ≠ row := fun k hk e => by have := hr k e.symm; omega
  exact ⟨h.bel.grown hg (by omega) (fun k e => by have := hr k e; omega), h.lo, h.l48, h.l8, Nat.le_trans h.sz hg.size, by rw [hg.block b4 (by omega) (ne _ (by omega))]; exact h.pb, by rw [hg.block b8 (by omega) (ne _ (by omega))]; exact h.cb⟩
theorem Boxes.alloc {w0 w : World} {b4 b8 base : Nat} {pv : Value} {cnt : Int} (h : Boxes w0 w b4 b8 base pv cnt) (o : Obj) : Boxes w0 (w.alloc o) b4 b8 base pv cnt :=
  h.kept (World.grownBy_alloc w o none) (fun k e => by cases e)
theorem Boxes.drewN {w0 w : World} {b4 b8 base : Nat} {pv : Value} {cnt : Int} (h : Boxes w0 w b4 b8 base pv cnt) (n : Nat) : Boxes w0 (w.drewN n) b4 b8 base pv cnt :=
  h.kept (grownBy_drewN w n) (fun k e => by cases e)
theorem Boxes.set {w0 w : World} {b4 b8 base : Nat} {pv : Value} {cnt : Int} (h : Boxes w0 w b4 b8 base pv cnt) (u : Int) : Boxes w0 (w.setCell ⟨b8, 0, none⟩ (.int .i64 u)) b4 b8 base pv u := by
  have h1 := h.lo
  have h2 := h.l48
  refine ⟨h.bel.setCell (by show w0.heap.size ≤ b8; omega) _, h.lo, h.l48, h.l8, ?_, ?_, one_setCell h.cb⟩
  · have := h.sz
    unfold World.setCell
    simpa using this
  · rw [Below.heap_setCell _ _ _ _ (by show b4 ≠ b8; omega)]
    exact h.pb
theorem Boxes.own {w0 w w' : World} {b4 b8 base e n : Nat} {pv v : Value} {cnt : Int} {xs : List Value} (h : Boxes w0 w b4 b8 base pv cnt) (hv : w.ownsRow base e 1 v n xs) (hg : w.grownBy w' v.ownBlock) : Boxes w0 w' b4 b8 base pv cnt :=
  h.kept hg (fun k e => (hv.lt k e).1)
end Go.Proofs.Ytojbgeimlipajaa
