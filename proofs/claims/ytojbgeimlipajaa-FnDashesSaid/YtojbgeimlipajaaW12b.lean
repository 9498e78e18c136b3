/- The appends of DashPath. -/
import Derived.Test.YtojbgeimlipajaaW12
namespace Go.Proofs.Ytojbgeimlipajaa
open Go.RowKit Fl

theorem info24 : (Try.prog.info? 24).map (fun i => (i.zero, i.size, i.bytes)) = some (some (.slice none 0 0), 1, 24) := by kernel_rfl

/-- dash = append(dash, q): the point lies in a block of its own -/
theorem step_dash {ops : Array Oper} {rest : List Oper} {o : Oper} {a : Act} {Q : Exit → Act → World → Prop} {w0 w : World} {b4 b8 base : Nat} {pv : Value} {cnt : Int} {v13 v14 : Value} {vs : List Value} {outs : List (List Pt)} {ps : List Pt} (q : Pt)
    (hM : Mem w base v13 v14 vs outs (some ps)) (bx : Boxes w0 w b4 b8 base pv cnt) (hlen : ps.length ≤ 100) (hgd : o.guard = none) (s x : Operand)
    (ho : o.op = .call { callee := .builtin .append, args := #[s, x], argTypes := #[24, 24] }) (hs : a.eval s = v14) (hx : a.eval x = .slice (some ⟨w.heap.size, 0, none⟩) 1 1)
    (h : ∀ g cap w', Mem w' base v13 (.slice (some ⟨g, 0, none⟩) (ps.length + 1) cap) vs outs (some (ps ++ [q])) → Boxes w0 w' b4 b8 base pv cnt →
      wpList Try.prog ops Q rest (a.put o.dst (.slice (some ⟨g, 0, none⟩) (ps.length + 1) cap)) w') : wpList Try.prog ops Q (o :: rest) a (w.alloc (.cells #[cx q] 30)) := by
  obtain ⟨i0, hi, hz0, hz1, hz2⟩ := info_parts info30
  obtain ⟨d1, d2, d3⟩ := hM.dash ps rfl
  refine wpList_append_lies _ hgd s x 24 ho base 30 i0 (.complex .f32 0 0) 1 8 Try.underlying24 hi hz0 hz1 hz2 rfl (by decide) v14 ps.length (cells ps) hs (d1.alloc _) ⟨w.heap.size, 0, none⟩ 1 1 [cx q] hx rfl (cell_one_new _ _ _) (fun u hu => by simp at hu; subst hu; rfl)
    (by decide) (by unfold maxLen; omega) (by omega) (by have := bx.sz; simp; omega) _ rfl ?_
  intro g cap w' hown hg hat hlt
  exact h g cap w' ((hM.alloc _).onDash hown rfl hg (hat.imp id fun e => Nat.le_of_eq e.symm)) ((bx.alloc _).own (d1.alloc _) hg)

/-- out = append(out, dash) -/
theorem step_out {ops : Array Oper} {rest : List Oper} {o : Oper} {a : Act} {Q : Exit → Act → World → Prop} {w0 w : World} {b4 b8 base : Nat} {pv : Value} {cnt : Int} {v13 v14 : Value} {vs : List Value} {outs : List (List Pt)} {ps : List Pt} (v : Value)
    (hM : Mem w base v13 v14 vs outs (some ps)) (bx : Boxes w0 w b4 b8 base pv cnt) (hlen : vs.length ≤ 100) (hgd : o.guard = none) (s x : Operand)
    (ho : o.op = .call { callee := .builtin .append, args := #[s, x], argTypes := #[31, 31] }) (hs : a.eval s = v13) (hx : a.eval x = .slice (some ⟨w.heap.size, 0, none⟩) 1 1) (h14 : v14.oneCell' = true)
    (h : ∀ g cap w', Mem w' base (.slice (some ⟨g, 0, none⟩) (vs.length + 1) cap) v (vs ++ [v14]) (outs ++ [ps]) none → Boxes w0 w' b4 b8 base pv cnt →
      wpList Try.prog ops Q rest (a.put o.dst (.slice (some ⟨g, 0, none⟩) (vs.length + 1) cap)) w') : wpList Try.prog ops Q (o :: rest) a (w.alloc (.cells #[v14] 24)) := by
  obtain ⟨i0, hi, hz0, hz1, hz2⟩ := info_parts info24
  refine wpList_append_lies _ hgd s x 31 ho base 24 i0 (.slice none 0 0) 1 24 Try.underlying31 hi hz0 hz1 hz2 rfl (by decide) v13 vs.length vs hs (hM.out.alloc _) ⟨w.heap.size, 0, none⟩ 1 1 [v14] hx rfl (cell_one_new _ _ _) (fun u hu => by simp at hu; subst hu; exact h14)
    (by decide) (by unfold maxLen; omega) (by omega) (by have := bx.sz; simp; omega) _ rfl ?_
  intro g cap w' hown hg hat hlt
  exact h g cap w' ((hM.alloc _).onOut hown rfl (by simp [Value.ownBlock]) hg) ((bx.alloc _).own (hM.out.alloc _) hg)

def scW (p q : Pt) (g : Nat) : Pt := (fmul (fsub q.1 p.1) (fdiv g (longW (subP q p))), fmul (fsub q.2 p.2) (fdiv g (longW (subP q p))))
theorem scale_pl {p q : Pt} {g : Nat} (h : PlaceOk p q g) (w : World) :
    Calls Try.prog 22 #[.complex .f32 (subP q p).1 (subP q p).2, .float .f32 (fdiv g (longW (subP q p)))] w fun e w' => e = .returned (.complex .f32 (scW p q g).1 (scW p q g).2) ∧ w = w' :=
  scale_any (subP q p) (fdiv g (longW (subP q p))) h.m1 h.m2 w
theorem plus_pl {p q : Pt} {g : Nat} (h : PlaceOk p q g) (w : World) :
    Calls Try.prog 21 #[.complex .f32 p.1 p.2, .complex .f32 (scW p q g).1 (scW p q g).2] w fun e w' => e = .returned (.complex .f32 (placeW p q g).1 (placeW p q g).2) ∧ w = w' :=
  plus_any p (scW p q g) h.a1 h.a2 w
theorem minus_pl (p q : Pt) (h1 : floatBits .sub .f32 q.1 p.1 = some (fsub q.1 p.1)) (h2 : floatBits .sub .f32 q.2 p.2 = some (fsub q.2 p.2)) (w : World) :
    Calls Try.prog 20 #[.complex .f32 q.1 q.2, .complex .f32 p.1 p.2] w fun e w' => e = .returned (.complex .f32 (subP q p).1 (subP q p).2) ∧ w = w' := minus_any q p h1 h2 w
theorem long_pl (p q : Pt) (h : LongOk (subP q p)) (w : World) : Calls Try.prog 19 #[.complex .f32 (subP q p).1 (subP q p).2] w fun e w' => e = .returned (.float .f32 (longW (subP q p))) ∧ w = w' := longOf_any (subP q p) h w
end Go.Proofs.Ytojbgeimlipajaa
