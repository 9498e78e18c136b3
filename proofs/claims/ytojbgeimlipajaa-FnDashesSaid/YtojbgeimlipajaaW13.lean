/- Walks: DashPath, what it is given. -/
import Derived.Test.YtojbgeimlipajaaW12c
import Derived.Deep.LoopGhost
namespace Go.Proofs.Ytojbgeimlipajaa
open Go.RowKit Fl

structure DashIn (w : World) (b off cap pg poff pa pb N : Nat) (P : Nat → Pt) : Prop where
  n1 : 1 ≤ N
  n6 : N ≤ 6
  bl : b < w.heap.size
  gl : pg < w.heap.size
  pts : ∀ k, k < N + 1 → w.cell? ⟨b, off + k, none⟩ = some (cx (P k))
  p0 : w.cell? ⟨pg, poff, none⟩ = some (.float .f32 pa)
  p1 : w.cell? ⟨pg, poff + 1, none⟩ = some (.float .f32 pb)
  fin : ∀ k, k < N + 1 → FinP (P k)
  seg : ∀ k, k + 1 < N + 1 → floatBits .sub .f32 (P (k + 1)).1 (P k).1 = some (fsub (P (k + 1)).1 (P k).1) ∧ floatBits .sub .f32 (P (k + 1)).2 (P k).2 = some (fsub (P (k + 1)).2 (P k).2) ∧ LongOk (subP (P (k + 1)) (P k))
  pos : ∀ k, k + 1 < N + 1 → ∃ l, S (longW (subP (P (k + 1)) (P k))) l ∧ 0 < l
  spa : ∃ v, S pa v ∧ 0 < v
  spb : ∃ v, S pb v ∧ 0 < v
theorem DashIn.below {w w' : World} {b off cap pg poff pa pb N : Nat} {P : Nat → Pt} (h : DashIn w b off cap pg poff pa pb N P) (hb : Below w.heap.size w w') : DashIn w' b off cap pg poff pa pb N P :=
  ⟨h.n1, h.n6, Nat.lt_of_lt_of_le h.bl hb.size, Nat.lt_of_lt_of_le h.gl hb.size, fun k hk => (hb.cell (p := ⟨b, off + k, none⟩) h.bl).trans (h.pts k hk), (hb.cell (p := ⟨pg, poff, none⟩) h.gl).trans h.p0, (hb.cell (p := ⟨pg, poff + 1, none⟩) h.gl).trans h.p1, h.fin, h.seg, h.pos, h.spa, h.spb⟩

theorem DashIn.isPath {w : World} {b off cap pg poff pa pb N : Nat} {P : Nat → Pt} (h : DashIn w b off cap pg poff pa pb N P) :
    Calls Try.prog 14 #[.slice (some ⟨b, off, none⟩) (N + 1) cap] w fun e w' => e = .returned (.bool true) ∧ Below w.heap.size w w' :=
  isPath_any b off (N + 1) cap P w (by have := h.n1; omega) (by have := h.n6; omega) h.pts h.bl h.fin h.seg h.pos
theorem DashIn.areMore {w : World} {b off cap pg poff pa pb N : Nat} {P : Nat → Pt} (h : DashIn w b off cap pg poff pa pb N P) (pc : Nat) :
    Calls Try.prog 15 #[.slice (some ⟨pg, poff, none⟩) 2 pc] w fun e w' => e = .returned (.bool true) ∧ w = w' := by
  refine areMore_any pg poff 2 pc (fun k => if k = 0 then pa else pb) w (by omega) (fun k hk => ?_) (fun k hk => ?_)
  · rcases (show k = 0 ∨ k = 1 by omega) with rfl | rfl
    · exact h.p0
    · exact h.p1
  · rcases (show k = 0 ∨ k = 1 by omega) with rfl | rfl
    · exact h.spa
    · exact h.spb

/-- the run in words, abstractly -/
structure RunIn (P : Nat → Pt) (N c r0 pa pb start : Nat) (st : Nat → Nat) (I : Nat → Nat → DS → Prop) : Prop where
  c1 : c ≤ 1
  s0 : st 0 = start
  fin : ∃ v, S start v ∧ 0 ≤ v
  more : ∀ k, k < c → (FloatKind.f32.format.order (st k) (pat pa pb k) == some .gt || FloatKind.f32.format.order (st k) (pat pa pb k) == some .eq) = true ∧ floatBits .sub .f32 (st k) (pat pa pb k) = some (st (k + 1))
  done : (FloatKind.f32.format.order (st c) (pat pa pb c) == some .gt || FloatKind.f32.format.order (st c) (pat pa pb c) == some .eq) = false
  rest : floatBits .sub .f32 (pat pa pb c) (st c) = some r0
  i0 : I 0 0 ⟨c, r0, [], [P 0]⟩
  sub : ∀ i g s, i < N → I i g s → floatBits .sub .f32 (longW (subP (P (i + 1)) (P i))) g = some (fsub (longW (subP (P (i + 1)) (P i))) g)
  cut : ∀ i g s, i < N → I i g s → condW (P i) (P (i + 1)) g s.rest = true → CutOk (P i) (P (i + 1)) g s.rest ∧ I i (fadd g s.rest) (stepD pa pb (P i) (P (i + 1)) g s)
  leave : ∀ i g s, i < N → I i g s → condW (P i) (P (i + 1)) g s.rest = false → floatBits .sub .f32 s.rest (fsub (longW (subP (P (i + 1)) (P i))) g) = some (endD (P i) (P (i + 1)) g s).rest ∧ I (i + 1) 0 (endD (P i) (P (i + 1)) g s)
  bd : ∀ i g s, I i g s → s.cnt ≤ 31 ∧ s.out.length ≤ 16 ∧ (s.cnt % 2 = 0 → s.dash.length ≤ i + 1)
  fins : ∀ g s, I N g s → ∀ ps ∈ outsD s, (∀ p ∈ ps, FinP p) ∧ ps.length ≤ 100

def dashO (s : DS) : Option (List Pt) := if s.cnt % 2 = 0 then some s.dash else none

def DashOut (w : World) (outs : List (List Pt)) (e : Ending) (w' : World) : Prop :=
  ∃ base v13 vs, w.heap.size ≤ base ∧ e = .returned (.tuple #[v13, .bool true]) ∧ Below w.heap.size w w' ∧ Mem w' base v13 undef vs outs none

theorem current_bx {w wr : World} {b off cap pg poff pa pb N pc b4 b8 base k : Nat} {P : Nat → Pt} (h : DashIn w b off cap pg poff pa pb N P) (bx : Boxes w wr b4 b8 base (.slice (some ⟨pg, poff, none⟩) 2 pc) (k : Int)) (hk : k ≤ 2000) :
    Calls Try.prog 17 #[.pointer (some ⟨b4, 0, none⟩), .pointer (some ⟨b8, 0, none⟩)] wr fun e w' => e = .returned (.float .f32 (pat pa pb k)) ∧ wr.grownBy w' none := by
  have h1 := h.below bx.bel
  refine (current_any b4 b8 pg poff pc pa pb k wr (cell_of_one bx.pb) (cell_of_one bx.cb) h1.p0 h1.p1 hk).mono ?_
  rintro e w' ⟨rfl, q, rfl⟩
  exact ⟨rfl, grownBy_drewN _ _⟩
theorem Boxes.quiet {w0 w w' : World} {b4 b8 base : Nat} {pv : Value} {cnt : Int} (h : Boxes w0 w b4 b8 base pv cnt) (hg : w.grownBy w' none) : Boxes w0 w' b4 b8 base pv cnt :=
  h.kept hg (fun k e => by cases e)
theorem Mem.quiet {w w' : World} {base : Nat} {v13 v14 : Value} {vs : List Value} {outs : List (List Pt)} {dash : Option (List Pt)} (h : Mem w base v13 v14 vs outs dash) (hg : w.grownBy w' none) : Mem w' base v13 v14 vs outs dash :=
  h.kept hg (fun k e => by cases e)
theorem isDash_e (b8 cnt : Nat) (w : World) (hc : w.cell? ⟨b8, 0, none⟩ = some (.int .i64 (cnt : Int))) (hk : cnt ≤ 2000) (he : cnt % 2 = 0) :
    Calls Try.prog 18 #[.pointer (some ⟨b8, 0, none⟩)] w fun e w' => e = .returned (.bool true) ∧ w = w' := by
  have := isDash_any b8 cnt w hc hk
  unfold even at this
  rwa [decide_eq_true he] at this
theorem isDash_o (b8 cnt : Nat) (w : World) (hc : w.cell? ⟨b8, 0, none⟩ = some (.int .i64 (cnt : Int))) (hk : cnt ≤ 2000) (he : ¬ cnt % 2 = 0) :
    Calls Try.prog 18 #[.pointer (some ⟨b8, 0, none⟩)] w fun e w' => e = .returned (.bool false) ∧ w = w' := by
  have := isDash_any b8 cnt w hc hk
  unfold even at this
  rwa [decide_eq_false he] at this


/-- at the head of the outer loop -/
structure Rel2 (w : World) (b8 : Nat) (pv : Value) (pa pb : Nat) (P : Nat → Pt) (N : Nat) (s0 : DS) (I : Nat → Nat → DS → Prop) (i : Nat) (s : DS) (vs : List Value) (v10 v13 v14 v15 : Value) (wr : World) : Prop where
  le : i ≤ N
  eq : s = runD pa pb P i s0
  inv : I i 0 s
  v15 : v15 = .int .i64 ((i : Int) + 1)
  v10 : v10 = .float .f32 s.rest
  bx : Boxes w wr w.heap.size b8 (b8 + 1) pv (s.cnt : Int)
  mem : Mem wr (b8 + 1) v13 v14 vs s.out (dashO s)
/-- at the head of the inner loop -/
structure Rel3 (w : World) (b8 : Nat) (pv : Value) (pa pb : Nat) (P : Nat → Pt) (i : Nat) (t : DS) (I : Nat → Nat → DS → Prop) (f g : Nat) (s : DS) (vs : List Value) (v10 v13 v14 v19 : Value) (wr : World) : Prop where
  fu : 33 ≤ f + s.cnt
  eq : segGo pa pb f (P i) (P (i + 1)) g s = t
  inv : I i g s
  v19 : v19 = .float .f32 g
  v10 : v10 = .float .f32 s.rest
  bx : Boxes w wr w.heap.size b8 (b8 + 1) pv (s.cnt : Int)
  mem : Mem wr (b8 + 1) v13 v14 vs s.out (dashO s)

theorem mem_start {w : World} {b8 : Nat} (hb : b8 + 1 ≤ w.heap.size) (s : DS) (p : Pt) (hs : s.out = []) (hd : s.dash = [p]) :
    Mem ((w.alloc (.cells #[] 24)).alloc (.cells #[cx p] 30)) (b8 + 1) (.slice (some ⟨w.heap.size, 0, none⟩) 0 0) (.slice (some ⟨w.heap.size + 1, 0, none⟩) 1 1) [] s.out (dashO s) := by
  have h0 : Mem (w.alloc (.cells #[] 24)) (b8 + 1) (.slice (some ⟨w.heap.size, 0, none⟩) 0 0) undef [] [] none :=
    ⟨rfl, ⟨rfl, .inr ⟨w.heap.size, 0, #[], rfl, hb, World.alloc_heap_new _ _, Nat.le_refl _, by decide, rfl, rfl⟩⟩, by simp [Value.ownBlock], fun j hj => absurd hj (by simp), fun _ e => by cases e⟩
  have h1 := h0.fresh (by simp; omega) p
  have e : (w.alloc (.cells #[] 24)).heap.size = w.heap.size + 1 := by simp
  rw [e] at h1
  rw [hs]
  unfold dashO
  split
  · rw [hd]; exact h1
  · exact h1.drop _
end Go.Proofs.Ytojbgeimlipajaa
