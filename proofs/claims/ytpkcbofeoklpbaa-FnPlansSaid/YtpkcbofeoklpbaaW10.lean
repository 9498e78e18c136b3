/- SpeedPlan: what lies where. -/
import Derived.Laws.EntriesVeiled
import Derived.Test.YtpkcbofeoklpbaaW9
import Derived.Test.YtpkcbofeoklpbaaW4
namespace Go.Proofs.Ytpkcbofeoklpbaa
open Go.RowKit Go.Shelf Fl
attribute [local go_sem] Oper.semAt_some

/-- what lies where while SpeedPlan runs; H: how many blocks lay ahead of it -/
structure Lay (w W : World) (H b off n : Nat) (lw V : Nat → Nat) (rise : Nat) (f : Bool) : Prop where
  lo : Below H w W
  ri : W.cell? ⟨H, 0, none⟩ = some (.float .f32 rise)
  vb : W.cell? ⟨H + 4, 0, none⟩ = some (.slice (some ⟨H + 3, 0, none⟩) (n + 1) (n + 1))
  fb : f = true → W.cell? ⟨H + 5, 0, none⟩ = some (.func (.func 13) #[] #[.pointer (some ⟨H + 4, 0, none⟩), .pointer (some ⟨H, 0, none⟩)])
  v : ∀ k, k < n + 1 → W.cell? ⟨H + 3, k, none⟩ = some (.float .f32 (V k))
  fr : ∀ k, k < n + 1 → W.frozen? ⟨H + 3, k, none⟩ = false
  lg : ∀ k, k < n → W.cell? ⟨b, off + k, none⟩ = some (.float .f32 (lw k))

theorem frozen_set (W : World) (a p : Addr) (v : Value) : (W.setCell a v).frozen? p = W.frozen? p := World.frozen?_setCell ..

theorem Lay.set {w W : World} {H b off n : Nat} {lw V : Nat → Nat} {rise : Nat} {f : Bool} (h : Lay w W H b off n lw V rise f) (hb : b < H) {i : Nat} (hi : i < n + 1) (x : Nat) :
    Lay w (W.setCell ⟨H + 3, i, none⟩ (.float .f32 x)) H b off n lw (upd V i x) rise f := by
  have hne : ∀ c k, c ≠ H + 3 → (W.setCell ⟨H + 3, i, none⟩ (.float .f32 x)).cell? ⟨c, k, none⟩ = W.cell? ⟨c, k, none⟩ := fun c k hc => World.cell?_setCell_other _ _ _ _ (fun e => hc (by injection e with e1 e2; exact e1.symm))
  refine ⟨h.lo.setCell (p := ⟨H + 3, i, none⟩) (by simp) _, ?_, ?_, ?_, ?_, ?_, ?_⟩
  · rw [hne _ _ (by omega)]; exact h.ri
  · rw [hne _ _ (by omega)]; exact h.vb
  · intro hf; rw [hne _ _ (by omega)]; exact h.fb hf
  · intro k hk
    by_cases e : k = i
    · subst e
      rw [World.cell?_setCell_same' _ _ _ (by rw [h.v k hk]; rfl)]; simp [upd]
    · rw [World.cell?_setCell_other _ _ _ _ (fun e' => e (by injection e' with e1 e2; exact e2.symm))]
      rw [h.v k hk]; simp [upd, e]
  · intro k hk
    rw [frozen_set]; exact h.fr k hk
  · intro k hk
    rw [hne _ _ (by omega)]; exact h.lg k hk

theorem Lay.drew {w W : World} {H b off n : Nat} {lw V : Nat → Nat} {rise : Nat} {f : Bool} (h : Lay w W H b off n lw V rise f) (q : Nat) : Lay w (W.drewN q) H b off n lw V rise f :=
  ⟨⟨h.lo.os, h.lo.tape, h.lo.output, h.lo.size, h.lo.block⟩, h.ri, h.vb, h.fb, h.v, h.fr, h.lg⟩
theorem Lay.grown {w W W' : World} {H b off n : Nat} {lw V : Nat → Nat} {rise : Nat} {f : Bool} (h : Lay w W H b off n lw V rise f) (hH : H ≤ w.heap.size) {row : Option Nat} (hg : W.grownBy W' row) (hr : ∀ r, row = some r → H ≤ r ∧ ∃ o : Obj, W.heap[r]? = some o ∧ o.isCells = false) : Lay w W' H b off n lw V rise f := by
  have hr' : ∀ r, row = some r → ∃ o : Obj, W.heap[r]? = some o ∧ o.isCells = false := fun r e => (hr r e).2
  exact ⟨h.lo.grown hg (Nat.le_trans hH (by have := h.lo.size; omega)) (fun k e => (hr k e).1), cell_kept h.ri hg hr', cell_kept h.vb hg hr', fun e => cell_kept (h.fb e) hg hr', fun k hk => cell_kept (h.v k hk) hg hr', fun k hk => (frozen_kept (h.v k hk) hg hr').trans (h.fr k hk), fun k hk => cell_kept (h.lg k hk) hg hr'⟩
theorem Lay.start (w : World) (b off n most rise q : Nat) (lw : Nat → Nat) (hb : b < w.heap.size) (hl : ∀ k, k < n → w.cell? ⟨b, off + k, none⟩ = some (.float .f32 (lw k))) :
    Lay w (((((w.alloc (.cells #[.float .f32 rise] 26)).alloc (.cells #[.float .f32 most, .float .f32 rise] 26)).alloc (.cells #[.float .f32 most] 26)).alloc (.cells (fill most (n + 1) (n + 1)) 26)).drewN q |>.alloc (.cells #[.slice (some ⟨w.heap.size + 1 + 1 + 1, 0, none⟩) (n + 1) (n + 1)] 24)) w.heap.size b off n lw (fun _ => most) rise false := by
  have h4 : Below w.heap.size w ((((w.alloc (.cells #[.float .f32 rise] 26)).alloc (.cells #[.float .f32 most, .float .f32 rise] 26)).alloc (.cells #[.float .f32 most] 26)).alloc (.cells (fill most (n + 1) (n + 1)) 26)) :=
    ((((Below.refl _ w).alloc (Nat.le_refl _) _).alloc (by simp) _).alloc (by simp; omega) _).alloc (by simp; omega) _
  have h5 : Below w.heap.size w (((((w.alloc (.cells #[.float .f32 rise] 26)).alloc (.cells #[.float .f32 most, .float .f32 rise] 26)).alloc (.cells #[.float .f32 most] 26)).alloc (.cells (fill most (n + 1) (n + 1)) 26)).drewN q) := ⟨h4.os, h4.tape, h4.output, h4.size, h4.block⟩
  have h6 := h5.alloc (by simp; omega) (.cells #[.slice (some ⟨w.heap.size + 1 + 1 + 1, 0, none⟩) (n + 1) (n + 1)] 24)
  refine ⟨h6, ?_, ?_, (fun e => by cases e), ?_, ?_, fun k hk => (h6.cell (p := ⟨b, off + k, none⟩) hb).trans (hl k hk)⟩
  · rw [World.cell?_alloc_past _ _ _ (by simp; omega)]
    show ((((w.alloc (.cells #[.float .f32 rise] 26)).alloc (.cells #[.float .f32 most, .float .f32 rise] 26)).alloc (.cells #[.float .f32 most] 26)).alloc (.cells (fill most (n + 1) (n + 1)) 26)).cell? _ = _
    rw [World.cell?_alloc_past _ _ _ (by simp; omega), World.cell?_alloc_past _ _ _ (by simp; omega), World.cell?_alloc_past _ _ _ (by simp)]
    simp [World.cell?_alloc_at]
  · rw [World.cell?_alloc_at _ _ _ _ (by simp)]; rfl
  · intro k hk
    rw [World.cell?_alloc_past _ _ _ (by simp)]
    show ((((w.alloc (.cells #[.float .f32 rise] 26)).alloc (.cells #[.float .f32 most, .float .f32 rise] 26)).alloc (.cells #[.float .f32 most] 26)).alloc (.cells (fill most (n + 1) (n + 1)) 26)).cell? _ = _
    rw [World.cell?_alloc_at _ _ _ _ (by simp)]
    exact fill_get most (n + 1) (n + 1) k hk
  · intro k hk
    rw [World.frozen?_alloc_past _ _ _ (by simp)]
    show ((((w.alloc (.cells #[.float .f32 rise] 26)).alloc (.cells #[.float .f32 most, .float .f32 rise] 26)).alloc (.cells #[.float .f32 most] 26)).alloc (.cells (fill most (n + 1) (n + 1)) 26)).frozen? _ = _
    rw [World.frozen?_alloc_at _ _ _ _ (by simp)]
theorem Lay.drew1 {w W : World} {H b off n : Nat} {lw V : Nat → Nat} {rise : Nat} {f : Bool} (h : Lay w W H b off n lw V rise f) : Lay w W.drew H b off n lw V rise f :=
  ⟨h.lo.drew, h.ri, h.vb, h.fb, h.v, h.fr, h.lg⟩
theorem Lay.func {w W : World} {H b off n : Nat} {lw V : Nat → Nat} {rise : Nat} (h : Lay w W H b off n lw V rise false) (hH : H ≤ w.heap.size) (hs : W.heap.size = H + 5) (a1 a2 : Nat) (e1 : a1 = H + 4) (e2 : a2 = H) :
    Lay w (W.alloc (.cells #[.func (.func 13) #[] #[.pointer (some ⟨a1, 0, none⟩), .pointer (some ⟨a2, 0, none⟩)]] 41)) H b off n lw V rise true := by
  subst e1 e2
  have ha := h.grown hH (World.grownBy_alloc W (.cells #[.func (.func 13) #[] #[.pointer (some ⟨a2 + 4, 0, none⟩), .pointer (some ⟨a2, 0, none⟩)]] 41) none) (fun r e => by cases e)
  exact ⟨ha.lo, ha.ri, ha.vb, fun _ => by rw [World.cell?_alloc_at _ _ _ _ hs.symm]; rfl, ha.v, ha.fr, ha.lg⟩
theorem Lay.func2 {w W : World} {H b off n : Nat} {lw V : Nat → Nat} {rise : Nat} (h : Lay w W H b off n lw V rise false) (hV : Nat → Nat) (e : V = hV) : Lay w W H b off n lw hV rise false := e ▸ h
theorem Lay.alloc {w W : World} {H b off n : Nat} {lw V : Nat → Nat} {rise : Nat} {f : Bool} (h : Lay w W H b off n lw V rise f) (hH : H ≤ w.heap.size) (o : Obj) : Lay w (W.alloc o) H b off n lw V rise f :=
  h.grown hH (World.grownBy_alloc W o none) (fun r e => by cases e)
end Go.Proofs.Ytpkcbofeoklpbaa
