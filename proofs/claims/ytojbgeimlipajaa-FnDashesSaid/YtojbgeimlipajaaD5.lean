/- The run of DashPath, in words: what holds along it. -/
import Derived.Test.YtojbgeimlipajaaD4
namespace Fl
open Go
theorem fsub_nonneg {a b : Nat} {x y z : Rat} (ha : S a x) (hb : S b y) (h0 : 0 ≤ x - y) (h1 : x - y ≤ 1000000) (hz : S (fsub a b) z) : 0 ≤ z := by
  obtain ⟨s, m, e, hs, hv⟩ := sum_val (is_read ha) (opposite_val (is_read hb))
  have h2 : floatBits .sub .f32 a b = some (Ieee.single.write (.number s m e)) := by
    show ((Ieee.single.read a).sum (Ieee.single.read b).opposite).map Ieee.single.write = _
    rw [hs]; rfl
  have h3 : fsub a b = _ := fop_some h2
  rw [h3] at hz
  exact write_sign hv (by grind) (by grind) hz
end Fl
namespace Go.Proofs.Ytojbgeimlipajaa
open Fl

structure DS where
  cnt : Nat
  rest : Nat
  out : List (List Pt)
  dash : List Pt

def pat (pa pb k : Nat) : Nat := if k % 2 = 0 then pa else pb
def condW (p q : Pt) (g rest : Nat) : Bool := Ieee.single.order (fsub (longW (subP q p)) g) rest == some .gt
def stepD (pa pb : Nat) (p q : Pt) (g : Nat) (s : DS) : DS :=
  { cnt := s.cnt + 1, rest := pat pa pb (s.cnt + 1),
    out := if s.cnt % 2 = 0 then s.out ++ [s.dash ++ [placeW p q (fadd g s.rest)]] else s.out,
    dash := if s.cnt % 2 = 0 then s.dash else [placeW p q (fadd g s.rest)] }
def endD (p q : Pt) (g : Nat) (s : DS) : DS :=
  { cnt := s.cnt, rest := fsub s.rest (fsub (longW (subP q p)) g), out := s.out, dash := if s.cnt % 2 = 0 then s.dash ++ [q] else s.dash }
def segGo (pa pb : Nat) : Nat → Pt → Pt → Nat → DS → DS
  | 0, _, _, _, s => s
  | f + 1, p, q, g, s => if condW p q g s.rest = true then segGo pa pb f p q (fadd g s.rest) (stepD pa pb p q g s) else endD p q g s
def runD (pa pb : Nat) (P : Nat → Pt) : Nat → DS → DS
  | 0, s => s
  | i + 1, s => segGo pa pb 50 (P i) (P (i + 1)) 0 (runD pa pb P i s)

/-- the path -/
structure Path where
  N : Nat
  P : Nat → Pt
  X : Nat → Rat
  Y : Nat → Rat
  dX : Nat → Rat
  dY : Nat → Rat
  lam : Nat → Rat
  n0 : 1 ≤ N
  n6 : N ≤ 6
  seg : ∀ i, i < N → Seg (P i) (P (i + 1)) (X i) (Y i) (dX i) (dY i) (lam i)

def Path.Lam (w : Path) : Nat → Rat
  | 0 => 0
  | i + 1 => w.Lam i + w.lam i
def brk (A B : Rat) : Nat → Rat
  | 0 => 0
  | k + 1 => brk A B k + (if k % 2 = 0 then A else B)

theorem Path.lam_le (w : Path) (i : Nat) (h : i ≤ w.N) : 0 ≤ w.Lam i ∧ w.Lam i ≤ 9 / 4 * i := by
  induction i with
  | zero => have e : ((0 : Nat) : Rat) = 0 := rfl
            rw [e]; constructor <;> simp only [Path.Lam] <;> grind
  | succ i ih =>
    obtain ⟨h1, h2⟩ := ih (by omega)
    have s := w.seg i (by omega)
    have := s.l0
    have := s.l1
    have e : ((i + 1 : Nat) : Rat) = (i : Rat) + 1 := by simp
    rw [e]; simp only [Path.Lam]
    constructor <;> grind
theorem brk_ge {A B : Rat} (hA : 1 / 2 ≤ A) (hB : 1 / 2 ≤ B) (k : Nat) : (k : Rat) / 2 ≤ brk A B k := by
  induction k with
  | zero => have e : ((0 : Nat) : Rat) = 0 := rfl
            rw [e]; simp only [brk]; grind
  | succ k ih =>
    have e : ((k + 1 : Nat) : Rat) = (k : Rat) + 1 := by simp
    rw [e]; simp only [brk]; split <;> grind

/-- a whole dash -/
def Done (A : Rat) (ps : List Pt) : Prop := 2 ≤ ps.length ∧ ∃ r sig, Acc ps r sig ∧ sig - A ≤ E * 1000 ∧ A - sig ≤ E * 1000

/-- what holds within a segment -/
structure Inv (w : Path) (A B : Rat) (i : Nat) (u : Rat) (g : Nat) (s : DS) : Prop where
  sg : S g (w.lam i * u)
  u0 : 0 ≤ u
  u1 : u ≤ 1 + E * 50
  lu : w.lam i * u ≤ w.lam i + E * 8
  rho : ∃ rho, S s.rest rho ∧ 0 ≤ rho ∧ rho ≤ (if s.cnt % 2 = 0 then A else B) + E * (20 * ((i + s.cnt : Nat) : Rat)) ∧ w.Lam i + w.lam i * u + rho - brk A B (s.cnt + 1) ≤ E * (10 * ((i + s.cnt : Nat) : Rat)) ∧ brk A B (s.cnt + 1) - (w.Lam i + w.lam i * u + rho) ≤ E * (10 * ((i + s.cnt : Nat) : Rat))
  c30 : s.cnt ≤ 30
  dash : s.cnt % 2 = 0 → ∃ r sig, Acc s.dash r sig ∧ At (w.X i) (w.Y i) (w.dX i) (w.dY i) r u ∧ s.dash.length ≤ i + 1 ∧ sig - (w.Lam i + w.lam i * u - brk A B s.cnt) ≤ E * (10 * ((i + s.cnt : Nat) : Rat)) ∧ w.Lam i + w.lam i * u - brk A B s.cnt - sig ≤ E * (10 * ((i + s.cnt : Nat) : Rat))
  out : ∀ ps ∈ s.out, Done A ps
  olen : s.out.length = (s.cnt + 1) / 2
  first : (s.cnt = 0 → s.dash.getD 0 (0, 0) = w.P 0) ∧ (s.cnt ≠ 0 → (s.out.getD 0 []).getD 0 (0, 0) = w.P 0)
end Go.Proofs.Ytojbgeimlipajaa
