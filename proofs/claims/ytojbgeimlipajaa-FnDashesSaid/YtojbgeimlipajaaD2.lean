/- A segment of the path, and points on it. -/
import Derived.Test.YtojbgeimlipajaaD1
namespace Go.Proofs.Ytojbgeimlipajaa
open Fl

/-- a segment of the path -/
structure Seg (p q : Pt) (X Y dX dY lam : Rat) : Prop where
  sx : S p.1 X
  sy : S p.2 Y
  tx : S q.1 (X + dX)
  ty : S q.2 (Y + dY)
  ox : floatBits .sub .f32 q.1 p.1 = some (fsub q.1 p.1)
  oy : floatBits .sub .f32 q.2 p.2 = some (fsub q.2 p.2)
  ex : S (fsub q.1 p.1) dX
  ey : S (fsub q.2 p.2) dY
  x0 : 0 ≤ X
  x1 : X ≤ 12
  y0 : -8 ≤ Y
  y1 : Y ≤ 8
  dx0 : 1 / 2 ≤ dX
  dx1 : dX ≤ 2
  dy0 : -1 ≤ dY
  dy1 : dY ≤ 1
  lk : LongOk (subP q p)
  sl : S (longW (subP q p)) lam
  l0 : 2 / 5 ≤ lam
  l1 : lam ≤ 9 / 4
  n1 : lam * lam - (dX * dX + dY * dY) ≤ E * 40
  n2 : dX * dX + dY * dY - lam * lam ≤ E * 40

theorem seg_mk {p q : Pt} {X Y dX dY : Rat} (sx : S p.1 X) (sy : S p.2 Y) (tx : S q.1 (X + dX)) (ty : S q.2 (Y + dY)) (x0 : 0 ≤ X) (x1 : X ≤ 12) (y0 : -8 ≤ Y) (y1 : Y ≤ 8) (dx0 : 1 / 2 ≤ dX) (dx1 : dX ≤ 2) (dy0 : -1 ≤ dY) (dy1 : dY ≤ 1)
    (rx : Rep Ieee.single dX) (ry : Rep Ieee.single dY) : ∃ lam, Seg p q X Y dX dY lam := by
  have hE := E_pos
  have hE1 : E ≤ 1 / 100000 := by rw [E_val]; decide +kernel
  have e1 : X + dX - X = dX := by grind
  have e2 : Y + dY - Y = dY := by grind
  have a := fsub_ex tx sx (by grind) (by grind) (by rw [e1]; exact rx)
  have b := fsub_ex ty sy (by grind) (by grind) (by rw [e2]; exact ry)
  have ax := a.is
  have bx := b.is
  rw [e1] at ax
  rw [e2] at bx
  obtain ⟨lk, v, l, sl, v0, v101, v1, v2, l1, l2⟩ := long_near (d := subP q p) ax bx (by grind) (by grind) (by grind) (by grind)
  have hx := mm (by grind : 0 ≤ dX) dx1 (by grind : 0 ≤ dX) dx1
  have hx2 := mm (by grind : (0 : Rat) ≤ 1 / 2) dx0 (by grind : (0 : Rat) ≤ 1 / 2) dx0
  have hy := abs_mul dy0 dy1 dy0 dy1
  have hy0 := sq_nonneg dY
  have hvv := Rat.mul_nonneg v0 v0
  have hEvv := Rat.mul_le_mul_of_nonneg_right hE1 hvv
  have hv5 : v ≤ 224 / 100 := sq_le (by grind) (by grind)
  have hv4 : 45 / 100 ≤ v := sq_le (by grind) v0
  have hl0 : v - E * 5 ≤ l := by
    have := Rat.mul_le_mul_of_nonneg_left hv5 (Rat.le_of_lt hE)
    grind
  have hl1 : l ≤ v + E * 5 := by
    have := Rat.mul_le_mul_of_nonneg_left hv5 (Rat.le_of_lt hE)
    grind
  have hvv5 := mm v0 hv5 v0 hv5
  have hEvv2 := Rat.mul_le_mul_of_nonneg_left hvv5.2 (Rat.le_of_lt hE)
  have hll := abs_mul (a := l - v) (u := l + v) (e := E * 5) (B := 6) (by grind) (by grind) (by grind) (by grind)
  have ell : (l - v) * (l + v) = l * l - v * v := by grind
  rw [ell] at hll
  exact ⟨l, sx, sy, tx, ty, a.ok, b.ok, ax, bx, x0, x1, y0, y1, dx0, dx1, dy0, dy1, lk, sl, by grind, by grind, by grind, by grind⟩

/-- a point, near the share u of the segment -/
def At (X Y dX dY : Rat) (r : Pt) (u : Rat) : Prop :=
  ∃ x y, S r.1 x ∧ S r.2 y ∧ x - (X + dX * u) ≤ E * 26 ∧ X + dX * u - x ≤ E * 26 ∧ y - (Y + dY * u) ≤ E * 26 ∧ Y + dY * u - y ≤ E * 26

theorem Seg.start {p q : Pt} {X Y dX dY lam : Rat} (s : Seg p q X Y dX dY lam) : At X Y dX dY p 0 := by
  have hE := E_pos
  exact ⟨X, Y, s.sx, s.sy, by grind, by grind, by grind, by grind⟩
theorem Seg.stop {p q : Pt} {X Y dX dY lam : Rat} (s : Seg p q X Y dX dY lam) : At X Y dX dY q 1 := by
  have hE := E_pos
  exact ⟨X + dX, Y + dY, s.tx, s.ty, by grind, by grind, by grind, by grind⟩

/-- where a segment is cut -/
def placeW (p q : Pt) (g : Nat) : Pt := (fadd p.1 (fmul (fsub q.1 p.1) (fdiv g (longW (subP q p)))), fadd p.2 (fmul (fsub q.2 p.2) (fdiv g (longW (subP q p)))))
structure PlaceOk (p q : Pt) (g : Nat) : Prop where
  d : floatBits .quo .f32 g (longW (subP q p)) = some (fdiv g (longW (subP q p)))
  m1 : floatBits .mul .f32 (fsub q.1 p.1) (fdiv g (longW (subP q p))) = some (fmul (fsub q.1 p.1) (fdiv g (longW (subP q p))))
  m2 : floatBits .mul .f32 (fsub q.2 p.2) (fdiv g (longW (subP q p))) = some (fmul (fsub q.2 p.2) (fdiv g (longW (subP q p))))
  a1 : floatBits .add .f32 p.1 (fmul (fsub q.1 p.1) (fdiv g (longW (subP q p)))) = some (placeW p q g).1
  a2 : floatBits .add .f32 p.2 (fmul (fsub q.2 p.2) (fdiv g (longW (subP q p)))) = some (placeW p q g).2

theorem Seg.place {p q : Pt} {X Y dX dY lam : Rat} (s : Seg p q X Y dX dY lam) {g : Nat} {u : Rat} (hg : S g (lam * u)) (u0 : 0 ≤ u) (u1 : u ≤ 11 / 10) :
    PlaceOk p q g ∧ At X Y dX dY (placeW p q g) u := by
  have hE := E_pos
  have hE1 : E ≤ 1 / 100000 := by rw [E_val]; decide +kernel
  have l0 := s.l0
  have x0 := s.x0
  have x1 := s.x1
  have y0 := s.y0
  have y1 := s.y1
  have a0 := s.dx0
  have a1 := s.dx1
  have b0 := s.dy0
  have b1 := s.dy1
  have hl : lam ≠ 0 := by grind
  have eu : lam * u / lam = u := by rw [Rat.div_def, Rat.mul_comm lam u, Rat.mul_assoc, Rat.mul_inv_cancel _ hl]; grind
  have d := fdiv_ok (11 / 10) hg s.sl hl (by rw [eu]; grind) (by rw [eu]; exact u1) (by grind)
  rw [eu] at d
  obtain ⟨t, ht, t1, t2⟩ := d.near
  have ht' : S (fdiv g (longW (subP q p))) t := ht
  have hx := abs_mul (a := t - u) (u := dX) (e := E * 4) (B := 2) (by grind) (by grind) (by grind) (by grind)
  have hy := abs_mul (a := t - u) (u := dY) (e := E * 4) (B := 1) (by grind) (by grind) (by grind) (by grind)
  have hxu := abs_mul (a := dX) (u := u) (e := 2) (B := 11 / 10) (by grind) (by grind) (by grind) (by grind)
  have hyu := abs_mul (a := dY) (u := u) (e := 1) (B := 11 / 10) (by grind) (by grind) (by grind) (by grind)
  have ex : dX * t = dX * u + (t - u) * dX := by grind
  have ey : dY * t = dY * u + (t - u) * dY := by grind
  have m1 := fmul_ok 3 s.ex ht' (by grind) (by grind) (by grind)
  have m2 := fmul_ok 3 s.ey ht' (by grind) (by grind) (by grind)
  obtain ⟨v, hv, v1, v2⟩ := m1.near
  obtain ⟨w, hw, w1, w2⟩ := m2.near
  rw [ex] at v1 v2
  rw [ey] at w1 w2
  have hv' : S (fmul (fsub q.1 p.1) (fdiv g (longW (subP q p)))) v := hv
  have hw' : S (fmul (fsub q.2 p.2) (fdiv g (longW (subP q p)))) w := hw
  generalize (t - u) * dX = tx at *
  generalize (t - u) * dY = ty at *
  have a1 := fadd_ok (29 / 2) s.sx hv' (by grind) (by grind) (by grind)
  have a2 := fadd_ok (29 / 2) s.sy hw' (by grind) (by grind) (by grind)
  obtain ⟨x, hx', x1', x2'⟩ := a1.near
  obtain ⟨y, hy', y1', y2'⟩ := a2.near
  exact ⟨⟨d.ok, m1.ok, m2.ok, a1.ok, a2.ok⟩, x, y, hx', hy', by grind, by grind, by grind, by grind⟩
end Go.Proofs.Ytojbgeimlipajaa
