/- The length between two points of a segment. -/
import Derived.Test.YtojbgeimlipajaaD2
namespace Go.Proofs.Ytojbgeimlipajaa
open Fl

/-- plain: squares -/
theorem pair_sq {dX dY lam w a x y ex ey e : Rat} (hw : w * w = a * a) (a0 : 0 ≤ a) (a1 : a ≤ 12 / 10) (w1 : -a ≤ w) (w2 : w ≤ a) (dx0 : 0 ≤ dX) (dx1 : dX ≤ 2) (dy0 : -1 ≤ dY) (dy1 : dY ≤ 1) (e0 : 0 ≤ e) (e1 : e ≤ 1 / 100)
    (n1 : lam * lam - (dX * dX + dY * dY) ≤ e) (n2 : dX * dX + dY * dY - lam * lam ≤ e) (hx : x = dX * w + ex) (hy : y = dY * w + ey) (x0 : -e ≤ ex) (x1 : ex ≤ e) (y0 : -e ≤ ey) (y1 : ey ≤ e) :
    x * x + y * y - lam * a * (lam * a) ≤ 8 * (e * a) + 2 * (e * e) ∧ lam * a * (lam * a) - (x * x + y * y) ≤ 8 * (e * a) + 2 * (e * e) := by
  have aa := mm a0 a1 a0 a1
  have p1 := abs_mul (a := lam * lam - (dX * dX + dY * dY)) (u := a * a) (e := e) (B := 12 / 10 * a) (by grind) (by grind) (by grind) (by have := Rat.mul_le_mul_of_nonneg_right a1 a0; grind)
  have q1 := abs_mul (a := ex) (u := w) (e := e) (B := a) x0 x1 w1 w2
  have q2 := abs_mul (a := ey) (u := w) (e := e) (B := a) y0 y1 w1 w2
  have ea := Rat.mul_nonneg e0 a0
  have r1 := abs_mul (a := ex * w) (u := dX) (e := e * a) (B := 2) q1.1 q1.2 (by grind) dx1
  have r2 := abs_mul (a := ey * w) (u := dY) (e := e * a) (B := 1) q2.1 q2.2 dy0 dy1
  have s1 := abs_mul (a := ex) (u := ex) (e := e) (B := e) x0 x1 x0 x1
  have s2 := abs_mul (a := ey) (u := ey) (e := e) (B := e) y0 y1 y0 y1
  have t1 := sq_nonneg ex
  have t2 := sq_nonneg ey
  have ee := Rat.mul_nonneg e0 e0
  have key : x * x + y * y - lam * a * (lam * a) = -((lam * lam - (dX * dX + dY * dY)) * (a * a)) + (dX * dX + dY * dY) * (w * w - a * a) + 2 * (ex * w * dX) + 2 * (ey * w * dY) + ex * ex + ey * ey := by
    rw [hx, hy]; grind
  rw [hw] at key
  have z : (dX * dX + dY * dY) * (a * a - a * a) = 0 := by grind
  rw [z] at key
  generalize (lam * lam - (dX * dX + dY * dY)) * (a * a) = A at *
  generalize ex * w * dX = B at *
  generalize ey * w * dY = C at *
  generalize ex * ex = F at *
  generalize ey * ey = G at *
  constructor <;> grind

theorem Seg.pair {p q : Pt} {X Y dX dY lam : Rat} (s : Seg p q X Y dX dY lam) {r1 r2 : Pt} {u1 u2 : Rat} (h1 : At X Y dX dY r1 u1) (h2 : At X Y dX dY r2 u2) (a0 : -(1 / 100) ≤ u1) (a1 : u1 ≤ 11 / 10) (b0 : -(1 / 100) ≤ u2) (b1 : u2 ≤ 11 / 10) (hw : u1 ≤ u2 + E * 50) :
    floatBits .sub .f32 r2.1 r1.1 = some (fsub r2.1 r1.1) ∧ floatBits .sub .f32 r2.2 r1.2 = some (fsub r2.2 r1.2) ∧ LongOk (subP r2 r1) ∧
    ∃ l, S (longW (subP r2 r1)) l ∧ l - lam * (u2 - u1) ≤ E * 4200 ∧ lam * (u2 - u1) - l ≤ E * 4200 := by
  have hE := E_pos
  have hE1 : E * 10000 ≤ 1 / 1000 := by rw [E_val]; decide +kernel
  obtain ⟨x1, y1, sx1, sy1, c1, c2, c3, c4⟩ := h1
  obtain ⟨x2, y2, sx2, sy2, f1, f2, f3, f4⟩ := h2
  have dx0 := s.dx0
  have dx1 := s.dx1
  have dy0 := s.dy0
  have dy1 := s.dy1
  have l0 := s.l0
  have l1 := s.l1
  have n1 := s.n1
  have n2 := s.n2
  clear s
  obtain ⟨w, hwd⟩ : ∃ w, u2 - u1 = w := ⟨_, rfl⟩
  have ex0 : x2 - x1 - dX * w ≤ E * 52 ∧ -(E * 52) ≤ x2 - x1 - dX * w := by rw [← hwd]; constructor <;> grind
  have ey0 : y2 - y1 - dY * w ≤ E * 52 ∧ -(E * 52) ≤ y2 - y1 - dY * w := by rw [← hwd]; constructor <;> grind
  obtain ⟨a, ha0, ha1, wa1, wa2, wwa, hwa⟩ : ∃ a : Rat, 0 ≤ a ∧ a ≤ 12 / 10 ∧ -a ≤ w ∧ w ≤ a ∧ w * w = a * a ∧ a - w ≤ E * 100 := by
    by_cases hc : 0 ≤ w
    · exact ⟨w, hc, by grind, by grind, by grind, rfl, by grind⟩
    · exact ⟨-w, by grind, by grind, by grind, by grind, by grind, by grind⟩
  have kx := abs_mul (a := dX) (u := w) (e := 2) (B := 12 / 10) (by grind) (by grind) (by grind) (by grind)
  have ky := abs_mul (a := dY) (u := w) (e := 1) (B := 12 / 10) (by grind) (by grind) (by grind) (by grind)
  have g1 := fsub_ok 3 sx2 sx1 (by grind) (by grind) (by grind)
  have g2 := fsub_ok 3 sy2 sy1 (by grind) (by grind) (by grind)
  obtain ⟨x, hx, x3, x4⟩ := g1.near
  obtain ⟨y, hy, y3, y4⟩ := g2.near
  have sq := pair_sq (dX := dX) (dY := dY) (lam := lam) (w := w) (a := a) (x := x) (y := y) (ex := x - dX * w) (ey := y - dY * w) (e := E * 60) wwa ha0 ha1 wa1 wa2 (by grind) dx1 dy0 dy1 (by grind) (by grind) (by grind) (by grind) (by grind) (by grind) (by grind) (by grind) (by grind) (by grind)
  have hx' : S (subP r2 r1).1 x := hx
  have hy' : S (subP r2 r1).2 y := hy
  obtain ⟨lk, v, l, sl, v0, v101, v1, v2, l3, l4⟩ := long_near hx' hy' (by grind) (by grind) (by grind) (by grind)
  refine ⟨g1.ok, g2.ok, lk, l, sl, ?_⟩
  clear hx hy hx' hy' g1 g2 lk sl sx1 sy1 sx2 sy2 c1 c2 c3 c4 f1 f2 f3 f4 x3 x4 y3 y4 ex0 ey0 kx ky n1 n2 dx0 dx1 dy0 dy1
  -- D = lam * a
  have la := mm (by grind : 0 ≤ lam) l1 ha0 ha1
  have la2 := Rat.mul_le_mul_of_nonneg_right l0 ha0
  have la3 := Rat.mul_le_mul_of_nonneg_right l1 ha0
  have lw := Rat.mul_le_mul_of_nonneg_left hwa (by grind : 0 ≤ lam)
  have lw2 := Rat.mul_le_mul_of_nonneg_left wa2 (by grind : 0 ≤ lam)
  have lE := Rat.mul_le_mul_of_nonneg_right l1 (by grind : 0 ≤ E * 100)
  rw [hwd]
  generalize hQ : x * x + y * y = Q at *
  have Ea := Rat.mul_nonneg (Rat.le_of_lt hE) ha0
  have EE := Rat.mul_nonneg (Rat.le_of_lt hE) (Rat.le_of_lt hE)
  have EE1 : E * E * 10000 ≤ E * (1 / 1000) := by have := Rat.mul_le_mul_of_nonneg_left hE1 (Rat.le_of_lt hE); grind
  have ED : E * (2 / 5 * a) ≤ E * (lam * a) := Rat.mul_le_mul_of_nonneg_left la2 (Rat.le_of_lt hE)
  have EEb : E * (1 / 10) * (11 / 10) ≤ 2 * (E * 1300 * (E * 1300)) := by
    have h : (1 : Rat) / 10 * (11 / 10) ≤ 2 * (1300 * (E * 1300)) := by rw [E_val]; decide +kernel
    have := Rat.mul_le_mul_of_nonneg_left h (Rat.le_of_lt hE)
    grind
  have D2 := mm la.1 la.2 la.1 la3
  have Ea1 : E * a ≤ E * (12 / 10) := Rat.mul_le_mul_of_nonneg_left ha1 (Rat.le_of_lt hE)
  have Q8 : Q ≤ 8 := by
    have h := sq.1
    have h2 : lam * a * (lam * a) ≤ 729 / 100 := Rat.le_trans D2.2 (by clear sq h; grind)
    generalize lam * a * (lam * a) = DD at *
    clear v1 v2 l3 l4 hQ D2 lw lw2 lE la la2 la3 ED EEb
    grind
  have v4 : v ≤ 4 := by
    have vv := Rat.mul_nonneg v0 v0
    have h : E * (v * v) ≤ 1 / 1000 * (v * v) := Rat.mul_le_mul_of_nonneg_right (by clear v1 v2 sq D2; grind) vv
    have h2 : v * v ≤ 16 := by
      generalize v * v = z at *
      clear sq D2 lw lw2 lE la la2 la3 ED EEb hQ l3 l4
      grind
    exact sq_le (by rw [show (4 : Rat) * 4 = 16 by decide +kernel]; exact h2) (by decide)
  have vv4 := mm v0 v4 v0 v4
  have Ev : E * (v * v) ≤ E * 16 := Rat.mul_le_mul_of_nonneg_left (by grind) (Rat.le_of_lt hE)
  have Ea2 : E * a ≤ 1 / 10000 * a := Rat.mul_le_mul_of_nonneg_right (by clear sq v1 v2; grind) ha0
  have DDa : lam * a * (lam * a) ≤ 243 / 40 * a := Rat.le_trans D2.2 (by clear sq v1 v2; grind)
  have vva : v * v ≤ 7 * a + E * 2 := by
    have h := sq.1
    generalize lam * a * (lam * a) = DD at *
    generalize v * v = VV at *
    clear sq D2 lw lw2 lE la la2 la3 ED EEb hQ l3 l4 v2 hE1 Q8 v4 v101
    grind
  have Ev2 : E * (v * v) ≤ E * (7 * a + E * 2) := Rat.mul_le_mul_of_nonneg_left vva (Rat.le_of_lt hE)
  have Ev3 : E * (2 * v) ≤ E * 8 := Rat.mul_le_mul_of_nonneg_left (by clear sq v1 v2; grind) (Rat.le_of_lt hE)
  have k1 : v * v - lam * a * (lam * a) ≤ 2 * (lam * a * (E * 1300)) + 2 * (E * 1300 * (E * 1300)) := by
    have h := sq.1
    generalize lam * a * (lam * a) = DD at *
    generalize v * v = VV at *
    clear sq D2 lw lw2 lE la la2 la3 hQ l3 l4 v2 hE1 Q8 v4 v101 vva vv4 Ev
    grind
  have k2 : lam * a * (lam * a) - v * v ≤ 2 * (lam * a * (E * 1300)) + 2 * (E * 1300 * (E * 1300)) := by
    have h := sq.2
    generalize lam * a * (lam * a) = DD at *
    generalize v * v = VV at *
    clear sq D2 lw lw2 lE la la2 la3 hQ l3 l4 v1 hE1 Q8 v4 v101 vva vv4 Ev k1
    grind
  obtain ⟨nr1, nr2⟩ := near_root (v := v) (D := lam * a) (e := E * 1300) v0 la.1 (by grind) k1 k2
  clear Ea2 sq v1 v2 k1 k2 D2 DDa Ev Ev2 vva vv4 EEb EE1 EE Ea Ea1 ED hQ Q8 la la2 la3
  constructor <;> grind
end Go.Proofs.Ytojbgeimlipajaa
