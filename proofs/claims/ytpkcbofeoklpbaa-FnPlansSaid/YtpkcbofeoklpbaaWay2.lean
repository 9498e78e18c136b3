/- PlanWay: seven steps, at the level of words, come near the exact way. -/
import Derived.Test.YtpkcbofeoklpbaaWay
namespace Fl
open Go

/-- what is known of a plan's numbers -/
structure Par (J R H C : Rat) : Prop where
  j0 : 0 ≤ J
  j4 : J ≤ 4
  r0 : 0 ≤ R
  r3 : R ≤ 3
  h0 : 0 ≤ H
  h8 : H ≤ 8
  c0 : 0 ≤ C
  c17 : C ≤ 17
  jr : J * R ≤ 401 / 100
  p : J * R * (R + H) ≤ 401 / 100
  w : J * R * (R + H) * (2 * R + H + C) ≤ 81 / 10

def Xs (J R H C : Rat) : Nat → Rat
  | 0 => 0
  | 1 => J * R * R * R / 6
  | 2 => J * R * R * R / 6 + J * R * R * H / 2 + J * R * H * H / 2
  | 3 => J * R * R * R + J * R * R * H * 3 / 2 + J * R * H * H / 2
  | 4 => J * R * R * R + J * R * R * H * 3 / 2 + J * R * H * H / 2 + J * R * (R + H) * C
  | 5 => J * R * R * R * 11 / 6 + J * R * R * H * 5 / 2 + J * R * H * H / 2 + J * R * (R + H) * C
  | 6 => J * R * R * R * 11 / 6 + J * R * R * H * 3 + J * R * H * H + J * R * (R + H) * C
  | _ => J * R * R * R * 2 + J * R * R * H * 3 + J * R * H * H + J * R * (R + H) * C
def Vs (J R H : Rat) : Nat → Rat
  | 0 => 0
  | 1 => J * R * R / 2
  | 2 => J * R * R / 2 + J * R * H
  | 3 => J * R * R + J * R * H
  | 4 => J * R * R + J * R * H
  | 5 => J * R * R / 2 + J * R * H
  | 6 => J * R * R / 2
  | _ => 0
def As (J R : Rat) : Nat → Rat
  | 1 | 2 => J * R
  | 5 | 6 => -(J * R)
  | _ => 0
def Js (J : Rat) : Nat → Rat
  | 0 | 6 => J
  | 2 | 4 => -J
  | _ => 0
def Ds (R H C : Rat) : Nat → Rat
  | 1 | 5 => H
  | 3 => C
  | _ => R
def cxs : Nat → Rat
  | 0 => 0
  | 1 => 113
  | 2 => 921
  | 3 => 1380
  | 4 => 4500
  | 5 => 5180
  | 6 => 7500
  | _ => 8526
def cvs : Nat → Rat
  | 0 => 0
  | 1 => 58
  | 2 => 109
  | 3 => 180
  | 4 => 189
  | 5 => 247
  | 6 => 298
  | _ => 369

/-- the words -/
def wj (j : Nat) : Nat → Nat
  | 0 | 6 => j
  | 2 | 4 => Op.negFloat .f32 j
  | _ => 0
def wd (r h c : Nat) : Nat → Nat
  | 1 | 5 => h
  | 3 => c
  | _ => r

/-- what is gained in a phase -/
def inc (J R H : Rat) (k : Nat) (s : Rat) : Rat := ex 0 (Vs J R H k) (As J R k) s (Js J k)

theorem mm {a b c d : Rat} (ha : 0 ≤ a) (hab : a ≤ b) (hc : 0 ≤ c) (hcd : c ≤ d) : 0 ≤ a * c ∧ a * c ≤ b * d := by
  have h1 := Rat.mul_nonneg ha hc
  have h2 := Rat.mul_le_mul_of_nonneg_right hab hc
  have h3 := Rat.mul_le_mul_of_nonneg_left hcd (by grind : 0 ≤ b)
  constructor
  · exact h1
  · grind

/-- what is known of the products -/
structure Prods (J R H C : Rat) : Prop where
  jr : 0 ≤ J * R
  jrr : 0 ≤ J * R * R
  jrh : 0 ≤ J * R * H
  sum : J * R * R + J * R * H ≤ 401 / 100
  q1 : 0 ≤ J * R * R * R
  q2 : 0 ≤ J * R * R * H
  q3 : 0 ≤ J * R * H * H
  q4 : 0 ≤ J * R * (R + H) * C
  w : J * R * R * R * 2 + J * R * R * H * 3 + J * R * H * H + J * R * (R + H) * C ≤ 81 / 10

theorem Par.prods {J R H C : Rat} (p : Par J R H C) : Prods J R H C := by
  have a1 := Rat.mul_nonneg p.j0 p.r0
  have a2 := Rat.mul_nonneg a1 p.r0
  have a3 := Rat.mul_nonneg a1 p.h0
  have b1 := Rat.mul_nonneg a2 p.r0
  have b2 := Rat.mul_nonneg a2 p.h0
  have b3 := Rat.mul_nonneg a3 p.h0
  have b4 : 0 ≤ J * R * (R + H) * C := Rat.mul_nonneg (by grind) p.c0
  have h1 := p.p
  have h2 := p.w
  refine ⟨a1, a2, a3, by grind, b1, b2, b3, b4, ?_⟩
  have e : J * R * (R + H) * (2 * R + H + C) = J * R * R * R * 2 + J * R * R * H * 3 + J * R * H * H + J * R * (R + H) * C := by grind
  rw [← e]; exact h2

def als (al : Rat) : Nat → Rat
  | 1 | 2 => al
  | 5 | 6 => -al
  | _ => 0

/-- the state ahead of the phase k -/
structure At (J R H C al : Rat) (k : Nat) (x v a : Nat) : Prop where
  x : Ap x (Xs J R H C k) (cxs k)
  v : Ap v (Vs J R H k) (cvs k)
  a : S a (als al k)

/-- behind a step: the way, and that all is bounded -/
structure Out (x v a s j : Nat) (X c : Rat) : Prop where
  ok : StepOk x v a s j
  x : Ap (nx x v a s j) X c
  v : ∃ V, Ap (nv v a s j) V 800 ∧ -9 ≤ V ∧ V ≤ 9
  a : ∃ A, Ap (na a s j) A 800 ∧ -9 ≤ A ∧ A ≤ 9

theorem ap_of_near {a : Nat} {al A c : Rat} (h : S a al) (h1 : al - A ≤ E * c) (h2 : A - al ≤ E * c) : Ap a A c :=
  ⟨al, h, by grind, by grind⟩


theorem phase0 {J R H C al s : Rat} {x v a sw jw : Nat} (p : Par J R H C) (h : At J R H C al 0 x v a) (hj : S jw (J)) (hs : S sw s) (s0 : 0 ≤ s) (s1 : s ≤ R) :
    Out x v a sw jw (Xs J R H C 0 + inc J R H 0 s) (cxs 1) ∧ (s = R → Ap (nv v a sw jw) (Vs J R H 1) (cvs 1)) := by
  have P := p.prods
  have g1 := mm p.j0 Rat.le_refl s0 s1
  have g2 := mm g1.1 g1.2 s0 s1
  have g3 := mm g2.1 g2.2 s0 s1
  have hx := h.x; have hv := h.v; have h1 := h.a
  simp only [Xs, cxs] at hx
  simp only [Vs, cvs] at hv
  simp only [als] at h1
  have ha := Ap.of h1
  have := P.jr; have := P.jrr; have := P.jrh; have := P.sum; have := P.w; have := P.q1; have := P.q2; have := P.q3; have := P.q4; have := p.jr; have := p.j0; have := p.j4; have := p.r0; have := p.r3; have := p.h0; have := p.h8; have := p.c0; have := p.c17
  have K := k1 hx hv ha hs hj s0 (by grind) (by grind) (by grind) (by grind) (by grind) (by grind) (by grind) (by grind) (by grind) (by grind) (by grind) (by grind) (by grind) (by grind)
  obtain ⟨k, kx, kv, ka⟩ := K
  refine ⟨⟨k, (kx.mono (by simp only [cxs]; grind)).to (by simp only [Xs, inc, ex, Vs, As, Js]; grind), ⟨_, kv.mono (by grind), by unfold ev; grind, by unfold ev; grind⟩, ⟨_, ka.mono (by grind), by grind, by grind⟩⟩, ?_⟩
  intro e; subst e
  exact (kv.mono (by simp only [cvs]; grind)).to (by simp only [Vs, ev]; grind)

theorem phase1 {J R H C al s : Rat} {x v a sw jw : Nat} (p : Par J R H C) (l1 : al - J * R ≤ E * (41 / 10)) (l2 : J * R - al ≤ E * (41 / 10)) (h : At J R H C al 1 x v a) (hj : S jw (0)) (hs : S sw s) (s0 : 0 ≤ s) (s1 : s ≤ H) :
    Out x v a sw jw (Xs J R H C 1 + inc J R H 1 s) (cxs 2) ∧ (s = H → Ap (nv v a sw jw) (Vs J R H 2) (cvs 2)) := by
  have P := p.prods
  have f1 := mm P.jr Rat.le_refl s0 s1
  have f2 := mm f1.1 f1.2 s0 s1
  have e1 := mm P.jrr Rat.le_refl s0 s1
  have e2 := mm P.jrh Rat.le_refl s0 s1
  have hx := h.x; have hv := h.v; have h1 := h.a
  simp only [Xs, cxs] at hx
  simp only [Vs, cvs] at hv
  simp only [als] at h1
  have ha := ap_of_near h1 l1 l2
  have := P.jr; have := P.jrr; have := P.jrh; have := P.sum; have := P.w; have := P.q1; have := P.q2; have := P.q3; have := P.q4; have := p.jr; have := p.j0; have := p.j4; have := p.r0; have := p.r3; have := p.h0; have := p.h8; have := p.c0; have := p.c17
  have K := k2 hx hv ha hs hj rfl s0 (by grind) (by grind) (by grind) (by grind) (by grind) (by grind) (by grind) (by grind) (by grind) (by grind)
  obtain ⟨k, kx, kv, ka⟩ := K
  refine ⟨⟨k, (kx.mono (by simp only [cxs]; grind)).to (by simp only [Xs, inc, ex, Vs, As, Js]; grind), ⟨_, kv.mono (by grind), by unfold ev; grind, by unfold ev; grind⟩, ⟨_, ka.mono (by grind), by grind, by grind⟩⟩, ?_⟩
  intro e; subst e
  exact (kv.mono (by simp only [cvs]; grind)).to (by simp only [Vs, ev]; grind)

theorem phase2 {J R H C al s : Rat} {x v a sw jw : Nat} (p : Par J R H C) (l1 : al - J * R ≤ E * (41 / 10)) (l2 : J * R - al ≤ E * (41 / 10)) (h : At J R H C al 2 x v a) (hj : S jw (-J)) (hs : S sw s) (s0 : 0 ≤ s) (s1 : s ≤ R) :
    Out x v a sw jw (Xs J R H C 2 + inc J R H 2 s) (cxs 3) ∧ (s = R → Ap (nv v a sw jw) (Vs J R H 3) (cvs 3)) := by
  have P := p.prods
  have g1 := mm p.j0 Rat.le_refl s0 s1
  have g2 := mm g1.1 g1.2 s0 s1
  have g3 := mm g2.1 g2.2 s0 s1
  have f1 := mm P.jr Rat.le_refl s0 s1
  have f2 := mm f1.1 f1.2 s0 s1
  have e1 := mm P.jrr Rat.le_refl s0 s1
  have e2 := mm P.jrh Rat.le_refl s0 s1
  have hx := h.x; have hv := h.v; have h1 := h.a
  simp only [Xs, cxs] at hx
  simp only [Vs, cvs] at hv
  simp only [als] at h1
  have ha := ap_of_near h1 l1 l2
  have := P.jr; have := P.jrr; have := P.jrh; have := P.sum; have := P.w; have := P.q1; have := P.q2; have := P.q3; have := P.q4; have := p.jr; have := p.j0; have := p.j4; have := p.r0; have := p.r3; have := p.h0; have := p.h8; have := p.c0; have := p.c17
  have K := k1 hx hv ha hs hj s0 (by grind) (by grind) (by grind) (by grind) (by grind) (by grind) (by grind) (by grind) (by grind) (by grind) (by grind) (by grind) (by grind) (by grind)
  obtain ⟨k, kx, kv, ka⟩ := K
  refine ⟨⟨k, (kx.mono (by simp only [cxs]; grind)).to (by simp only [Xs, inc, ex, Vs, As, Js]; grind), ⟨_, kv.mono (by grind), by unfold ev; grind, by unfold ev; grind⟩, ⟨_, ka.mono (by grind), by grind, by grind⟩⟩, ?_⟩
  intro e; subst e
  exact (kv.mono (by simp only [cvs]; grind)).to (by simp only [Vs, ev]; grind)

theorem phase3 {J R H C al s : Rat} {x v a sw jw : Nat} (p : Par J R H C) (h : At J R H C al 3 x v a) (hj : S jw (0)) (hs : S sw s) (s0 : 0 ≤ s) (s1 : s ≤ C) :
    Out x v a sw jw (Xs J R H C 3 + inc J R H 3 s) (cxs 4) ∧ (s = C → Ap (nv v a sw jw) (Vs J R H 4) (cvs 4)) := by
  have P := p.prods
  have e1 := mm P.jrr Rat.le_refl s0 s1
  have e2 := mm P.jrh Rat.le_refl s0 s1
  have hx := h.x; have hv := h.v; have h1 := h.a
  simp only [Xs, cxs] at hx
  simp only [Vs, cvs] at hv
  simp only [als] at h1
  have ha := Ap.of h1
  have := P.jr; have := P.jrr; have := P.jrh; have := P.sum; have := P.w; have := P.q1; have := P.q2; have := P.q3; have := P.q4; have := p.jr; have := p.j0; have := p.j4; have := p.r0; have := p.r3; have := p.h0; have := p.h8; have := p.c0; have := p.c17
  have K := k4 hx hv h1 hs hj s0 (by grind) (by grind) (by grind) (by grind) (by grind) (by grind)
  obtain ⟨k, kx, kv, ka⟩ := K
  refine ⟨⟨k, (kx.mono (by simp only [cxs]; grind)).to (by simp only [Xs, inc, ex, Vs, As, Js]; grind), ⟨_, kv.mono (by grind), by unfold ev; grind, by unfold ev; grind⟩, ⟨_, ka.mono (by grind), by grind, by grind⟩⟩, ?_⟩
  intro e; subst e
  exact (kv.mono (by simp only [cvs]; grind)).to (by simp only [Vs, ev]; grind)

theorem phase4 {J R H C al s : Rat} {x v a sw jw : Nat} (p : Par J R H C) (h : At J R H C al 4 x v a) (hj : S jw (-J)) (hs : S sw s) (s0 : 0 ≤ s) (s1 : s ≤ R) :
    Out x v a sw jw (Xs J R H C 4 + inc J R H 4 s) (cxs 5) ∧ (s = R → Ap (nv v a sw jw) (Vs J R H 5) (cvs 5)) := by
  have P := p.prods
  have g1 := mm p.j0 Rat.le_refl s0 s1
  have g2 := mm g1.1 g1.2 s0 s1
  have g3 := mm g2.1 g2.2 s0 s1
  have e1 := mm P.jrr Rat.le_refl s0 s1
  have e2 := mm P.jrh Rat.le_refl s0 s1
  have hx := h.x; have hv := h.v; have h1 := h.a
  simp only [Xs, cxs] at hx
  simp only [Vs, cvs] at hv
  simp only [als] at h1
  have ha := Ap.of h1
  have := P.jr; have := P.jrr; have := P.jrh; have := P.sum; have := P.w; have := P.q1; have := P.q2; have := P.q3; have := P.q4; have := p.jr; have := p.j0; have := p.j4; have := p.r0; have := p.r3; have := p.h0; have := p.h8; have := p.c0; have := p.c17
  have K := k1 hx hv ha hs hj s0 (by grind) (by grind) (by grind) (by grind) (by grind) (by grind) (by grind) (by grind) (by grind) (by grind) (by grind) (by grind) (by grind) (by grind)
  obtain ⟨k, kx, kv, ka⟩ := K
  refine ⟨⟨k, (kx.mono (by simp only [cxs]; grind)).to (by simp only [Xs, inc, ex, Vs, As, Js]; grind), ⟨_, kv.mono (by grind), by unfold ev; grind, by unfold ev; grind⟩, ⟨_, ka.mono (by grind), by grind, by grind⟩⟩, ?_⟩
  intro e; subst e
  exact (kv.mono (by simp only [cvs]; grind)).to (by simp only [Vs, ev]; grind)

theorem phase5 {J R H C al s : Rat} {x v a sw jw : Nat} (p : Par J R H C) (l1 : al - J * R ≤ E * (41 / 10)) (l2 : J * R - al ≤ E * (41 / 10)) (h : At J R H C al 5 x v a) (hj : S jw (0)) (hs : S sw s) (s0 : 0 ≤ s) (s1 : s ≤ H) :
    Out x v a sw jw (Xs J R H C 5 + inc J R H 5 s) (cxs 6) ∧ (s = H → Ap (nv v a sw jw) (Vs J R H 6) (cvs 6)) := by
  have P := p.prods
  have f1 := mm P.jr Rat.le_refl s0 s1
  have f2 := mm f1.1 f1.2 s0 s1
  have e1 := mm P.jrr Rat.le_refl s0 s1
  have e2 := mm P.jrh Rat.le_refl s0 s1
  have hx := h.x; have hv := h.v; have h1 := h.a
  simp only [Xs, cxs] at hx
  simp only [Vs, cvs] at hv
  simp only [als] at h1
  have ha := ap_of_near (A := -(J * R)) (c := 41 / 10) h1 (by grind) (by grind)
  have := P.jr; have := P.jrr; have := P.jrh; have := P.sum; have := P.w; have := P.q1; have := P.q2; have := P.q3; have := P.q4; have := p.jr; have := p.j0; have := p.j4; have := p.r0; have := p.r3; have := p.h0; have := p.h8; have := p.c0; have := p.c17
  have K := k2 hx hv ha hs hj rfl s0 (by grind) (by grind) (by grind) (by grind) (by grind) (by grind) (by grind) (by grind) (by grind) (by grind)
  obtain ⟨k, kx, kv, ka⟩ := K
  refine ⟨⟨k, (kx.mono (by simp only [cxs]; grind)).to (by simp only [Xs, inc, ex, Vs, As, Js]; grind), ⟨_, kv.mono (by grind), by unfold ev; grind, by unfold ev; grind⟩, ⟨_, ka.mono (by grind), by grind, by grind⟩⟩, ?_⟩
  intro e; subst e
  exact (kv.mono (by simp only [cvs]; grind)).to (by simp only [Vs, ev]; grind)

theorem phase6 {J R H C al s : Rat} {x v a sw jw : Nat} (p : Par J R H C) (l1 : al - J * R ≤ E * (41 / 10)) (l2 : J * R - al ≤ E * (41 / 10)) (h : At J R H C al 6 x v a) (hj : S jw (J)) (hs : S sw s) (s0 : 0 ≤ s) (s1 : s ≤ R) :
    Out x v a sw jw (Xs J R H C 6 + inc J R H 6 s) (cxs 7) ∧ (s = R → Ap (nv v a sw jw) (Vs J R H 7) (cvs 7)) := by
  have P := p.prods
  have g1 := mm p.j0 Rat.le_refl s0 s1
  have g2 := mm g1.1 g1.2 s0 s1
  have g3 := mm g2.1 g2.2 s0 s1
  have f1 := mm P.jr Rat.le_refl s0 s1
  have f2 := mm f1.1 f1.2 s0 s1
  have e1 := mm P.jrr Rat.le_refl s0 s1
  have e2 := mm P.jrh Rat.le_refl s0 s1
  have hx := h.x; have hv := h.v; have h1 := h.a
  simp only [Xs, cxs] at hx
  simp only [Vs, cvs] at hv
  simp only [als] at h1
  have ha := ap_of_near (A := -(J * R)) (c := 41 / 10) h1 (by grind) (by grind)
  have := P.jr; have := P.jrr; have := P.jrh; have := P.sum; have := P.w; have := P.q1; have := P.q2; have := P.q3; have := P.q4; have := p.jr; have := p.j0; have := p.j4; have := p.r0; have := p.r3; have := p.h0; have := p.h8; have := p.c0; have := p.c17
  have K := k1 hx hv ha hs hj s0 (by grind) (by grind) (by grind) (by grind) (by grind) (by grind) (by grind) (by grind) (by grind) (by grind) (by grind) (by grind) (by grind) (by grind)
  obtain ⟨k, kx, kv, ka⟩ := K
  refine ⟨⟨k, (kx.mono (by simp only [cxs]; grind)).to (by simp only [Xs, inc, ex, Vs, As, Js]; grind), ⟨_, kv.mono (by grind), by unfold ev; grind, by unfold ev; grind⟩, ⟨_, ka.mono (by grind), by grind, by grind⟩⟩, ?_⟩
  intro e; subst e
  exact (kv.mono (by simp only [cvs]; grind)).to (by simp only [Vs, ev]; grind)
end Fl
