/- PlanWay: the run of seven steps at the level of words. -/
import Derived.Test.YtpkcbofeoklpbaaWay2
namespace Fl
open Go

theorem read_of_word (f : Ieee.Format) (n : Bool) (r : Nat) (h : r < f.signWeight) :
    f.read (f.word n r) = (if r < f.binade then .number n r f.leastPlace
      else if r < f.infRung then .number n (f.binade + r % f.binade) (f.leastPlace + (r / f.binade - 1 : Nat))
      else if r = f.infRung then .infinity n else .nan n (r - f.infRung)) := by
  have h1 : (f.word n r) % f.signWeight = r := by
    unfold Ieee.Format.word; cases n
    · simp; exact Nat.mod_eq_of_lt h
    · simp; exact Nat.mod_eq_of_lt h
  have h2 : (f.word n r / f.signWeight % 2 == 1) = n := by
    unfold Ieee.Format.word; cases n
    · have : r / f.signWeight = 0 := Nat.div_eq_of_lt h
      simp [this]
    · have : (f.signWeight + r) / f.signWeight = 1 := by
        rw [Nat.add_div_left _ (by omega), Nat.div_eq_of_lt h]
      simp [this]
  simp only [Ieee.Format.read, h1, h2]

theorem word_neg {f : Ieee.Format} {n : Bool} {r : Nat} {z : Rat} (h : r < f.signWeight) (hz : Is f (f.word n r) z) : Is f (f.word (!n) r) (-z) := by
  obtain ⟨s, m, e, hr, hv⟩ := is_read hz
  have hlt : f.word (!n) r < 2 * f.signWeight := by unfold Ieee.Format.word; cases n <;> simp <;> omega
  have a1 := read_of_word f n r h
  have a2 := read_of_word f (!n) r h
  rw [hr] at a1
  have key : f.read (f.word (!n) r) = .number (!s) m e := by
    rw [a2]
    split at a1
    · injection a1 with b1 b2 b3; subst b1; subst b2; subst b3; rename_i c; rw [if_pos c]
    · split at a1
      · injection a1 with b1 b2 b3; subst b1; rename_i c1 c2; rw [if_neg c1, if_pos c2, b2, b3]
      · split at a1 <;> cases a1
  refine is_const key hlt ?_
  rw [← hv]; cases s <;> simp [sg] <;> grind

theorem nearest_neg {n : Bool} {m : Nat} {e : Int} {z : Rat} (hz : S (Ieee.single.write (.number n m e)) z) : S (Ieee.single.write (.number (!n) m e)) (-z) := by
  have hi : Ieee.single.infRung < Ieee.single.signWeight := by decide
  have hp : 0 < Ieee.single.signWeight := by decide
  unfold Ieee.Format.write at hz ⊢
  simp only at hz ⊢
  by_cases h0 : m = 0
  · subst h0
    simp only [Ieee.Format.nearest, if_true] at hz ⊢
    exact word_neg hp hz
  · rw [nearest_eq _ _ _ _ h0] at hz ⊢
    exact word_neg (Nat.lt_of_le_of_lt (Nat.min_le_right _ _) hi) hz

/-- a product with the other sign -/
theorem mul_negFloat {a b : Nat} {x y z : Rat} (ha : S a x) (hb : S b y) (hz : S (fmul a b) z) :
    floatBits .mul .f32 (Op.negFloat .f32 a) b = some (fmul (Op.negFloat .f32 a) b) ∧ S (fmul (Op.negFloat .f32 a) b) (-z) := by
  obtain ⟨s, m, i, hr, _⟩ := is_read ha
  obtain ⟨t, n, j, hr2, _⟩ := is_read hb
  obtain ⟨hn, _⟩ := neg_read ha.lt
  have e1 : floatBits .mul .f32 a b = some (Ieee.single.write (.number (s ^^ t) (m * n) (i + j))) := by
    show (((Ieee.single.read a).product (Ieee.single.read b)).map Ieee.single.write) = _
    rw [hr, hr2]; rfl
  have e2 : floatBits .mul .f32 (Op.negFloat .f32 a) b = some (Ieee.single.write (.number (!(s ^^ t)) (m * n) (i + j))) := by
    show (((Ieee.single.read (Op.negFloat .f32 a)).product (Ieee.single.read b)).map Ieee.single.write) = _
    rw [hn, hr, hr2]
    have : (!s ^^ t) = !(s ^^ t) := by cases s <;> cases t <;> rfl
    simp only [Ieee.Datum.opposite, Ieee.Datum.product, Option.map_some, this]
  have f1 : fmul a b = _ := fop_some e1
  have f2 : fmul (Op.negFloat .f32 a) b = _ := fop_some e2
  refine ⟨by rw [f2]; exact e2, ?_⟩
  rw [f1] at hz
  rw [f2]
  exact nearest_neg hz

theorem rep_zero : Rep Ieee.single 0 := rep_of_is s_zero

/-- the words of a plan -/
structure Words (j r h c : Nat) (J R H C al : Rat) : Prop where
  sj : S j J
  sr : S r R
  sh : S h H
  sc : S c C
  ok : floatBits .mul .f32 j r = some (fmul j r)
  sal : S (fmul j r) al
  l1 : al - J * R ≤ E * (41 / 10)
  l2 : J * R - al ≤ E * (41 / 10)

theorem na_zero {a d : Nat} {al y : Rat} (ha : S a al) (hd : S d y) (h1 : -100 ≤ al) (h2 : al ≤ 100) : S (na a d 0) al := by
  have e := fmul_ex s_zero hd (by simp; grind) (by simp; grind) (by rw [Rat.zero_mul]; exact rep_zero)
  have g := fadd_ex ha e.is (by grind) (by grind) (by have : al + 0 * y = al := by grind
                                                      rw [this]; exact rep_of_is ha)
  have : al + 0 * y = al := by grind
  have := g.is
  unfold na
  rw [← ‹al + 0 * y = al›]; exact this

theorem na_sum {a d j : Nat} {al be : Rat} (ha : S a al) (hd : S (fmul j d) be) (h1 : -100 ≤ al + be) (h2 : al + be ≤ 100) (hr : Rep Ieee.single (al + be)) : S (na a d j) (al + be) :=
  (fadd_ex ha hd (by grind) (by grind) hr).is

theorem na_full {j r h c a : Nat} {J R H C al : Rat} (w : Words j r h c J R H C al) (hal0 : -10 ≤ al) (hal1 : al ≤ 10) (k : Nat) (hk : k < 7) (ha : S a (als al k)) :
    S (na a (wd r h c k) (wj j k)) (als al (k + 1)) := by
  have hal := w.sal
  have hng := (mul_negFloat w.sj w.sr w.sal).2
  have rz := rep_zero
  have ra := rep_of_is hal
  have rn := rep_of_is hng
  match k, hk with
  | 0, _ =>
    have := na_sum (al := 0) ha hal (by grind) (by grind) (by rw [Rat.zero_add]; exact ra)
    rw [Rat.zero_add] at this; exact this
  | 1, _ => exact na_zero ha w.sh (by simp only [als]; grind) (by simp only [als]; grind)
  | 2, _ =>
    have e : al + -al = 0 := by grind
    have := na_sum (al := al) ha hng (by grind) (by grind) (by rw [e]; exact rz)
    rw [e] at this; exact this
  | 3, _ => exact na_zero ha w.sc (by simp only [als]; grind) (by simp only [als]; grind)
  | 4, _ =>
    have := na_sum (al := 0) ha hng (by grind) (by grind) (by rw [Rat.zero_add]; exact rn)
    rw [Rat.zero_add] at this; exact this
  | 5, _ => exact na_zero ha w.sh (by simp only [als]; grind) (by simp only [als]; grind)
  | 6, _ =>
    have e : -al + al = 0 := by grind
    have := na_sum (al := -al) ha hal (by grind) (by grind) (by rw [e]; exact rz)
    rw [e] at this; exact this

/-- one phase, whichever -/
theorem phase {J R H C al s : Rat} {x v a sw jw : Nat} (p : Par J R H C) (l1 : al - J * R ≤ E * (41 / 10)) (l2 : J * R - al ≤ E * (41 / 10)) (k : Nat) (hk : k < 7) (h : At J R H C al k x v a) (hj : S jw (Js J k)) (hs : S sw s) (s0 : 0 ≤ s) (s1 : s ≤ Ds R H C k) :
    Out x v a sw jw (Xs J R H C k + inc J R H k s) (cxs (k + 1)) ∧ (s = Ds R H C k → Ap (nv v a sw jw) (Vs J R H (k + 1)) (cvs (k + 1))) := by
  match k, hk with
  | 0, _ => exact phase0 p h hj hs s0 s1
  | 1, _ => exact phase1 p l1 l2 h hj hs s0 s1
  | 2, _ => exact phase2 p l1 l2 h hj hs s0 s1
  | 3, _ => exact phase3 p h hj hs s0 s1
  | 4, _ => exact phase4 p h hj hs s0 s1
  | 5, _ => exact phase5 p l1 l2 h hj hs s0 s1
  | 6, _ => exact phase6 p l1 l2 h hj hs s0 s1

theorem inc_full {J R H C : Rat} (k : Nat) (hk : k < 7) : Xs J R H C k + inc J R H k (Ds R H C k) = Xs J R H C (k + 1) := by
  match k, hk with
  | 0, _ => simp only [Xs, inc, ex, Vs, As, Js, Ds]; grind
  | 1, _ => simp only [Xs, inc, ex, Vs, As, Js, Ds]; grind
  | 2, _ => simp only [Xs, inc, ex, Vs, As, Js, Ds]; grind
  | 3, _ => simp only [Xs, inc, ex, Vs, As, Js, Ds]; grind
  | 4, _ => simp only [Xs, inc, ex, Vs, As, Js, Ds]; grind
  | 5, _ => simp only [Xs, inc, ex, Vs, As, Js, Ds]; grind
  | 6, _ => simp only [Xs, inc, ex, Vs, As, Js, Ds]; grind

/-- the state of the run -/
structure St where
  x : Nat
  v : Nat
  a : Nat
  t : Nat

def wmin (t d : Nat) : Nat := if (Ieee.single.order t d == some .lt) = true then t else d
def pst (j r h c t : Nat) : Nat → St
  | 0 => ⟨0, 0, 0, t⟩
  | k + 1 =>
    let q := pst j r h c t k
    let s := wmin q.t (wd r h c k)
    ⟨nx q.x q.v q.a s (wj j k), nv q.v q.a s (wj j k), na q.a s (wj j k), fsub q.t s⟩

/-- the operations of the round k are valid -/
def Fine7 (j r h c t k : Nat) : Prop :=
  StepOk (pst j r h c t k).x (pst j r h c t k).v (pst j r h c t k).a (wmin (pst j r h c t k).t (wd r h c k)) (wj j k) ∧
    floatBits .sub .f32 (pst j r h c t k).t (wmin (pst j r h c t k).t (wd r h c k)) = some (fsub (pst j r h c t k).t (wmin (pst j r h c t k).t (wd r h c k)))

def Dsum (R H C : Rat) : Nat → Rat
  | 0 => 0
  | k + 1 => Dsum R H C k + Ds R H C k

theorem ds_nonneg {J R H C : Rat} (p : Par J R H C) (k : Nat) : 0 ≤ Ds R H C k := by
  have := p.r0; have := p.h0; have := p.c0
  unfold Ds; split <;> assumption
theorem ds_le {J R H C : Rat} (p : Par J R H C) (k : Nat) : Ds R H C k ≤ 17 := by
  have := p.r3; have := p.h8; have := p.c17
  unfold Ds; split <;> grind
theorem wd_is {j r h c : Nat} {J R H C al : Rat} (w : Words j r h c J R H C al) (k : Nat) : S (wd r h c k) (Ds R H C k) := by
  unfold wd Ds; split <;> first | exact w.sh | exact w.sc | exact w.sr
theorem wj_is {j r h c : Nat} {J R H C al : Rat} (w : Words j r h c J R H C al) (k : Nat) : S (wj j k) (Js J k) := by
  unfold wj Js; split <;> first | exact w.sj | exact neg_ok w.sj | exact s_zero

theorem wmin_lt {t d : Nat} {tv dv : Rat} (ht : S t tv) (hd : S d dv) (h : tv < dv) : wmin t d = t := by
  unfold wmin; rw [lss_is ht hd]; simp [h]
theorem wmin_ge {t d : Nat} {tv dv : Rat} (ht : S t tv) (hd : S d dv) (h : ¬ tv < dv) : wmin t d = d := by
  unfold wmin; rw [lss_is ht hd]; simp [h]

/-- under way at the phase k: the time that is left -/
structure Act (J R H C al tv : Rat) (k : Nat) (q : St) : Prop where
  at' : At J R H C al k q.x q.v q.a
  t : ∃ z, S q.t z ∧ 0 ≤ z ∧ z ≤ 60 ∧ tv - Dsum R H C k - E * (61 * k) ≤ z ∧ z ≤ tv - Dsum R H C k + E * (61 * k)

/-- come to rest at a place within the phase i -/
structure Rest (J R H C tv : Rat) (k : Nat) (q : St) : Prop where
  x : ∃ i s, i < k ∧ i < 7 ∧ 0 ≤ s ∧ s < Ds R H C i ∧ tv - Dsum R H C i - E * 500 ≤ s ∧ s ≤ tv - Dsum R H C i + E * 500 ∧ Ap q.x (Xs J R H C i + inc J R H i s) (8526 + 10 * k)
  v : ∃ V, Ap q.v V (800 + 10 * k) ∧ -9 ≤ V ∧ V ≤ 9
  a : ∃ A, Ap q.a A (800 + 10 * k) ∧ -9 ≤ A ∧ A ≤ 9
  t : S q.t 0

theorem cxs_le (k : Nat) : cxs k ≤ 8526 := by unfold cxs; split <;> grind
theorem js_bd {J R H C : Rat} (p : Par J R H C) (k : Nat) : -5 ≤ Js J k ∧ Js J k ≤ 5 := by
  have := p.j0; have := p.j4
  unfold Js; split <;> constructor <;> grind
theorem ex0 (X V A s j : Rat) : ex X V A s j = X + ex 0 V A s j := by unfold ex; grind

/-- within a phase the way grows, by no more than the greatest speed allows -/
theorem inc_mono {J R H C : Rat} (p : Par J R H C) (k : Nat) (hk : k < 7) {a b : Rat} (a0 : 0 ≤ a) (hab : a ≤ b) (hb : b ≤ Ds R H C k) :
    0 ≤ inc J R H k b - inc J R H k a ∧ inc J R H k b - inc J R H k a ≤ J * R * (R + H) * (b - a) := by
  have P := p.prods
  have hb0 : 0 ≤ b := by grind
  have ha1 : a ≤ Ds R H C k := by grind
  have key : inc J R H k b - inc J R H k a = (Vs J R H k + As J R k / 2 * (a + b) + Js J k * (a * a + a * b + b * b) / 6) * (b - a) := by unfold inc ex; grind
  have main : 0 ≤ Vs J R H k + As J R k / 2 * (a + b) + Js J k * (a * a + a * b + b * b) / 6 ∧ Vs J R H k + As J R k / 2 * (a + b) + Js J k * (a * a + a * b + b * b) / 6 ≤ J * R * (R + H) := by
    have q1 := P.jr; have q2 := P.jrr; have q3 := P.jrh
    have p0 := p.j0; have pr := p.r0; have ph := p.h0
    clear key
    match k, hk with
    | 0, _ =>
      simp only [Ds] at hb ha1; simp only [Vs, As, Js]
      have a1 := mm p0 Rat.le_refl a0 ha1
      have a2 := mm p0 Rat.le_refl hb0 hb
      have b1 := mm a1.1 a1.2 a0 ha1
      have b2 := mm a1.1 a1.2 hb0 hb
      have b3 := mm a2.1 a2.2 hb0 hb
      constructor <;> grind
    | 1, _ =>
      simp only [Ds] at hb ha1; simp only [Vs, As, Js]
      have a1 := mm q1 Rat.le_refl a0 ha1
      have a2 := mm q1 Rat.le_refl hb0 hb
      constructor <;> grind
    | 2, _ =>
      simp only [Ds] at hb ha1; simp only [Vs, As, Js]
      have a1 := mm p0 Rat.le_refl a0 ha1
      have a2 := mm p0 Rat.le_refl hb0 hb
      have b1 := mm a1.1 Rat.le_refl a0 ha1
      have b2 := mm a1.1 Rat.le_refl hb0 hb
      have b3 := mm a2.1 Rat.le_refl hb0 hb
      have c1 : 0 ≤ R - a := by grind
      have c2 : 0 ≤ R - b := by grind
      have d1 := Rat.mul_nonneg (Rat.mul_nonneg p0 c1) c1
      have d2 := Rat.mul_nonneg (Rat.mul_nonneg p0 c1) c2
      have d3 := Rat.mul_nonneg (Rat.mul_nonneg p0 c2) c2
      constructor <;> grind
    | 3, _ => simp only [Vs, As, Js]; constructor <;> grind
    | 4, _ =>
      simp only [Ds] at hb ha1; simp only [Vs, As, Js]
      have a1 := mm p0 Rat.le_refl a0 ha1
      have a2 := mm p0 Rat.le_refl hb0 hb
      have b1 := mm a1.1 a1.2 a0 ha1
      have b2 := mm a1.1 a1.2 hb0 hb
      have b3 := mm a2.1 a2.2 hb0 hb
      constructor <;> grind
    | 5, _ =>
      simp only [Ds] at hb ha1; simp only [Vs, As, Js]
      have a1 := mm q1 Rat.le_refl a0 ha1
      have a2 := mm q1 Rat.le_refl hb0 hb
      constructor <;> grind
    | 6, _ =>
      simp only [Ds] at hb ha1; simp only [Vs, As, Js]
      have a1 := mm p0 Rat.le_refl a0 ha1
      have a2 := mm p0 Rat.le_refl hb0 hb
      have b1 := mm a1.1 Rat.le_refl a0 ha1
      have b2 := mm a1.1 Rat.le_refl hb0 hb
      have b3 := mm a2.1 Rat.le_refl hb0 hb
      have c1 : 0 ≤ R - a := by grind
      have c2 : 0 ≤ R - b := by grind
      have d1 := Rat.mul_nonneg (Rat.mul_nonneg p0 c1) c1
      have d2 := Rat.mul_nonneg (Rat.mul_nonneg p0 c1) c2
      have d3 := Rat.mul_nonneg (Rat.mul_nonneg p0 c2) c2
      constructor <;> grind
  have hd : 0 ≤ b - a := by grind
  rw [key]
  exact ⟨Rat.mul_nonneg main.1 hd, Rat.mul_le_mul_of_nonneg_right main.2 hd⟩

theorem inc_zero (J R H : Rat) (k : Nat) : inc J R H k 0 = 0 := by unfold inc ex; grind

theorem xs_bd {J R H C : Rat} (p : Par J R H C) (k : Nat) (hk : k < 7) (s : Rat) (s0 : 0 ≤ s) (s1 : s ≤ Ds R H C k) : 0 ≤ Xs J R H C k + inc J R H k s ∧ Xs J R H C k + inc J R H k s ≤ 9 := by
  have h1 := inc_mono p k hk Rat.le_refl s0 s1
  have h2 := inc_mono p k hk s0 s1 Rat.le_refl
  have h3 := inc_full (J := J) (R := R) (H := H) (C := C) k hk
  rw [inc_zero] at h1
  have P := p.prods
  have hX : 0 ≤ Xs J R H C k ∧ Xs J R H C (k + 1) ≤ 9 := by
    have := P.q1; have := P.q2; have := P.q3; have := P.q4; have := P.w
    match k, hk with
    | 0, _ => simp only [Xs]; constructor <;> grind
    | 1, _ => simp only [Xs]; constructor <;> grind
    | 2, _ => simp only [Xs]; constructor <;> grind
    | 3, _ => simp only [Xs]; constructor <;> grind
    | 4, _ => simp only [Xs]; constructor <;> grind
    | 5, _ => simp only [Xs]; constructor <;> grind
    | 6, _ => simp only [Xs]; constructor <;> grind
  constructor <;> grind

theorem sub_self {t : Nat} {z : Rat} (h : S t z) : floatBits .sub .f32 t t = some (fsub t t) ∧ S (fsub t t) 0 := by
  have e : z - z = 0 := by grind
  have g := fsub_ex h h (by rw [e]; decide +kernel) (by rw [e]; decide +kernel) (by rw [e]; exact rep_zero)
  refine ⟨g.ok, ?_⟩
  have := g.is; rw [e] at this; exact this

theorem Is.uniq {f : Ieee.Format} {w : Nat} {x y : Rat} (h : Is f w x) (h' : Is f w y) : x = y := by rw [← h.val, ← h'.val]

/-- what is not negative stays so -/
theorem fsub_nonneg {a b : Nat} {x y z : Rat} (ha : S a x) (hb : S b y) (hxy : y ≤ x) (hx : x - y ≤ 1000000) (hz : S (fsub a b) z) : 0 ≤ z := by
  obtain ⟨s, m, e, hs, hv⟩ := sum_val (is_read ha) (opposite_val (is_read hb))
  have h1 : floatBits .sub .f32 a b = some (Ieee.single.write (.number s m e)) := by
    show ((Ieee.single.read a).sum (Ieee.single.read b).opposite).map Ieee.single.write = _
    rw [hs]; rfl
  have h2 : fsub a b = _ := fop_some h1
  rw [h2] at hz
  by_cases h0 : m = 0
  · subst h0
    have := hz.uniq (y := 0) (by simpa [Ieee.Format.write, Ieee.Format.nearest] using word_zero fine_single s)
    rw [this]; exact Rat.le_refl
  · have hm : (0 : Rat) < (m : Rat) * p2 e := Rat.mul_pos (by exact_mod_cast (by omega : 0 < m)) (p2_pos e)
    have hp := p100_big
    have hs0 : s = false := by
      cases s
      · rfl
      · exfalso; simp only [sg, if_true] at hv; grind
    subst hs0
    simp only [sg, Bool.false_eq_true, if_false] at hv
    have hn := nearest_is fine_single false m e h0 (by grind)
    have := hz.uniq hn
    rw [this]
    simp only [sg, Bool.false_eq_true, if_false]
    have hk : (0 : Rat) ≤ (kept Ieee.single m e : Rat) := by exact_mod_cast Nat.zero_le _
    have := Rat.mul_nonneg hk (Rat.le_of_lt (p2_pos (lastPlace Ieee.single m e)))
    grind

theorem round_rest {j r h c : Nat} {J R H C al tv : Rat} (p : Par J R H C) (w : Words j r h c J R H C al) (t k : Nat) (hk : k < 7) (hr : Rest J R H C tv k (pst j r h c t k)) :
    Fine7 j r h c t k ∧ Rest J R H C tv (k + 1) (pst j r h c t (k + 1)) := by
  obtain ⟨⟨i, s, hik, hi7, s0, s1, l1, l2, hx⟩, ⟨V, hv, v1, v2⟩, ⟨A, ha, a1, a2⟩, ht⟩ := hr
  have hd := wd_is w k
  have hj := wj_is w k
  have hd0 := ds_nonneg p k
  have hjb := js_bd p k
  have hkr : (k : Rat) ≤ 6 := by
    have : ((k : Nat) : Rat) ≤ ((6 : Nat) : Rat) := by exact_mod_cast (by omega : k ≤ 6)
    exact this
  have hk0 : (0 : Rat) ≤ (k : Rat) := by exact_mod_cast Nat.zero_le k
  have hX := xs_bd p i hi7 s s0 (by grind)
  -- the least of both times is nothing
  have hs : S (wmin (pst j r h c t k).t (wd r h c k)) 0 := by
    by_cases hc : (0 : Rat) < Ds R H C k
    · rw [wmin_lt ht hd hc]; exact ht
    · rw [wmin_ge ht hd hc]
      have : Ds R H C k = 0 := by grind
      rw [this] at hd; exact hd
  have K := k0 hx hv ha hs hj (by constructor <;> grind) (by constructor <;> grind) (by constructor <;> grind) (by constructor <;> grind) hjb (by constructor <;> grind) (by constructor <;> grind)
  obtain ⟨k1, k2, k3, k4⟩ := K
  have hsz : (0 : Rat) - 0 = 0 := by decide +kernel
  have hsub := fsub_ex ht hs (by decide +kernel) (by decide +kernel) (by rw [hsz]; exact rep_zero)
  have hsi := hsub.is; rw [hsz] at hsi
  have hc1 : ((k + 1 : Nat) : Rat) = (k : Rat) + 1 := by simp
  refine ⟨⟨k1, hsub.ok⟩, ⟨i, s, by omega, hi7, s0, s1, l1, l2, ?_⟩, ⟨V, ?_, v1, v2⟩, ⟨A, ?_, a1, a2⟩, hsi⟩
  · exact k2.mono (by rw [hc1]; grind)
  · exact k3.mono (by rw [hc1]; grind)
  · exact k4.mono (by rw [hc1]; grind)

theorem dsum_nonneg {J R H C : Rat} (p : Par J R H C) (k : Nat) : 0 ≤ Dsum R H C k := by
  induction k with
  | zero => exact Rat.le_refl
  | succ k ih => have := ds_nonneg p k; simp only [Dsum]; grind

theorem round_act {j r h c : Nat} {J R H C al tv : Rat} (p : Par J R H C) (w : Words j r h c J R H C al) (hal0 : -10 ≤ al) (hal1 : al ≤ 10) (htv : tv ≤ 59) (t k : Nat) (hk : k < 7) (hr : Act J R H C al tv k (pst j r h c t k)) :
    Fine7 j r h c t k ∧ (Act J R H C al tv (k + 1) (pst j r h c t (k + 1)) ∨ Rest J R H C tv (k + 1) (pst j r h c t (k + 1))) := by
  obtain ⟨hat, z, ht, z0, z1, l1, l2⟩ := hr
  have hd := wd_is w k
  have hj := wj_is w k
  have hd0 := ds_nonneg p k
  have hd1 := ds_le p k
  have hkr : (k : Rat) ≤ 6 := by
    have : ((k : Nat) : Rat) ≤ ((6 : Nat) : Rat) := by exact_mod_cast (by omega : k ≤ 6)
    exact this
  have hk0 : (0 : Rat) ≤ (k : Rat) := by exact_mod_cast Nat.zero_le k
  have hc1 : ((k + 1 : Nat) : Rat) = (k : Rat) + 1 := by simp
  have hE := E_pos
  have hE6 := E_mul_le (by grind : 61 * (k : Rat) ≤ 500)
  by_cases hc : z < Ds R H C k
  · -- the rest of the time ends within the phase
    have hw := wmin_lt ht hd hc
    obtain ⟨o, _⟩ := phase p w.l1 w.l2 k hk hat hj ht z0 (by grind)
    obtain ⟨ok, ox, ⟨V, ov, v1, v2⟩, ⟨A, oa, a1, a2⟩⟩ := o
    obtain ⟨b1, b2⟩ := sub_self ht
    refine ⟨⟨by rw [hw]; exact ok, by rw [hw]; exact b1⟩, .inr ⟨⟨k, z, by omega, hk, z0, hc, by grind, by grind, ?_⟩, ⟨V, ?_, v1, v2⟩, ⟨A, ?_, a1, a2⟩, ?_⟩⟩
    · have := ox.mono (c' := 8526 + 10 * ((k + 1 : Nat) : Rat)) (by have := cxs_le (k + 1); rw [hc1]; grind)
      simp only [pst, hw]; exact this
    · have := ov.mono (c' := 800 + 10 * ((k + 1 : Nat) : Rat)) (by rw [hc1]; grind)
      simp only [pst, hw]; exact this
    · have := oa.mono (c' := 800 + 10 * ((k + 1 : Nat) : Rat)) (by rw [hc1]; grind)
      simp only [pst, hw]; exact this
    · simp only [pst, hw]; exact b2
  · have hw := wmin_ge ht hd hc
    obtain ⟨o, ofull⟩ := phase p w.l1 w.l2 k hk hat hj hd hd0 Rat.le_refl
    obtain ⟨ok, ox, _, _⟩ := o
    have hs := fsub_ok 60 ht hd (by grind) (by grind) (by grind)
    obtain ⟨y, hy, y1, y2⟩ := hs.near
    have hE1 := E_small (c := 60 + 1 / 1000) (B := 1 / 1000) (by grind)
    have hy' : S (fsub (pst j r h c t k).t (wd r h c k)) y := hy
    have hy0 := fsub_nonneg ht hd (by grind) (by grind) hy'
    refine ⟨⟨by rw [hw]; exact ok, by rw [hw]; exact hs.ok⟩, .inl ⟨⟨?_, ?_, ?_⟩, y, ?_, hy0, ?_, ?_, ?_⟩⟩
    · simp only [pst, hw]; exact ox.to (inc_full k hk)
    · simp only [pst, hw]; exact ofull rfl
    · simp only [pst, hw]; exact na_full w hal0 hal1 k hk hat.a
    · simp only [pst, hw]; exact hy'
    · have e1 := E_mul_le (by grind : 61 * (k : Rat) + 60 + 1 / 1000 ≤ 500)
      have e2 := E_small (c := 500) (B := 1) (by grind)
      have := dsum_nonneg p k
      grind
    · rw [hc1]; simp only [Dsum]; grind
    · rw [hc1]; simp only [Dsum]; grind

/-- the whole run -/
theorem run7 {j r h c t : Nat} {J R H C al tv : Rat} (p : Par J R H C) (w : Words j r h c J R H C al) (hal0 : -10 ≤ al) (hal1 : al ≤ 10) (ht : S t tv) (t0 : 0 ≤ tv) (t1 : tv ≤ 59) (k : Nat) (hk : k ≤ 7) :
    (∀ i, i < k → Fine7 j r h c t i) ∧ (Act J R H C al tv k (pst j r h c t k) ∨ Rest J R H C tv k (pst j r h c t k)) := by
  induction k with
  | zero =>
    refine ⟨fun i hi => absurd hi (Nat.not_lt_zero i), .inl ⟨⟨Ap.of s_zero, Ap.of s_zero, s_zero⟩, tv, ht, t0, by grind, ?_, ?_⟩⟩
    · simp only [Dsum]; have := E_pos; have e : ((0 : Nat) : Rat) = 0 := rfl
      rw [e]; grind
    · simp only [Dsum]; have := E_pos; have e : ((0 : Nat) : Rat) = 0 := rfl
      rw [e]; grind
  | succ k ih =>
    obtain ⟨h1, h2⟩ := ih (by omega)
    have key : Fine7 j r h c t k ∧ (Act J R H C al tv (k + 1) (pst j r h c t (k + 1)) ∨ Rest J R H C tv (k + 1) (pst j r h c t (k + 1))) := by
      rcases h2 with h2 | h2
      · exact round_act p w hal0 hal1 t1 t k (by omega) h2
      · obtain ⟨a, b⟩ := round_rest p w t k (by omega) h2
        exact ⟨a, .inr b⟩
    refine ⟨fun i hi => ?_, key.2⟩
    by_cases hc : i = k
    · subst hc; exact key.1
    · exact h1 i (by omega)
end Fl
