/- The value of a float's word as a rational number, and that each operation of the model gives the exact result rounded: no condition. -/
import Ieee.Arith
namespace Fl
open Ieee

/-- two to an integer -/
def p2 (i : Int) : Rat := (2 : Rat) ^ i

theorem p2_add (i j : Int) : p2 (i + j) = p2 i * p2 j := Rat.zpow_add (by decide) i j
theorem p2_pos (i : Int) : 0 < p2 i := Rat.zpow_pos (by decide)
theorem p2_zero : p2 0 = 1 := by simp [p2]
theorem p2_nat (n : Nat) : p2 (n : Int) = ((2 ^ n : Nat) : Rat) := by
  unfold p2
  rw [Rat.zpow_natCast]
  simp
theorem p2_one : p2 1 = 2 := by have := p2_nat 1; simpa using this
theorem p2_le {i j : Int} (h : i ≤ j) : p2 i ≤ p2 j := by
  obtain ⟨n, hn⟩ := Int.le.dest h
  rw [← hn, p2_add, p2_nat]
  have h1 : (1 : Rat) ≤ ((2 ^ n : Nat) : Rat) := by
    have : 1 ≤ 2 ^ n := Nat.one_le_two_pow
    exact_mod_cast this
  have h2 := p2_pos i
  have := Rat.mul_le_mul_of_nonneg_left h1 (Rat.le_of_lt h2)
  grind

/-- the sign as a number -/
def sg (s : Bool) : Rat := if s then -1 else 1
def sgi (s : Bool) : Int := if s then -1 else 1

theorem sgi_rat (s : Bool) : ((sgi s : Int) : Rat) = sg s := by cases s <;> simp [sgi, sg]

/-- the value of a word, and that it is a number -/
def fin (f : Format) (w : Nat) : Bool := match f.read w with | .number .. => true | _ => false
def val (f : Format) (w : Nat) : Rat := match f.read w with | .number s m e => sg s * m * p2 e | _ => 0

/-- a word that is a number and has a value -/
structure Is (f : Format) (w : Nat) (x : Rat) : Prop where
  fin : fin f w = true
  val : val f w = x
  lt : w < 2 * f.signWeight

theorem binade_pos (f : Format) : 0 < f.binade := Nat.two_pow_pos _

/-- the rung of a magnitude 'k' at the step 'e' -/
theorem read_word (f : Format) (neg : Bool) (e k : Nat) (he : e = 0 ∨ f.binade ≤ k) (hk : k ≤ 2 * f.binade) (hr : e * f.binade + k < f.infRung) (hs : f.infRung < f.signWeight) :
    Is f (f.word neg (e * f.binade + k)) (sg neg * k * p2 (f.leastPlace + e)) := by
  have hb := binade_pos f
  generalize hR : e * f.binade + k = R at *
  have h1 : (f.word neg R) % f.signWeight = R := by
    unfold Format.word; cases neg
    · simp; exact Nat.mod_eq_of_lt (by omega)
    · simp; exact Nat.mod_eq_of_lt (by omega)
  have h2 : (f.word neg R / f.signWeight % 2 == 1) = neg := by
    unfold Format.word; cases neg
    · have : R / f.signWeight = 0 := Nat.div_eq_of_lt (by omega)
      simp [this]
    · have : (f.signWeight + R) / f.signWeight = 1 := by
        rw [Nat.add_div_left _ (by omega), Nat.div_eq_of_lt (by omega)]
      simp [this]
  have hlt : f.word neg R < 2 * f.signWeight := by unfold Format.word; cases neg <;> simp <;> omega
  by_cases hsub : R < f.binade
  · have e0 : e = 0 := by
      rcases he with h | h
      · exact h
      · exfalso
        have : 0 ≤ e * f.binade := Nat.zero_le _
        omega
    subst e0
    have : R = k := by simpa using hR.symm
    subst this
    refine ⟨?_, ?_, hlt⟩
    · simp [fin, Format.read, h1, h2, hsub]
    · simp [val, Format.read, h1, h2, hsub]
  · refine ⟨?_, ?_, hlt⟩
    · simp [fin, Format.read, h1, h2, hsub, hr]
    · simp only [val, Format.read, h1, h2, hsub, if_false, hr, if_true]
      by_cases h3 : k < f.binade
      · exfalso
        rcases he with h | h
        · subst h; simp at hR; omega
        · omega
      · by_cases h4 : k < 2 * f.binade
        · have hdiv : R / f.binade = e + 1 := by
            rw [← hR, Nat.mul_comm, Nat.mul_add_div hb]
            have : k / f.binade = 1 := by
              apply Nat.div_eq_of_lt_le <;> omega
            omega
          have hmod : R % f.binade = k - f.binade := by
            rw [← hR, Nat.mul_comm, Nat.mul_add_mod, Nat.mod_eq_sub_mod (by omega), Nat.mod_eq_of_lt (by omega)]
          have e1 : f.binade + R % f.binade = k := by omega
          rw [e1, hdiv]; simp
        · have hk2 : k = 2 * f.binade := by omega
          have hR2 : R = (e + 2) * f.binade := by rw [← hR, hk2, Nat.add_mul]
          have hdiv : R / f.binade = e + 2 := by rw [hR2, Nat.mul_div_cancel _ hb]
          have hmod : R % f.binade = 0 := by rw [hR2, Nat.mul_mod_left]
          rw [hdiv, hmod, hk2]
          have : f.leastPlace + ((e + 2 - 1 : Nat) : Int) = 1 + (f.leastPlace + (e : Int)) := by omega
          rw [this, p2_add 1, p2_one]
          have : ((2 * f.binade : Nat) : Rat) = 2 * (f.binade : Rat) := by simp
          rw [this]
          simp; grind

/-- what is cut off by rounding to even: never more than a half -/
theorem cut_even (neg : Bool) (n drop : Nat) :
    2 * n ≤ 2 * ((Toward.even.cut neg n drop) * 2 ^ drop) + 2 ^ drop ∧ 2 * ((Toward.even.cut neg n drop) * 2 ^ drop) ≤ 2 * n + 2 ^ drop := by
  unfold Toward.cut
  simp only [Nat.one_shiftLeft]
  by_cases hd : drop ≤ n.log2 + 2
  · have hm : min drop (n.log2 + 2) = drop := Nat.min_eq_left hd
    rw [hm]
    generalize hg : 2 ^ drop = g
    have hgp : 0 < g := by rw [← hg]; exact Nat.two_pow_pos _
    have hdm := Nat.div_add_mod n g
    have hlt := Nat.mod_lt n hgp
    generalize n / g = q at *
    generalize n % g = r at *
    cases hb : (decide (g < 2 * r) || g == 2 * r && q % 2 == 1)
    · have h1 : ¬ g < 2 * r := by simp at hb; omega
      simp only [Bool.toNat_false, Nat.add_zero]
      have : g * q = q * g := Nat.mul_comm _ _
      omega
    · have h1 : g ≤ 2 * r := by simp at hb; omega
      simp only [Bool.toNat_true]
      have : g * q = q * g := Nat.mul_comm _ _
      rw [Nat.add_mul]
      omega
  · have hm : min drop (n.log2 + 2) = n.log2 + 2 := Nat.min_eq_right (by omega)
    rw [hm]
    have hn : n < 2 ^ (n.log2 + 1) := Nat.lt_log2_self
    have hp : 2 ^ (n.log2 + 2) = 2 * 2 ^ (n.log2 + 1) := by rw [Nat.pow_succ, Nat.mul_comm]
    have hp2 : 2 ^ (n.log2 + 2) ≤ 2 ^ drop := Nat.pow_le_pow_right (by omega) (by omega)
    have h0 : n / 2 ^ (n.log2 + 2) = 0 := Nat.div_eq_of_lt (by omega)
    have h1 : n % 2 ^ (n.log2 + 2) = n := Nat.mod_eq_of_lt (by omega)
    rw [h0, h1]
    have hf : (decide (2 ^ (n.log2 + 2) < 2 * n) || 2 ^ (n.log2 + 2) == 2 * n && 0 % 2 == 1) = false := by
      have : ¬ 2 ^ (n.log2 + 2) < 2 * n := by omega
      simp [this]
    simp only [hf, Bool.toNat_false]
    omega

theorem cut_even_exact (neg : Bool) (n drop q : Nat) (h : n = q * 2 ^ drop) : Toward.even.cut neg n drop = q := by
  have hc := cut_even neg n drop
  generalize Toward.even.cut neg n drop = c at *
  have hp : 0 < 2 ^ drop := Nat.two_pow_pos _
  generalize 2 ^ drop = g at *
  subst h
  rcases Nat.lt_trichotomy c q with h | h | h
  · exfalso
    have : (c + 1) * g ≤ q * g := Nat.mul_le_mul_right _ h
    rw [Nat.add_mul] at this; omega
  · exact h
  · exfalso
    have : (q + 1) * g ≤ c * g := Nat.mul_le_mul_right _ h
    rw [Nat.add_mul] at this; omega

/-- the place of the last kept digit -/
def lastPlace (f : Format) (mag : Nat) (place : Int) : Int := max (place + mag.log2 - f.fractionBits) f.leastPlace
def kept (f : Format) (mag : Nat) (place : Int) : Nat := Toward.even.cut false (mag <<< (place - lastPlace f mag place).toNat) (lastPlace f mag place - place).toNat

theorem cut_neg (neg : Bool) (n d : Nat) : Toward.even.cut neg n d = Toward.even.cut false n d := rfl

theorem nearest_eq (f : Format) (neg : Bool) (mag : Nat) (place : Int) (h : mag ≠ 0) :
    f.nearest neg mag place = f.word neg (min ((lastPlace f mag place - f.leastPlace).toNat * f.binade + kept f mag place) f.infRung) := by
  unfold Format.nearest
  simp only [h, if_false]
  rfl

theorem cast2 (n : Nat) : ((2 ^ n : Nat) : Rat) = p2 (n : Int) := (p2_nat n).symm

/-- kept, as a rational: within a half of the last place -/
theorem kept_err (f : Format) (mag : Nat) (place : Int) :
    2 * ((mag : Rat) * p2 place) ≤ 2 * ((kept f mag place : Rat) * p2 (lastPlace f mag place)) + p2 (lastPlace f mag place) ∧
    2 * ((kept f mag place : Rat) * p2 (lastPlace f mag place)) ≤ 2 * ((mag : Rat) * p2 place) + p2 (lastPlace f mag place) := by
  unfold kept
  generalize lastPlace f mag place = L
  rcases Int.le_total place L with h | h
  · -- place ≤ L
    obtain ⟨d, hd⟩ := Int.le.dest h
    have e1 : (place - L).toNat = 0 := by omega
    have e2 : (L - place).toNat = d := by omega
    rw [e1, e2, Nat.shiftLeft_zero]
    have hc := cut_even false mag d
    generalize Toward.even.cut false mag d = c at *
    obtain ⟨h1, h2⟩ := hc
    have h1' : ((2 * mag : Nat) : Rat) ≤ ((2 * (c * 2 ^ d) + 2 ^ d : Nat) : Rat) := by exact_mod_cast h1
    have h2' : ((2 * (c * 2 ^ d) : Nat) : Rat) ≤ ((2 * mag + 2 ^ d : Nat) : Rat) := by exact_mod_cast h2
    simp only [Rat.natCast_mul, Rat.natCast_add, cast2] at h1' h2'
    have hL : p2 L = p2 place * p2 (d : Int) := by rw [← p2_add, hd]
    have hp := p2_pos place
    have a1 := Rat.mul_le_mul_of_nonneg_left h1' (Rat.le_of_lt hp)
    have a2 := Rat.mul_le_mul_of_nonneg_left h2' (Rat.le_of_lt hp)
    rw [hL]
    have : ((2 : Nat) : Rat) = 2 := rfl
    rw [this] at a1 a2
    constructor <;> grind
  · obtain ⟨d, hd⟩ := Int.le.dest h
    have e1 : (place - L).toNat = d := by omega
    have e2 : (L - place).toNat = 0 := by omega
    rw [e1, e2, cut_even_exact false (mag <<< d) 0 (mag <<< d) (by simp)]
    have hL : p2 place = p2 L * p2 (d : Int) := by rw [← p2_add, hd]
    have : ((mag <<< d : Nat) : Rat) = (mag : Rat) * p2 (d : Int) := by rw [Nat.shiftLeft_eq, Rat.natCast_mul, cast2]
    rw [this, hL]
    have := p2_pos L
    constructor <;> grind

theorem log2_lo (mag : Nat) (h : mag ≠ 0) (place : Int) : p2 (place + mag.log2) ≤ (mag : Rat) * p2 place := by
  have h1 : ((2 ^ mag.log2 : Nat) : Rat) ≤ (mag : Rat) := by exact_mod_cast Nat.log2_self_le h
  rw [cast2] at h1
  have hp := p2_pos place
  have := Rat.mul_le_mul_of_nonneg_left h1 (Rat.le_of_lt hp)
  rw [p2_add]; grind

theorem log2_hi (mag : Nat) (place : Int) : (mag : Rat) * p2 place < p2 (place + mag.log2 + 1) := by
  have h1 : (mag : Rat) < ((2 ^ (mag.log2 + 1) : Nat) : Rat) := by exact_mod_cast Nat.lt_log2_self
  rw [cast2] at h1
  have hp := p2_pos place
  have := Rat.mul_lt_mul_of_pos_left h1 hp
  have e : place + mag.log2 + 1 = place + ((mag.log2 + 1 : Nat) : Int) := by omega
  rw [e, p2_add]; grind

theorem p2_lt_imp {i j : Int} (h : p2 i < p2 j) : i < j := by
  by_cases hc : i < j
  · exact hc
  · exfalso
    have := p2_le (i := j) (j := i) (by omega)
    grind

theorem le_of_mul_p2 (a b : Nat) (L : Int) (h : 2 * ((a : Rat) * p2 L) < 2 * ((b : Rat) * p2 L) + 2 * p2 L) : a ≤ b := by
  have hp := p2_pos L
  by_cases hc : a ≤ b
  · exact hc
  · exfalso
    have h1 : ((b + 1 : Nat) : Rat) ≤ (a : Rat) := by exact_mod_cast (by omega : b + 1 ≤ a)
    have := Rat.mul_le_mul_of_nonneg_left h1 (Rat.le_of_lt hp)
    simp only [Rat.natCast_add] at this
    have e : ((1 : Nat) : Rat) = 1 := rfl
    rw [e] at this
    grind

theorem binade_eq (f : Format) : (f.binade : Rat) = p2 (f.fractionBits : Int) := by
  unfold Format.binade; exact cast2 _

theorem kept_le (f : Format) (mag : Nat) (place : Int) : kept f mag place ≤ 2 * f.binade := by
  have h1 := (kept_err f mag place).2
  have h2 := log2_hi mag place
  have hL : p2 (place + mag.log2 + 1) ≤ 2 * f.binade * p2 (lastPlace f mag place) := by
    rw [binade_eq, ← p2_one, ← p2_add, ← p2_add]
    apply p2_le
    unfold lastPlace; omega
  apply le_of_mul_p2 _ _ (lastPlace f mag place)
  have hp := p2_pos (lastPlace f mag place)
  have : ((2 * f.binade : Nat) : Rat) = 2 * (f.binade : Rat) := by simp
  rw [this]
  grind

theorem kept_ge (f : Format) (mag : Nat) (h0 : mag ≠ 0) (place : Int) (h : lastPlace f mag place ≠ f.leastPlace) : f.binade ≤ kept f mag place := by
  have h1 := (kept_err f mag place).1
  have h2 := log2_lo mag h0 place
  have hL : f.binade * p2 (lastPlace f mag place) ≤ p2 (place + mag.log2) := by
    rw [binade_eq, ← p2_add]
    apply p2_le
    unfold lastPlace at *; omega
  apply le_of_mul_p2 _ _ (lastPlace f mag place)
  have hp := p2_pos (lastPlace f mag place)
  grind

/-- what is needed of a format -/
structure Fine (f : Format) : Prop where
  inf : f.infRung < f.signWeight
  big : 100 - f.fractionBits - f.leastPlace + 2 < 2 ^ f.exponentBits - 1
  least : f.leastPlace ≤ -149
  bits : 23 ≤ f.fractionBits
  one : 4 ≤ 2 ^ f.exponentBits

theorem fine_single : Fine single := ⟨by decide, by decide, by decide, by decide, by decide⟩
theorem fine_double : Fine double := ⟨by decide, by decide, by decide, by decide, by decide⟩

theorem nearest_is {f : Format} (hf : Fine f) (neg : Bool) (mag : Nat) (place : Int) (h0 : mag ≠ 0) (hx : (mag : Rat) * p2 place ≤ p2 100) :
    Is f (f.nearest neg mag place) (sg neg * ((kept f mag place : Rat) * p2 (lastPlace f mag place))) := by
  have hlo := log2_lo mag h0 place
  have he : place + mag.log2 ≤ 100 := by
    by_cases hc : place + mag.log2 ≤ 100
    · exact hc
    · exfalso
      have : p2 101 ≤ p2 (place + mag.log2) := p2_le (by omega)
      have h2 : p2 101 = p2 100 * 2 := by rw [← p2_one, ← p2_add]; rfl
      have := p2_pos 100
      grind
  rw [nearest_eq f neg mag place h0]
  generalize hL : lastPlace f mag place = L
  have hLlp : f.leastPlace ≤ L := by rw [← hL]; unfold lastPlace; omega
  have hLb : L ≤ max (100 - (f.fractionBits : Int)) f.leastPlace := by rw [← hL]; unfold lastPlace; omega
  have hk := kept_le f mag place
  have hb := binade_pos f
  have hbig := hf.big
  have hle := hf.least
  have hr : (L - f.leastPlace).toNat * f.binade + kept f mag place < f.infRung := by
    unfold Format.infRung
    have e1 : (L - f.leastPlace).toNat + 2 < 2 ^ f.exponentBits - 1 := by
      have : ((2 ^ f.exponentBits : Nat) : Int) = 2 ^ f.exponentBits := by simp
      have h3 := hf.bits
      have h5 := hf.one
      omega
    have := Nat.mul_le_mul_right f.binade (Nat.succ_le_of_lt e1)
    simp only [Nat.succ_eq_add_one, Nat.add_mul] at this
    omega
  rw [Nat.min_eq_left (by omega)]
  have hw := read_word f neg (L - f.leastPlace).toNat (kept f mag place) (by
    by_cases hc : L = f.leastPlace
    · left; omega
    · right; exact kept_ge f mag h0 place (by rw [hL]; exact hc)) hk hr hf.inf
  have e2 : f.leastPlace + ((L - f.leastPlace).toNat : Int) = L := by omega
  rw [e2] at hw
  have : sg neg * (kept f mag place : Rat) * p2 L = sg neg * ((kept f mag place : Rat) * p2 L) := by grind
  rw [this] at hw
  exact hw

theorem word_zero {f : Format} (hf : Fine f) (neg : Bool) : Is f (f.word neg 0) 0 := by
  have h := read_word f neg 0 0 (Or.inl rfl) (Nat.zero_le _) (by
    have hb := binade_pos f
    have h5 := hf.one
    have h4 : 1 ≤ 2 ^ f.exponentBits - 1 := by omega
    have := Nat.mul_le_mul_right f.binade h4
    unfold Format.infRung; omega) hf.inf
  simpa using h

/-- the half of a unit, relative -/
def ulp (f : Format) : Rat := p2 (-(f.fractionBits : Int) - 1)
def tiny (f : Format) : Rat := p2 (f.leastPlace - 1)

theorem half (i : Int) : 2 * p2 (i - 1) = p2 i := by
  rw [← p2_one, ← p2_add]; congr 1; omega

theorem last_err (f : Format) (mag : Nat) (h0 : mag ≠ 0) (place : Int) :
    p2 (lastPlace f mag place - 1) ≤ ulp f * ((mag : Rat) * p2 place) + tiny f := by
  have hlo := log2_lo mag h0 place
  have hu : 0 < ulp f := p2_pos _
  have ht : 0 < tiny f := p2_pos _
  have hm : 0 ≤ (mag : Rat) * p2 place := Rat.mul_nonneg (by exact_mod_cast Nat.zero_le _) (Rat.le_of_lt (p2_pos _))
  by_cases hc : lastPlace f mag place = f.leastPlace
  · rw [hc]
    have := Rat.mul_nonneg (Rat.le_of_lt hu) hm
    unfold tiny at *; grind
  · have e : lastPlace f mag place - 1 = (-(f.fractionBits : Int) - 1) + (place + mag.log2) := by
      unfold lastPlace at *; omega
    rw [e, p2_add]
    have := Rat.mul_le_mul_of_nonneg_left hlo (Rat.le_of_lt hu)
    unfold ulp at *; grind

theorem abs_sg (s : Bool) (q : Rat) : (sg s * q).abs = q.abs := by
  cases s
  · simp [sg]
  · have : sg true * q = -q := by simp [sg]; grind
    rw [this, Rat.abs_neg]

/-- rounding of a datum that is a number -/
theorem write_is {f : Format} (hf : Fine f) (neg : Bool) (mag : Nat) (place : Int) (hx : (mag : Rat) * p2 place ≤ p2 100) :
    ∃ z, Is f (f.write (.number neg mag place)) z ∧ (z - sg neg * mag * p2 place).abs ≤ ulp f * (sg neg * mag * p2 place).abs + tiny f := by
  have hu : 0 < ulp f := p2_pos _
  have ht : 0 < tiny f := p2_pos _
  have hm : 0 ≤ (mag : Rat) * p2 place := Rat.mul_nonneg (by exact_mod_cast Nat.zero_le _) (Rat.le_of_lt (p2_pos _))
  by_cases h0 : mag = 0
  · subst h0
    refine ⟨0, ?_, ?_⟩
    · simpa [Format.write, Format.nearest] using word_zero hf neg
    · simp; grind
  · refine ⟨_, nearest_is hf neg mag place h0 hx, ?_⟩
    have h1 := kept_err f mag place
    have h2 := last_err f mag h0 place
    have h3 := half (lastPlace f mag place)
    have e : sg neg * ((kept f mag place : Rat) * p2 (lastPlace f mag place)) - sg neg * mag * p2 place = sg neg * ((kept f mag place : Rat) * p2 (lastPlace f mag place) - mag * p2 place) := by grind
    have e2 : sg neg * mag * p2 place = sg neg * (mag * p2 place) := by grind
    rw [e, abs_sg, e2, abs_sg, Rat.abs_of_nonneg hm]
    generalize (kept f mag place : Rat) * p2 (lastPlace f mag place) = k at *
    generalize (mag : Rat) * p2 place = x at *
    generalize p2 (lastPlace f mag place - 1) = hL at *
    rcases Rat.le_total (a := 0) (b := k - x) with h | h
    · rw [Rat.abs_of_nonneg h]; grind
    · rw [Rat.abs_of_nonpos h]; grind

/-- near: within 'e' -/
def Near (z x e : Rat) : Prop := x - e ≤ z ∧ z ≤ x + e

theorem near_of_abs {z x e : Rat} (h : (z - x).abs ≤ e) : Near z x e := by
  rcases Rat.le_total (a := 0) (b := z - x) with h1 | h1
  · rw [Rat.abs_of_nonneg h1] at h; constructor <;> grind
  · rw [Rat.abs_of_nonpos h1] at h; constructor <;> grind

theorem abs_le' {x B : Rat} (h1 : -B ≤ x) (h2 : x ≤ B) : x.abs ≤ B := by
  rcases Rat.le_total (a := 0) (b := x) with h | h
  · rw [Rat.abs_of_nonneg h]; exact h2
  · rw [Rat.abs_of_nonpos h]; grind

/-- what a datum that is a number is worth -/
def dval : Datum → Option Rat
  | .number s m e => some (sg s * m * p2 e)
  | _ => none

theorem is_read {f : Format} {w : Nat} {x : Rat} (h : Is f w x) : ∃ s m e, f.read w = .number s m e ∧ sg s * m * p2 e = x := by
  have h1 := h.fin; have h2 := h.val
  unfold Fl.fin at h1; unfold Fl.val at h2
  cases hr : f.read w with
  | number s m e => rw [hr] at h2; exact ⟨s, m, e, rfl, h2⟩
  | infinity s => rw [hr] at h1; simp at h1
  | nan s t => rw [hr] at h1; simp at h1

theorem write_near {f : Format} (hf : Fine f) (neg : Bool) (mag : Nat) (place : Int) {x B : Rat} (hx : sg neg * mag * p2 place = x) (h1 : -B ≤ x) (h2 : x ≤ B) (hB : B ≤ p2 100) :
    ∃ z, Is f (f.write (.number neg mag place)) z ∧ Near z x (ulp f * B + tiny f) := by
  have ha := abs_le' h1 h2
  have hab : (mag : Rat) * p2 place = x.abs := by
    have hm : 0 ≤ (mag : Rat) * p2 place := Rat.mul_nonneg (by exact_mod_cast Nat.zero_le _) (Rat.le_of_lt (p2_pos _))
    rw [← hx]
    have e2 : sg neg * mag * p2 place = sg neg * (mag * p2 place) := by grind
    rw [e2, abs_sg, Rat.abs_of_nonneg hm]
  obtain ⟨z, hz, he⟩ := write_is hf neg mag place (by rw [hab]; grind)
  refine ⟨z, hz, near_of_abs ?_⟩
  rw [hx] at he
  have hu : 0 < ulp f := p2_pos _
  have := Rat.mul_le_mul_of_nonneg_left ha (Rat.le_of_lt hu)
  grind

theorem signed_val (s : Bool) (m up : Nat) : ((signed s m up : Int) : Rat) = sg s * m * p2 (up : Int) := by
  unfold signed
  have e : ((m <<< up : Nat) : Rat) = (m : Rat) * p2 (up : Int) := by rw [Nat.shiftLeft_eq, Rat.natCast_mul, cast2]
  cases s
  · simp only [Bool.false_eq_true, if_false, Rat.intCast_natCast, e, sg]; grind
  · simp only [if_true, Rat.intCast_neg, Rat.intCast_natCast, e, sg]; grind

theorem signed_place (s : Bool) (m : Nat) (i base : Int) (h : base ≤ i) : ((signed s m (i - base).toNat : Int) : Rat) * p2 base = sg s * m * p2 i := by
  rw [signed_val]
  have : p2 i = p2 ((i - base).toNat : Int) * p2 base := by rw [← p2_add]; congr 1; omega
  rw [this]; grind

theorem natAbs_sg (t : Int) (s : Bool) (hs : t = 0 ∨ s = decide (t < 0)) : sg s * (t.natAbs : Rat) = (t : Rat) := by
  rcases hs with h | h
  · subst h; simp
  · subst h
    by_cases hn : t < 0
    · simp only [hn, decide_true, sg, if_true]
      have : (t.natAbs : Int) = -t := by omega
      have h2 : ((t.natAbs : Int) : Rat) = ((-t : Int) : Rat) := by rw [this]
      rw [Rat.intCast_natCast, Rat.intCast_neg] at h2
      rw [h2]; grind
    · simp only [hn, decide_false, sg]
      have : (t.natAbs : Int) = t := by omega
      have h2 : ((t.natAbs : Int) : Rat) = ((t : Int) : Rat) := by rw [this]
      rw [Rat.intCast_natCast] at h2
      rw [h2]; simp

/-- the exact sum -/
theorem sum_val {d1 d2 : Datum} {x y : Rat} (h1 : ∃ s m e, d1 = .number s m e ∧ sg s * m * p2 e = x) (h2 : ∃ s m e, d2 = .number s m e ∧ sg s * m * p2 e = y) :
    ∃ s m e, d1.sum d2 = some (.number s m e) ∧ sg s * m * p2 e = x + y := by
  obtain ⟨s, m, i, rfl, rfl⟩ := h1
  obtain ⟨t, n, j, rfl, rfl⟩ := h2
  refine ⟨_, _, _, rfl, ?_⟩
  have a1 := signed_place s m i (min i j) (Int.min_le_left _ _)
  have a2 := signed_place t n j (min i j) (Int.min_le_right _ _)
  rw [natAbs_sg]
  · rw [Rat.intCast_add, Rat.add_mul, a1, a2]
  · by_cases h0 : signed s m (i - min i j).toNat + signed t n (j - min i j).toNat = 0
    · left; exact h0
    · right; simp [h0]

theorem opposite_val {d : Datum} {x : Rat} (h : ∃ s m e, d = .number s m e ∧ sg s * m * p2 e = x) : ∃ s m e, d.opposite = .number s m e ∧ sg s * m * p2 e = -x := by
  obtain ⟨s, m, i, rfl, rfl⟩ := h
  refine ⟨_, _, _, rfl, ?_⟩
  cases s <;> simp [sg] <;> grind

theorem sg_xor (s t : Bool) : sg (s ^^ t) = sg s * sg t := by cases s <;> cases t <;> simp [sg] <;> grind

theorem product_val {d1 d2 : Datum} {x y : Rat} (h1 : ∃ s m e, d1 = .number s m e ∧ sg s * m * p2 e = x) (h2 : ∃ s m e, d2 = .number s m e ∧ sg s * m * p2 e = y) :
    ∃ s m e, d1.product d2 = some (.number s m e) ∧ sg s * m * p2 e = x * y := by
  obtain ⟨s, m, i, rfl, rfl⟩ := h1
  obtain ⟨t, n, j, rfl, rfl⟩ := h2
  refine ⟨_, _, _, rfl, ?_⟩
  rw [sg_xor, p2_add, Rat.natCast_mul]; grind

section ops
variable {f : Format} {a b : Nat} {x y B : Rat}

theorem add_near (hf : Fine f) (ha : Is f a x) (hb : Is f b y) (h1 : -B ≤ x + y) (h2 : x + y ≤ B) (hB : B ≤ p2 100) :
    ∃ r z, f.add a b = some r ∧ Is f r z ∧ Near z (x + y) (ulp f * B + tiny f) := by
  obtain ⟨s, m, e, hs, hv⟩ := sum_val (is_read ha) (is_read hb)
  obtain ⟨z, hz, hn⟩ := write_near hf s m e hv h1 h2 hB
  exact ⟨_, z, by simp [Format.add, hs], hz, hn⟩

theorem sub_near (hf : Fine f) (ha : Is f a x) (hb : Is f b y) (h1 : -B ≤ x - y) (h2 : x - y ≤ B) (hB : B ≤ p2 100) :
    ∃ r z, f.sub a b = some r ∧ Is f r z ∧ Near z (x - y) (ulp f * B + tiny f) := by
  obtain ⟨s, m, e, hs, hv⟩ := sum_val (is_read ha) (opposite_val (is_read hb))
  have e1 : x + -y = x - y := by grind
  rw [e1] at hv
  obtain ⟨z, hz, hn⟩ := write_near hf s m e hv h1 h2 hB
  exact ⟨_, z, by simp [Format.sub, hs], hz, hn⟩

theorem mul_near (hf : Fine f) (ha : Is f a x) (hb : Is f b y) (h1 : -B ≤ x * y) (h2 : x * y ≤ B) (hB : B ≤ p2 100) :
    ∃ r z, f.mul a b = some r ∧ Is f r z ∧ Near z (x * y) (ulp f * B + tiny f) := by
  obtain ⟨s, m, e, hs, hv⟩ := product_val (is_read ha) (is_read hb)
  obtain ⟨z, hz, hn⟩ := write_near hf s m e hv h1 h2 hB
  exact ⟨_, z, by simp [Format.mul, hs], hz, hn⟩
end ops

theorem kept_exact (f : Format) (mag : Nat) (h0 : mag ≠ 0) (place : Int) (N : Nat) (k : Int) (hN : N < 2 ^ (f.fractionBits + 1)) (hk : f.leastPlace ≤ k) (he : (mag : Rat) * p2 place = (N : Rat) * p2 k) :
    (kept f mag place : Rat) * p2 (lastPlace f mag place) = (mag : Rat) * p2 place := by
  have hlo := log2_lo mag h0 place
  have hlt : p2 (place + mag.log2) < p2 ((f.fractionBits + 1 : Nat) + k) := by
    have h1 : (N : Rat) < ((2 ^ (f.fractionBits + 1) : Nat) : Rat) := by exact_mod_cast hN
    rw [cast2] at h1
    have := Rat.mul_lt_mul_of_pos_left h1 (p2_pos k)
    rw [p2_add ((f.fractionBits + 1 : Nat) : Int) k]; grind
  have h3 := p2_lt_imp hlt
  have hLk : lastPlace f mag place ≤ k := by unfold lastPlace; omega
  unfold kept
  generalize lastPlace f mag place = L at *
  rcases Int.le_total place L with h | h
  · have e1 : (place - L).toNat = 0 := by omega
    rw [e1, Nat.shiftLeft_zero]
    have hm : mag = (N * 2 ^ (k - L).toNat) * 2 ^ (L - place).toNat := by
      have hq : (mag : Rat) * p2 place = ((N * 2 ^ (k - L).toNat * 2 ^ (L - place).toNat : Nat) : Rat) * p2 place := by
        rw [he, Rat.natCast_mul, Rat.natCast_mul, cast2, cast2]
        have : p2 k = p2 ((k - L).toNat : Int) * p2 ((L - place).toNat : Int) * p2 place := by rw [← p2_add, ← p2_add]; congr 1; omega
        rw [this]; grind
      have hp := p2_pos place
      have : (mag : Rat) = ((N * 2 ^ (k - L).toNat * 2 ^ (L - place).toNat : Nat) : Rat) := by
        have hne : p2 place ≠ 0 := by grind
        grind
      exact_mod_cast this
    rw [cut_even_exact false mag (L - place).toNat (N * 2 ^ (k - L).toNat) hm, he, Rat.natCast_mul, cast2]
    have : p2 k = p2 ((k - L).toNat : Int) * p2 L := by rw [← p2_add]; congr 1; omega
    rw [this]; grind
  · have e2 : (L - place).toNat = 0 := by omega
    rw [e2, cut_even_exact false _ 0 (mag <<< (place - L).toNat) (by simp), Nat.shiftLeft_eq, Rat.natCast_mul, cast2]
    have : p2 place = p2 ((place - L).toNat : Int) * p2 L := by rw [← p2_add]; congr 1; omega
    rw [this]; grind

/-- representable: an integer of few digits at a place -/
def Rep (f : Format) (x : Rat) : Prop := ∃ (n : Int) (k : Int), n.natAbs < 2 ^ (f.fractionBits + 1) ∧ f.leastPlace ≤ k ∧ x = (n : Rat) * p2 k

theorem write_exact {f : Format} (hf : Fine f) (neg : Bool) (mag : Nat) (place : Int) {x : Rat} (hx : sg neg * mag * p2 place = x) (h1 : -p2 100 ≤ x) (h2 : x ≤ p2 100) (hr : Rep f x) :
    Is f (f.write (.number neg mag place)) x := by
  have ha := abs_le' h1 h2
  have hab : (mag : Rat) * p2 place = x.abs := by
    have hm : 0 ≤ (mag : Rat) * p2 place := Rat.mul_nonneg (by exact_mod_cast Nat.zero_le _) (Rat.le_of_lt (p2_pos _))
    rw [← hx]
    have e2 : sg neg * mag * p2 place = sg neg * (mag * p2 place) := by grind
    rw [e2, abs_sg, Rat.abs_of_nonneg hm]
  obtain ⟨n, k, hn, hk, he⟩ := hr
  by_cases h0 : mag = 0
  · subst h0
    have : x = 0 := by rw [← hx]; simp
    rw [this]
    simpa [Format.write, Format.nearest] using word_zero hf neg
  · have := nearest_is hf neg mag place h0 (by rw [hab]; exact ha)
    have e3 : (mag : Rat) * p2 place = (n.natAbs : Rat) * p2 k := by
      rw [hab, he]
      have hp := p2_pos k
      rcases Int.le_total 0 n with h | h
      · have : (n.natAbs : Int) = n := by omega
        have h2 : ((n.natAbs : Int) : Rat) = ((n : Int) : Rat) := by rw [this]
        rw [Rat.intCast_natCast] at h2
        rw [h2, Rat.abs_of_nonneg]
        exact Rat.mul_nonneg (by exact_mod_cast h) (Rat.le_of_lt hp)
      · have : (n.natAbs : Int) = -n := by omega
        have h2 : ((n.natAbs : Int) : Rat) = ((-n : Int) : Rat) := by rw [this]
        rw [Rat.intCast_natCast, Rat.intCast_neg] at h2
        have h5 : 0 ≤ -(n : Rat) := by
          have : (n : Rat) ≤ 0 := by exact_mod_cast h
          grind
        have h6 := Rat.mul_nonneg h5 (Rat.le_of_lt hp)
        rw [h2, Rat.abs_of_nonpos]
        · grind
        · grind
    rw [kept_exact f mag h0 place n.natAbs k hn hk e3] at this
    have e4 : sg neg * ((mag : Rat) * p2 place) = x := by rw [← hx]; grind
    rw [e4] at this
    exact this

section exact
variable {f : Format} {a b : Nat} {x y : Rat}
theorem add_exact (hf : Fine f) (ha : Is f a x) (hb : Is f b y) (h1 : -p2 100 ≤ x + y) (h2 : x + y ≤ p2 100) (hr : Rep f (x + y)) :
    ∃ r, f.add a b = some r ∧ Is f r (x + y) := by
  obtain ⟨s, m, e, hs, hv⟩ := sum_val (is_read ha) (is_read hb)
  exact ⟨_, by simp [Format.add, hs], write_exact hf s m e hv h1 h2 hr⟩
theorem sub_exact (hf : Fine f) (ha : Is f a x) (hb : Is f b y) (h1 : -p2 100 ≤ x - y) (h2 : x - y ≤ p2 100) (hr : Rep f (x - y)) :
    ∃ r, f.sub a b = some r ∧ Is f r (x - y) := by
  obtain ⟨s, m, e, hs, hv⟩ := sum_val (is_read ha) (opposite_val (is_read hb))
  have e1 : x + -y = x - y := by grind
  rw [e1] at hv
  exact ⟨_, by simp [Format.sub, hs], write_exact hf s m e hv h1 h2 hr⟩
theorem mul_exact (hf : Fine f) (ha : Is f a x) (hb : Is f b y) (h1 : -p2 100 ≤ x * y) (h2 : x * y ≤ p2 100) (hr : Rep f (x * y)) :
    ∃ r, f.mul a b = some r ∧ Is f r (x * y) := by
  obtain ⟨s, m, e, hs, hv⟩ := product_val (is_read ha) (is_read hb)
  exact ⟨_, by simp [Format.mul, hs], write_exact hf s m e hv h1 h2 hr⟩
end exact

/-! order -/
theorem cmp_rat (a b : Int) : compare a b = if (a : Rat) < (b : Rat) then .lt else if (a : Rat) = (b : Rat) then .eq else .gt := by
  have h1 : ((a : Rat) < (b : Rat)) ↔ a < b := by exact_mod_cast Iff.rfl
  have h2 : ((a : Rat) = (b : Rat)) ↔ a = b := by exact_mod_cast Iff.rfl
  simp only [compare, compareOfLessAndEq, h1, h2]

theorem order_is {f : Format} {a b : Nat} {x y : Rat} (ha : Is f a x) (hb : Is f b y) :
    f.order a b = some (if x < y then .lt else if x = y then .eq else .gt) := by
  obtain ⟨s, m, i, e1, v1⟩ := is_read ha
  obtain ⟨t, n, j, e2, v2⟩ := is_read hb
  have a1 := signed_place s m i (min i j) (Int.min_le_left _ _)
  have a2 := signed_place t n j (min i j) (Int.min_le_right _ _)
  unfold Format.order
  rw [e1, e2]
  simp only [Datum.order]
  rw [cmp_rat]
  generalize ((signed s m (i - min i j).toNat : Int) : Rat) = p at *
  generalize ((signed t n (j - min i j).toNat : Int) : Rat) = q at *
  rw [v1] at a1; rw [v2] at a2
  have hp := p2_pos (min i j)
  have h1 : (p < q) ↔ (x < y) := by
    rw [← a1, ← a2]
    constructor
    · intro h; have := Rat.mul_lt_mul_of_pos_right h hp; exact this
    · intro h
      by_cases hc : p < q
      · exact hc
      · exfalso
        have : q ≤ p := by grind
        have := Rat.mul_le_mul_of_nonneg_right this (Rat.le_of_lt hp)
        grind
  have h2 : (p = q) ↔ (x = y) := by
    rw [← a1, ← a2]
    constructor
    · intro h; rw [h]
    · intro h; have : p2 (min i j) ≠ 0 := by grind
      grind
  simp only [h1, h2]

theorem lss_is {f : Format} {a b : Nat} {x y : Rat} (ha : Is f a x) (hb : Is f b y) : (f.order a b == some .lt) = decide (x < y) := by
  rw [order_is ha hb]
  by_cases h : x < y
  · simp [h]
  · by_cases h2 : x = y <;> simp [h, h2]
theorem gtr_is {f : Format} {a b : Nat} {x y : Rat} (ha : Is f a x) (hb : Is f b y) : (f.order a b == some .gt) = decide (y < x) := by
  rw [order_is ha hb]
  by_cases h : x < y
  · have : ¬ y < x := by grind
    simp [h, this]
  · by_cases h2 : x = y
    · have : ¬ y < x := by grind
      simp [h2]
    · have : y < x := by grind
      simp [h, h2, this]
theorem eql_is {f : Format} {a b : Nat} {x y : Rat} (ha : Is f a x) (hb : Is f b y) : (f.order a b == some .eq) = decide (x = y) := by
  rw [order_is ha hb]
  by_cases h : x < y
  · have : ¬ x = y := by grind
    simp [h, this]
  · by_cases h2 : x = y <;> simp [h, h2]
theorem neq_is {f : Format} {a b : Nat} {x y : Rat} (ha : Is f a x) (hb : Is f b y) : (f.order a b != some .eq) = decide (x ≠ y) := by
  have := eql_is ha hb
  simp only [bne, this]; simp
theorem leq_is {f : Format} {a b : Nat} {x y : Rat} (ha : Is f a x) (hb : Is f b y) : (f.order a b == some .lt || f.order a b == some .eq) = decide (x ≤ y) := by
  rw [lss_is ha hb, eql_is ha hb]
  by_cases h : x < y
  · have : x ≤ y := by grind
    simp [h, this]
  · by_cases h2 : x = y
    · have : x ≤ y := by grind
      simp [h2]
    · have : ¬ x ≤ y := by grind
      simp [h, h2, this]
theorem geq_is {f : Format} {a b : Nat} {x y : Rat} (ha : Is f a x) (hb : Is f b y) : (f.order a b == some .gt || f.order a b == some .eq) = decide (y ≤ x) := by
  rw [gtr_is ha hb, eql_is ha hb]
  by_cases h : y < x
  · have : y ≤ x := by grind
    simp [h, this]
  · by_cases h2 : x = y
    · have : y ≤ x := by grind
      simp [h2]
    · have : ¬ y ≤ x := by grind
      simp [h, h2, this]

/-! division -/
theorem div_cast (d n : Nat) (hn : 0 < n) : (d : Rat) / (n : Rat) = ((d / n : Nat) : Rat) + ((d % n : Nat) : Rat) / (n : Rat) := by
  have h := Nat.div_add_mod d n
  have h2 : (d : Rat) = (n : Rat) * ((d / n : Nat) : Rat) + ((d % n : Nat) : Rat) := by exact_mod_cast h.symm
  have hn0 : (n : Rat) ≠ 0 := by
    have : (0 : Rat) < (n : Rat) := by exact_mod_cast hn
    grind
  rw [h2]; grind

theorem sg_ne (s : Bool) : sg s ≠ 0 := by cases s <;> simp [sg] <;> grind
theorem sg_sq (s : Bool) : sg s * sg s = 1 := by cases s <;> simp [sg] <;> grind
theorem cast_two : ((2 : Nat) : Rat) = 2 := rfl
theorem cast_one : ((1 : Nat) : Rat) = 1 := rfl

/-- a quotient of whole numbers with one digit more for what is left -/
theorem sticky (D n : Nat) (hn1 : 0 < n) (g : Int) :
    Near (((2 * (D / n) + (D % n != 0).toNat : Nat) : Rat) * p2 (g - 1)) (((D : Rat) / n) * p2 g) (p2 (g - 1)) ∧
    (D % n = 0 → ((2 * (D / n) + (D % n != 0).toNat : Nat) : Rat) * p2 (g - 1) = ((D : Rat) / n) * p2 g) := by
  have hn0 : (n : Rat) ≠ 0 := by
    have : (0 : Rat) < (n : Rat) := by exact_mod_cast hn1
    grind
  have hdc := div_cast D n hn1
  have hmod : D % n < n := Nat.mod_lt _ hn1
  have hp := p2_pos (g - 1)
  have hh := half g
  rw [hdc, ← hh]
  by_cases h0 : D % n = 0
  · have hz : ((D % n : Nat) : Rat) / (n : Rat) = 0 := by rw [h0]; simp [Rat.div_def]
    rw [hz]
    simp only [h0, bne_self_eq_false, Bool.toNat_false, Nat.add_zero, Rat.natCast_mul, cast_two, Near]
    refine ⟨⟨?_, ?_⟩, ?_⟩ <;> grind
  · have hr0 : 0 ≤ ((D % n : Nat) : Rat) / (n : Rat) := by
      rw [Rat.div_def]
      exact Rat.mul_nonneg (by exact_mod_cast Nat.zero_le _) (Rat.le_of_lt (Rat.inv_pos.2 (by exact_mod_cast hn1)))
    have hr1 : ((D % n : Nat) : Rat) / (n : Rat) < 1 := by
      have h3 : ((D % n : Nat) : Rat) < (n : Rat) := by exact_mod_cast hmod
      have hi : (0 : Rat) < (n : Rat)⁻¹ := Rat.inv_pos.2 (by exact_mod_cast hn1)
      have h4 := Rat.mul_lt_mul_of_pos_right h3 hi
      rw [Rat.div_def]
      have : (n : Rat) * (n : Rat)⁻¹ = 1 := Rat.mul_inv_cancel _ hn0
      grind
    have : (D % n != 0) = true := by simp [h0]
    rw [this]
    simp only [Bool.toNat_true, Rat.natCast_mul, Rat.natCast_add, cast_two, cast_one]
    generalize ((D % n : Nat) : Rat) / (n : Rat) = r at *
    have b1 := Rat.mul_le_mul_of_nonneg_left (Rat.le_of_lt hr1) (Rat.le_of_lt hp)
    have b0 := Rat.mul_nonneg (Rat.le_of_lt hp) hr0
    refine ⟨⟨?_, ?_⟩, fun h => absurd h h0⟩ <;> grind

theorem sg_near {v q e : Rat} (s : Bool) (h : Near v q e) : Near (sg s * v) (sg s * q) e := by
  obtain ⟨h1, h2⟩ := h
  cases s <;> simp only [sg, if_true, if_false, Bool.false_eq_true, Near] <;> constructor <;> grind

/-- the quotient with its last digit for what is left: within 2^-digits of itself -/
theorem quotient_val {d1 d2 : Datum} {x y : Rat} (digits : Nat) (hdg : 1 ≤ digits) (h1 : ∃ s m e, d1 = .number s m e ∧ sg s * m * p2 e = x) (h2 : ∃ s m e, d2 = .number s m e ∧ sg s * m * p2 e = y) (hy : y ≠ 0) :
    ∃ s m e v, d1.quotient digits d2 = some (.number s m e) ∧ sg s * m * p2 e = v ∧ Near v (x / y) (p2 (-(digits : Int)) * (x / y).abs) ∧
      (∀ (N : Int) (k : Int), N.natAbs < 2 ^ (digits - 1) → x / y = (N : Rat) * p2 k → v = x / y) := by
  obtain ⟨s, m, i, rfl, hx⟩ := h1
  obtain ⟨t, n, j, rfl, hy2⟩ := h2
  have hn : n ≠ 0 := by
    intro h; subst h; apply hy; rw [← hy2]; simp
  have hn1 : 0 < n := by omega
  have hn2 : (0 : Rat) < (n : Rat) := by exact_mod_cast hn1
  have hn0 : (n : Rat) ≠ 0 := by grind
  have hpj := p2_pos j
  generalize hmore : digits + n.log2 - m.log2 = more
  have hq : x / y = sg (s ^^ t) * ((((m <<< more : Nat) : Rat) / (n : Rat)) * p2 (i - j - more)) := by
    rw [← hx, ← hy2, sg_xor, Nat.shiftLeft_eq, Rat.natCast_mul, cast2]
    have e1 : p2 i = p2 (more : Int) * p2 (i - j - more) * p2 j := by rw [← p2_add, ← p2_add]; congr 1; omega
    rw [e1]
    have hst := sg_sq t
    have hs0 := sg_ne t
    have : p2 j ≠ 0 := by grind
    grind
  refine ⟨_, _, _, _, by simp only [Datum.quotient, hn, if_false]; rfl, rfl, ?_⟩
  simp only [hmore]
  rw [hq]
  generalize hg : i - j - (more : Int) = g at *
  generalize hD : m <<< more = D at *
  obtain ⟨st1, st2⟩ := sticky D n hn1 g
  have ea : sg (s ^^ t) * ((2 * (D / n) + (D % n != 0).toNat : Nat) : Rat) * p2 (g - 1) = sg (s ^^ t) * (((2 * (D / n) + (D % n != 0).toNat : Nat) : Rat) * p2 (g - 1)) := by grind
  rw [ea]
  by_cases hm0 : m = 0
  · subst hm0
    have : D = 0 := by rw [← hD]; simp
    subst this
    simp [Near, Rat.div_def]; grind
  · have hDn : 2 ^ (digits - 1) * n ≤ D := by
      have h3 : 2 ^ (m.log2 + more) ≤ D := by
        rw [← hD, Nat.shiftLeft_eq, Nat.pow_add]
        exact Nat.mul_le_mul_right _ (Nat.log2_self_le hm0)
      have h4 : n < 2 ^ (n.log2 + 1) := Nat.lt_log2_self
      have h5 : 2 ^ (digits + n.log2) ≤ 2 ^ (m.log2 + more) := Nat.pow_le_pow_right (by omega) (by omega)
      have h6 : 2 ^ (digits + n.log2) = 2 ^ (digits - 1) * 2 ^ (n.log2 + 1) := by rw [← Nat.pow_add]; congr 1; omega
      have h7 := Nat.mul_le_mul_left (2 ^ (digits - 1)) (Nat.le_of_lt h4)
      omega
    have hQ : p2 ((digits : Int) - 1) * p2 g ≤ ((D : Rat) / n) * p2 g := by
      have h3 : ((2 ^ (digits - 1) * n : Nat) : Rat) ≤ (D : Rat) := by exact_mod_cast hDn
      rw [Rat.natCast_mul, cast2] at h3
      have e : (((digits - 1 : Nat) : Int)) = (digits : Int) - 1 := by omega
      rw [e] at h3
      have hi : (0 : Rat) < (n : Rat)⁻¹ := Rat.inv_pos.2 hn2
      have h4 := Rat.mul_le_mul_of_nonneg_right h3 (Rat.le_of_lt hi)
      have h5 : (n : Rat) * (n : Rat)⁻¹ = 1 := Rat.mul_inv_cancel _ hn0
      have h6 : p2 ((digits : Int) - 1) ≤ (D : Rat) / n := by
        rw [Rat.mul_assoc, h5, Rat.mul_one] at h4
        rw [Rat.div_def]; exact h4
      exact Rat.mul_le_mul_of_nonneg_right h6 (Rat.le_of_lt (p2_pos g))
    have hQ0 : 0 ≤ ((D : Rat) / n) * p2 g := by
      have := Rat.mul_nonneg (Rat.le_of_lt (p2_pos ((digits : Int) - 1))) (Rat.le_of_lt (p2_pos g))
      grind
    constructor
    · rw [abs_sg, Rat.abs_of_nonneg hQ0]
      apply sg_near
      have h7 := Rat.mul_le_mul_of_nonneg_left hQ (Rat.le_of_lt (p2_pos (-(digits : Int))))
      have h8 : p2 (-(digits : Int)) * (p2 ((digits : Int) - 1) * p2 g) = p2 (g - 1) := by
        rw [← p2_add, ← p2_add]; congr 1; omega
      rw [h8] at h7
      obtain ⟨a1, a2⟩ := st1
      constructor <;> grind
    · intro N k hN hk
      have hk2 : ((D : Rat) / n) * p2 g = (N.natAbs : Rat) * p2 k := by
        have h9 : (sg (s ^^ t) * (((D : Rat) / n) * p2 g)).abs = ((N : Rat) * p2 k).abs := by rw [hk]
        rw [abs_sg, Rat.abs_of_nonneg hQ0] at h9
        rw [h9]
        rcases Int.le_total 0 N with h | h
        · have : ((N.natAbs : Int) : Rat) = ((N : Int) : Rat) := by rw [Int.natAbs_of_nonneg h]
          rw [Rat.intCast_natCast] at this
          rw [this, Rat.abs_of_nonneg]
          exact Rat.mul_nonneg (by exact_mod_cast h) (Rat.le_of_lt (p2_pos k))
        · have : ((N.natAbs : Int) : Rat) = ((-N : Int) : Rat) := by congr 1; omega
          rw [Rat.intCast_natCast, Rat.intCast_neg] at this
          have h5 : 0 ≤ -(N : Rat) := by
            have : (N : Rat) ≤ 0 := by exact_mod_cast h
            grind
          have h6 := Rat.mul_nonneg h5 (Rat.le_of_lt (p2_pos k))
          rw [this, Rat.abs_of_nonpos]
          · grind
          · grind
      have hN2 : (N.natAbs : Rat) * p2 k < p2 ((digits : Int) - 1) * p2 k := by
        have h3 : (N.natAbs : Rat) < ((2 ^ (digits - 1) : Nat) : Rat) := by exact_mod_cast hN
        rw [cast2] at h3
        have e : (((digits - 1 : Nat) : Int)) = (digits : Int) - 1 := by omega
        rw [e] at h3
        exact Rat.mul_lt_mul_of_pos_right h3 (p2_pos k)
      have hgk : g < k := by
        have : p2 ((digits : Int) - 1) * p2 g < p2 ((digits : Int) - 1) * p2 k := by grind
        rw [← p2_add, ← p2_add] at this
        have := p2_lt_imp this; omega
      have hdvd : D = n * (N.natAbs * 2 ^ (k - g).toNat) := by
        have e1 : p2 k = p2 ((k - g).toNat : Int) * p2 g := by rw [← p2_add]; congr 1; omega
        have hpg := p2_pos g
        have : (D : Rat) = ((n * (N.natAbs * 2 ^ (k - g).toNat) : Nat) : Rat) := by
          rw [Rat.natCast_mul, Rat.natCast_mul, cast2]
          rw [e1] at hk2
          have hpg0 : p2 g ≠ 0 := by grind
          grind
        exact_mod_cast this
      have : D % n = 0 := by rw [hdvd]; exact Nat.mul_mod_right _ _
      rw [st2 this]

theorem ulp_pos (f : Format) : 0 < ulp f := p2_pos _
theorem tiny_pos (f : Format) : 0 < tiny f := p2_pos _

theorem div_near {f : Format} {a b : Nat} {x y B : Rat} (hf : Fine f) (ha : Is f a x) (hb : Is f b y) (hy : y ≠ 0) (h1 : -B ≤ x / y) (h2 : x / y ≤ B) (hB : 2 * B ≤ p2 100) :
    ∃ r z, f.div a b = some r ∧ Is f r z ∧ Near z (x / y) (3 * ulp f * B + tiny f) := by
  obtain ⟨s, m, e, v, hs, hv, hn, _⟩ := quotient_val (f.fractionBits + 2) (by omega) (is_read ha) (is_read hb) hy
  have hab := abs_le' h1 h2
  have hp := p2_pos (-((f.fractionBits + 2 : Nat) : Int))
  have hu : 2 * p2 (-((f.fractionBits + 2 : Nat) : Int)) = ulp f := by
    have := half (-((f.fractionBits : Int)) - 1)
    have e : -((f.fractionBits + 2 : Nat) : Int) = -((f.fractionBits : Int)) - 1 - 1 := by omega
    rw [e]; unfold ulp; exact this
  have hup := ulp_pos f
  have hu1 : ulp f ≤ 1 := by rw [← p2_zero]; unfold ulp; exact p2_le (by omega)
  have hB0 : 0 ≤ B := by grind
  have h3 := Rat.mul_le_mul_of_nonneg_left hab (Rat.le_of_lt hp)
  have h4 := Rat.mul_le_mul_of_nonneg_right hu1 hB0
  have h5 := Rat.mul_nonneg (Rat.le_of_lt hup) hB0
  have h6 : 2 * (p2 (-((f.fractionBits + 2 : Nat) : Int)) * B) = ulp f * B := by rw [← hu]; grind
  obtain ⟨n1, n2⟩ := hn
  generalize p2 (-((f.fractionBits + 2 : Nat) : Int)) * B = PB at *
  generalize p2 (-((f.fractionBits + 2 : Nat) : Int)) * (x / y).abs = PA at *
  generalize x / y = q at *
  have g1 : -(B + B) ≤ v := by grind
  have g2 : v ≤ B + B := by grind
  obtain ⟨z, hz, hzn⟩ := write_near hf s m e hv (B := B + B) g1 g2 (by grind)
  obtain ⟨z1, z2⟩ := hzn
  have h7 : ulp f * (B + B) = ulp f * B + ulp f * B := by grind
  have h8 : 3 * ulp f * B = ulp f * B + ulp f * B + ulp f * B := by grind
  rw [h7] at z1 z2
  refine ⟨_, z, by simp [Format.div, hs], hz, ?_⟩
  rw [h8]
  generalize ulp f * B = uB at *
  constructor <;> grind

theorem div_exact {f : Format} {a b : Nat} {x y : Rat} (hf : Fine f) (ha : Is f a x) (hb : Is f b y) (hy : y ≠ 0) (h1 : -p2 100 ≤ x / y) (h2 : x / y ≤ p2 100) (hr : Rep f (x / y)) :
    ∃ r, f.div a b = some r ∧ Is f r (x / y) := by
  obtain ⟨s, m, e, v, hs, hv, _, hx⟩ := quotient_val (f.fractionBits + 2) (by omega) (is_read ha) (is_read hb) hy
  have hr2 := hr
  obtain ⟨n, k, hn, hk, he⟩ := hr
  have := hx n k hn he
  subst this
  exact ⟨_, by simp [Format.div, hs], write_exact hf s m e hv h1 h2 hr2⟩

/-! the square root -/
theorem rootFrom_sq (n todo root : Nat) (h1 : root * root ≤ n) (h2 : n < (root + 2 ^ todo) * (root + 2 ^ todo)) :
    Datum.rootFrom n todo root * Datum.rootFrom n todo root ≤ n ∧ n < (Datum.rootFrom n todo root + 1) * (Datum.rootFrom n todo root + 1) := by
  induction todo generalizing root with
  | zero => simpa [Datum.rootFrom] using ⟨h1, h2⟩
  | succ t ih =>
    simp only [Datum.rootFrom, Nat.one_shiftLeft]
    have hp : 2 ^ (t + 1) = 2 ^ t + 2 ^ t := by rw [Nat.pow_succ]; omega
    split
    · rename_i h; exact ih _ h (by rw [hp] at h2; rw [Nat.add_assoc]; exact h2)
    · rename_i h; exact ih _ h1 (by omega)

theorem root_sq (n : Nat) : Datum.rootFrom n (n.log2 / 2 + 1) 0 * Datum.rootFrom n (n.log2 / 2 + 1) 0 ≤ n ∧ n < (Datum.rootFrom n (n.log2 / 2 + 1) 0 + 1) * (Datum.rootFrom n (n.log2 / 2 + 1) 0 + 1) := by
  apply rootFrom_sq
  · simp
  · simp only [Nat.zero_add]
    have h1 : n < 2 ^ (n.log2 + 1) := Nat.lt_log2_self
    have h2 : 2 ^ (n.log2 / 2 + 1) * 2 ^ (n.log2 / 2 + 1) = 2 ^ (n.log2 / 2 + 1 + (n.log2 / 2 + 1)) := (Nat.pow_add _ _ _).symm
    have h3 : 2 ^ (n.log2 + 1) ≤ 2 ^ (n.log2 / 2 + 1 + (n.log2 / 2 + 1)) := Nat.pow_le_pow_right (by omega) (by omega)
    omega

/-- the root of a number that is not negative: a number v with v >= 0 and v * v near it -/
theorem root_val {d : Datum} {x : Rat} (digits : Nat) (h1 : ∃ s m e, d = .number s m e ∧ sg s * m * p2 e = x) (hx : 0 ≤ x) :
    ∃ s m e v, d.root digits = some (.number s m e) ∧ sg s * m * p2 e = v ∧ 0 ≤ v ∧ v * v * (1 - p2 (-(digits : Int))) ≤ x ∧ x ≤ v * v * (1 + 3 * p2 (-(digits : Int))) := by
  obtain ⟨s, m, i, rfl, hx2⟩ := h1
  by_cases hm : m = 0
  · refine ⟨s, 0, i, 0, by simp [Datum.root, hm], by simp, Rat.le_refl, ?_⟩
    rw [← hx2, hm]; simp
  · have hs : s = false := by
      cases s
      · rfl
      · exfalso
        have h3 : (0 : Rat) < (m : Rat) := by exact_mod_cast (by omega : 0 < m)
        have h4 := Rat.mul_pos h3 (p2_pos i)
        simp only [sg, if_true] at hx2
        grind
    subst hs
    simp only [Datum.root, hm, if_false, Bool.false_eq_true]
    generalize hmore : 2 * digits - m.log2 + ((i - (2 * digits - m.log2 : Nat)) % 2).toNat = more
    generalize hn : m <<< more = n
    obtain ⟨r1, r2⟩ := root_sq n
    generalize Datum.rootFrom n (n.log2 / 2 + 1) 0 = W at *
    refine ⟨_, _, _, _, rfl, rfl, ?_⟩
    have hpar : (i - more) % 2 = 0 := by omega
    generalize hh : (i - (more : Int)) / 2 = h
    have hi2 : i = more + (h + h) := by omega
    have hxn : x = (n : Rat) * (p2 h * p2 h) := by
      rw [← hx2, ← hn, Nat.shiftLeft_eq, Rat.natCast_mul, cast2, hi2, p2_add, p2_add]
      simp only [sg, Bool.false_eq_true, if_false]; grind
    have hlow : 2 ^ digits ≤ W := by
      have h3 : 2 ^ (m.log2 + more) ≤ n := by
        rw [← hn, Nat.shiftLeft_eq, Nat.pow_add]
        exact Nat.mul_le_mul_right _ (Nat.log2_self_le hm)
      have h4 : 2 ^ (digits + digits) ≤ 2 ^ (m.log2 + more) := Nat.pow_le_pow_right (by omega) (by omega)
      rw [Nat.pow_add] at h4
      by_cases hc : 2 ^ digits ≤ W
      · exact hc
      · exfalso
        have := Nat.mul_le_mul (by omega : W + 1 ≤ 2 ^ digits) (by omega : W + 1 ≤ 2 ^ digits)
        omega
    have hq : sg false * ((2 * W + (W * W != n).toNat : Nat) : Rat) * p2 (h - 1) = ((2 * W + (W * W != n).toNat : Nat) : Rat) * p2 (h - 1) := by
      simp only [sg, Bool.false_eq_true, if_false]; grind
    rw [hq]
    have hp := p2_pos (h - 1)
    have hh2 := half h
    have hW0 : (0 : Rat) ≤ (W : Rat) := by exact_mod_cast Nat.zero_le W
    have hr1 : (W : Rat) * W ≤ (n : Rat) := by exact_mod_cast r1
    have hr2 : (n : Rat) ≤ (W : Rat) * W + 2 * W := by
      have : n ≤ W * W + 2 * W := by
        have : (W + 1) * (W + 1) = W * W + 2 * W + 1 := by
          rw [Nat.add_mul, Nat.mul_add]; omega
        omega
      exact_mod_cast this
    have hdd : p2 (digits : Int) ≤ (W : Rat) := by rw [p2_nat]; exact_mod_cast hlow
    have hd1 : p2 (-(digits : Int)) * p2 (digits : Int) = 1 := by rw [← p2_add, ← p2_zero]; congr 1; omega
    have hdp := p2_pos (-(digits : Int))
    -- W * 2^-digits is at least one
    have hone : 1 ≤ p2 (-(digits : Int)) * W := by
      have := Rat.mul_le_mul_of_nonneg_left hdd (Rat.le_of_lt hdp)
      grind
    generalize p2 (-(digits : Int)) = D at *
    rw [hxn, ← hh2]
    have hpp := Rat.mul_pos hp hp
    by_cases hst : W * W = n
    · have e1 : (W * W != n) = false := by simp [hst]
      have e2 : (n : Rat) = (W : Rat) * W := by exact_mod_cast hst.symm
      rw [e1, e2]
      simp only [Bool.toNat_false, Nat.add_zero, Rat.natCast_mul, cast_two]
      have hw2 := Rat.mul_nonneg hW0 hW0
      have hw3 := Rat.mul_nonneg hw2 (Rat.le_of_lt hpp)
      have hw4 := Rat.mul_nonneg (Rat.le_of_lt hdp) hw3
      have hw5 := Rat.mul_nonneg hW0 (Rat.le_of_lt hp)
      refine ⟨?_, ?_, ?_⟩ <;> grind
    · have e1 : (W * W != n) = true := by simp [hst]
      rw [e1]
      simp only [Bool.toNat_true, Rat.natCast_add, Rat.natCast_mul, cast_two, cast_one]
      have hw2 := Rat.mul_nonneg hW0 hW0
      have hone2 := Rat.mul_le_mul_of_nonneg_right hone hW0
      -- now with W at least one
      have k1 : ((2 : Rat) * W + 1) * (2 * W + 1) * (1 - D) ≤ 4 * (n : Rat) := by grind
      have k2 : 4 * (n : Rat) ≤ ((2 : Rat) * W + 1) * (2 * W + 1) * (1 + 3 * D) := by grind
      have k1' := Rat.mul_le_mul_of_nonneg_right k1 (Rat.le_of_lt hpp)
      have k2' := Rat.mul_le_mul_of_nonneg_right k2 (Rat.le_of_lt hpp)
      have hw5 := Rat.mul_nonneg hW0 (Rat.le_of_lt hp)
      refine ⟨?_, ?_, ?_⟩ <;> grind

/-- the square root: not negative, and its square near what it is taken of -/
theorem sqrt_near {f : Format} {a : Nat} {x : Rat} (hf : Fine f) (ha : Is f a x) (hx : 0 ≤ x) (hB : x ≤ p2 98) :
    ∃ r v z, f.sqrt a = some r ∧ Is f r z ∧ 0 ≤ v ∧ v * v * (1 - ulp f) ≤ x ∧ x ≤ v * v * (1 + 3 * ulp f) ∧ Near z v (ulp f * v + tiny f) := by
  obtain ⟨s, m, e, v, hs, hv, hv0, hl, hh⟩ := root_val (f.fractionBits + 2) (is_read ha) hx
  have hu : 2 * p2 (-((f.fractionBits + 2 : Nat) : Int)) = ulp f := by
    have := half (-((f.fractionBits : Int)) - 1)
    have e : -((f.fractionBits + 2 : Nat) : Int) = -((f.fractionBits : Int)) - 1 - 1 := by omega
    rw [e]; unfold ulp; exact this
  have hp := p2_pos (-((f.fractionBits + 2 : Nat) : Int))
  have hu1 : ulp f ≤ p2 (-1) := by unfold ulp; exact p2_le (by omega)
  have h11 : 2 * p2 (-1) = 1 := by rw [← p2_zero]; exact half 0
  have hvv := Rat.mul_nonneg hv0 hv0
  generalize p2 (-((f.fractionBits + 2 : Nat) : Int)) = D at *
  have m1 := Rat.mul_nonneg hvv (Rat.le_of_lt hp)
  have h2 : v * v * (1 - ulp f) ≤ x := by rw [← hu]; grind
  have h3 : x ≤ v * v * (1 + 3 * ulp f) := by rw [← hu]; grind
  have hv2 : v ≤ p2 100 := by
    by_cases hc : v ≤ p2 100
    · exact hc
    · exfalso
      have h4 : p2 100 ≤ v := by grind
      have h5 := Rat.mul_le_mul_of_nonneg_left h4 hv0
      have h6 := Rat.mul_le_mul_of_nonneg_right h4 (Rat.le_of_lt (p2_pos 100))
      have h7 : p2 100 * p2 100 = p2 98 * p2 102 := by rw [← p2_add, ← p2_add]; rfl
      have h8 : 4 ≤ p2 102 := by
        have : p2 2 = 4 := by have := p2_nat 2; simpa using this
        rw [← this]; exact p2_le (by omega)
      have h9 := Rat.mul_le_mul_of_nonneg_left h8 (Rat.le_of_lt (p2_pos 98))
      have h10 := Rat.mul_le_mul_of_nonneg_left hu1 hvv
      have h12 := p2_pos 98
      have hhalf : p2 (-1) = 1 / 2 := by grind
      rw [hhalf] at h10
      have h13 : v * v * (1 - ulp f) = v * v - v * v * ulp f := by grind
      rw [h13] at h2
      clear hl hh h3 hu hhalf h11 hu1 m1 h13
      generalize v * v * ulp f = q at *
      generalize v * v = vv at *
      generalize p2 98 * p2 102 = pp at *
      generalize p2 100 * p2 100 = qq at *
      generalize v * p2 100 = rr at *
      generalize p2 98 = aa at *
      grind
  obtain ⟨z, hz, hn⟩ := write_near hf s m e hv (B := v) (by grind) Rat.le_refl hv2
  exact ⟨_, v, z, by simp [Format.sqrt, hs], hz, hv0, h2, h3, hn⟩

/-- a word of single precision is written exactly in double precision -/
theorem rep_of_is {w : Nat} {x : Rat} (h : Is single w x) : Rep single x := by
  obtain ⟨s, m, e, hr, hv⟩ := is_read h
  refine ⟨sgi s * m, e, ?_, ?_, ?_⟩
  · have : m < 2 ^ 24 := by
      unfold Format.read at hr
      simp only at hr
      split at hr
      · injection hr with _ h2 _
        rename_i hlt
        have : single.binade = 2 ^ 23 := by decide
        omega
      · split at hr
        · injection hr with _ h2 _
          have hb : single.binade = 2 ^ 23 := by decide
          have := Nat.mod_lt (w % single.signWeight) (binade_pos single)
          omega
        · split at hr <;> cases hr
    have e1 : single.fractionBits + 1 = 24 := rfl
    rw [e1]
    cases s <;> simp [sgi] <;> omega
  · unfold Format.read at hr
    simp only at hr
    split at hr
    · injection hr with _ _ h3; omega
    · split at hr
      · injection hr with _ _ h3; omega
      · split at hr <;> cases hr
  · rw [← hv, Rat.intCast_mul, sgi_rat, Rat.intCast_natCast]

theorem rep_double {x : Rat} (h : Rep single x) : Rep double x := by
  obtain ⟨n, k, hn, hk, he⟩ := h
  refine ⟨n, k, ?_, ?_, he⟩
  · have e1 : single.fractionBits + 1 = 24 := rfl
    have e2 : double.fractionBits + 1 = 53 := rfl
    rw [e1] at hn; rw [e2]
    have : (2 : Nat) ^ 24 ≤ 2 ^ 53 := by decide
    omega
  · have e1 : single.leastPlace = -149 := by decide
    have e2 : double.leastPlace = -1074 := by decide
    omega
end Fl
