/- Rounding of IEEE numbers, told in rational numbers: what 'nearest' writes is the nearest number of the format. No program. -/
import Ieee.Arith
namespace Go.Proofs.Ytgjfpclpnobggaa
open Ieee

def p2 (e : Int) : Rat := (2 : Rat) ^ e

theorem two_ne : (2 : Rat) ≠ 0 := by decide
theorem p2_zero : p2 0 = 1 := by unfold p2; simp
theorem p2_add (a b : Int) : p2 (a + b) = p2 a * p2 b := Rat.zpow_add two_ne a b
theorem p2_nat (n : Nat) : p2 (n : Int) = ((2 ^ n : Nat) : Rat) := by
  unfold p2; rw [Rat.zpow_natCast]; simp
theorem p2_pos (e : Int) : 0 < p2 e := by
  unfold p2; exact Rat.zpow_pos (by decide)
theorem p2_one : p2 1 = 2 := by have := p2_nat 1; simpa using this
theorem p2_succ (a : Int) : p2 (a + 1) = 2 * p2 a := by rw [p2_add, p2_one, Rat.mul_comm]
theorem p2_neg (a : Int) : p2 a * p2 (-a) = 1 := by rw [← p2_add, Int.add_right_neg, p2_zero]
theorem p2_mono {a b : Int} (h : a ≤ b) : p2 a ≤ p2 b := by
  obtain ⟨n, rfl⟩ : ∃ n : Nat, b = a + n := ⟨(b - a).toNat, by omega⟩
  rw [p2_add, p2_nat]
  have hp := p2_pos a
  have h1 : (1 : Rat) ≤ ((2 ^ n : Nat) : Rat) := by
    have : 1 ≤ 2 ^ n := Nat.one_le_two_pow
    exact_mod_cast this
  have := Rat.mul_le_mul_of_nonneg_left h1 (Rat.le_of_lt hp)
  simpa using this
theorem p2_lt {a b : Int} (h : a < b) : p2 a < p2 b := by
  have h1 : p2 (a + 1) ≤ p2 b := p2_mono (by omega)
  rw [p2_succ] at h1
  have := p2_pos a
  grind
theorem p2_lt_iff {a b : Int} : p2 a < p2 b ↔ a < b := by
  constructor
  · intro h
    rcases Int.lt_or_le a b with h' | h'
    · exact h'
    · have := p2_mono h'; grind
  · exact p2_lt
theorem p2_le_iff {a b : Int} : p2 a ≤ p2 b ↔ a ≤ b := by
  constructor
  · intro h
    rcases Int.lt_or_le b a with h' | h'
    · have := p2_lt h'; grind
    · exact h'
  · exact p2_mono

/-- the even rounding, in whole numbers -/
theorem cut_even (neg : Bool) (n drop : Nat) :
    2 * (Toward.even.cut neg n drop * 2 ^ drop) ≤ 2 * n + 2 ^ drop ∧ 2 * n ≤ 2 * (Toward.even.cut neg n drop * 2 ^ drop) + 2 ^ drop := by
  simp only [Toward.cut]
  by_cases hd : drop ≤ n.log2 + 2
  · rw [Nat.min_eq_left hd, Nat.shiftLeft_eq, Nat.one_mul]
    generalize hg : 2 ^ drop = g
    have hgp : 0 < g := by rw [← hg]; exact Nat.two_pow_pos _
    have hdm := Nat.div_add_mod n g
    have hml := Nat.mod_lt n hgp
    rw [Nat.mul_comm] at hdm
    generalize n / g = low at *
    generalize n % g = rest at *
    by_cases h : (decide (g < 2 * rest) || (g == 2 * rest && low % 2 == 1)) = true
    · rw [h]
      simp only [Bool.or_eq_true, decide_eq_true_eq, Bool.and_eq_true, beq_iff_eq] at h
      simp only [Bool.toNat_true, Nat.add_mul, Nat.one_mul]
      omega
    · rw [Bool.not_eq_true] at h
      rw [h]
      simp only [Bool.or_eq_false_iff, decide_eq_false_iff_not] at h
      simp only [Bool.toNat_false, Nat.add_zero]
      omega
  · rw [Nat.min_eq_right (by omega), Nat.shiftLeft_eq, Nat.one_mul]
    have hlt : n < 2 ^ (n.log2 + 1) := Nat.lt_log2_self
    have h2 : 2 ^ (n.log2 + 2) = 2 * 2 ^ (n.log2 + 1) := by rw [Nat.pow_succ]; omega
    have h3 : 2 ^ (n.log2 + 2) ≤ 2 ^ drop := Nat.pow_le_pow_right (by omega) (by omega)
    rw [Nat.div_eq_of_lt (by omega), Nat.mod_eq_of_lt (by omega)]
    have hf : (decide (2 ^ (n.log2 + 2) < 2 * n) || (2 ^ (n.log2 + 2) == 2 * n && 0 % 2 == 1)) = false := by
      simp only [Bool.or_eq_false_iff, decide_eq_false_iff_not]
      refine ⟨by omega, by simp⟩
    rw [hf]
    simp only [Bool.toNat_false, Nat.add_zero, Nat.zero_mul]
    omega

theorem cut_even_le {neg : Bool} {n drop b : Nat} (h : n ≤ b * 2 ^ drop) : Toward.even.cut neg n drop ≤ b := by
  have h1 := (cut_even neg n drop).1
  have hp : 0 < 2 ^ drop := Nat.two_pow_pos _
  apply Classical.byContradiction
  intro hn
  have : (b + 1) * 2 ^ drop ≤ Toward.even.cut neg n drop * 2 ^ drop := Nat.mul_le_mul_right _ (by omega)
  rw [Nat.add_mul, Nat.one_mul] at this
  omega
theorem cut_even_ge {neg : Bool} {n drop b : Nat} (h : b * 2 ^ drop ≤ n) : b ≤ Toward.even.cut neg n drop := by
  have h1 := (cut_even neg n drop).2
  have hp : 0 < 2 ^ drop := Nat.two_pow_pos _
  apply Classical.byContradiction
  intro hn
  have : (Toward.even.cut neg n drop + 1) * 2 ^ drop ≤ b * 2 ^ drop := Nat.mul_le_mul_right _ (by omega)
  rw [Nat.add_mul, Nat.one_mul] at this
  omega

/-- the place of the last digit that is kept -/
def lastOf (f : Format) (mag : Nat) (place : Int) : Int := max (place + mag.log2 - f.fractionBits) f.leastPlace
def keptOf (f : Format) (neg : Bool) (mag : Nat) (place : Int) : Nat :=
  Toward.even.cut neg (mag <<< (place - lastOf f mag place).toNat) (lastOf f mag place - place).toNat

theorem nearest_eq (f : Format) (neg : Bool) (mag : Nat) (place : Int) (hm : mag ≠ 0) :
    f.nearest neg mag place = f.word neg (min ((lastOf f mag place - f.leastPlace).toNat * f.binade + keptOf f neg mag place) f.infRung) := by
  simp only [Format.nearest, if_neg hm, lastOf, keptOf]

/-- the number kept, as a rational: within a half of the exact quotient -/
theorem kept_err (f : Format) (neg : Bool) (mag : Nat) (place : Int) :
    (keptOf f neg mag place : Rat) * p2 (lastOf f mag place) ≤ mag * p2 place + p2 (lastOf f mag place) / 2 ∧
    (mag : Rat) * p2 place ≤ keptOf f neg mag place * p2 (lastOf f mag place) + p2 (lastOf f mag place) / 2 := by
  unfold keptOf
  generalize lastOf f mag place = last
  rcases Int.le_total last place with h | h
  · obtain ⟨d, rfl⟩ : ∃ d : Nat, place = last + d := ⟨(place - last).toNat, by omega⟩
    rw [show (last + (d : Int) - last).toNat = d by omega, show (last - (last + (d : Int))).toNat = 0 by omega]
    have hc := cut_even neg (mag <<< d) 0
    have : Toward.even.cut neg (mag <<< d) 0 = mag <<< d := by simp only [Nat.pow_zero, Nat.mul_one] at hc; omega
    rw [this, Nat.shiftLeft_eq, p2_add, p2_nat]
    have hp := p2_pos last
    push_cast
    constructor <;> grind
  · obtain ⟨d, rfl⟩ : ∃ d : Nat, last = place + d := ⟨(last - place).toNat, by omega⟩
    rw [show (place - (place + (d : Int))).toNat = 0 by omega, show (place + (d : Int) - place).toNat = d by omega, Nat.shiftLeft_zero]
    have hc := cut_even neg mag d
    generalize Toward.even.cut neg mag d = c at *
    rw [p2_add, p2_nat]
    have hp := p2_pos place
    have h1 : ((2 * (c * 2 ^ d) : Nat) : Rat) ≤ ((2 * mag + 2 ^ d : Nat) : Rat) := by exact_mod_cast hc.1
    have h2 : ((2 * mag : Nat) : Rat) ≤ ((2 * (c * 2 ^ d) + 2 ^ d : Nat) : Rat) := by exact_mod_cast hc.2
    push_cast at h1 h2 ⊢
    have m1 := Rat.mul_le_mul_of_nonneg_right h1 (Rat.le_of_lt hp)
    have m2 := Rat.mul_le_mul_of_nonneg_right h2 (Rat.le_of_lt hp)
    constructor <;> grind

theorem log2_lo {m : Nat} (h : m ≠ 0) : 2 ^ m.log2 ≤ m := Nat.log2_self_le h
theorem log2_hi {m : Nat} : m < 2 ^ (m.log2 + 1) := Nat.lt_log2_self

theorem mag_bounds {mag : Nat} (hm : mag ≠ 0) (place : Int) :
    p2 (place + mag.log2) ≤ mag * p2 place ∧ (mag : Rat) * p2 place < p2 (place + mag.log2 + 1) := by
  have hp := p2_pos place
  have h1 : ((2 ^ mag.log2 : Nat) : Rat) ≤ (mag : Rat) := by exact_mod_cast log2_lo hm
  have h2 : (mag : Rat) < ((2 ^ (mag.log2 + 1) : Nat) : Rat) := by exact_mod_cast log2_hi
  have m1 := Rat.mul_le_mul_of_nonneg_right h1 (Rat.le_of_lt hp)
  have m2 := Rat.mul_lt_mul_of_pos_right h2 hp
  rw [← p2_nat, ← p2_add, Int.add_comm] at m1
  rw [← p2_nat, ← p2_add] at m2
  refine ⟨m1, ?_⟩
  rw [show place + (mag.log2 : Int) + 1 = ((mag.log2 + 1 : Nat) : Int) + place by omega]
  exact m2

theorem kept_le (f : Format) (neg : Bool) (mag : Nat) (place : Int) : keptOf f neg mag place ≤ 2 ^ (f.fractionBits + 1) := by
  have hlast : place + mag.log2 - f.fractionBits ≤ lastOf f mag place := by unfold lastOf; omega
  unfold keptOf
  generalize lastOf f mag place = last at *
  have hlt : mag < 2 ^ (mag.log2 + 1) := log2_hi
  apply cut_even_le
  rcases Int.le_total last place with h | h
  · rw [Nat.shiftLeft_eq, show (last - place).toNat = 0 by omega, Nat.pow_zero, Nat.mul_one]
    have h1 : (place - last).toNat ≤ f.fractionBits - mag.log2 := by omega
    have h2 : mag.log2 ≤ f.fractionBits := by omega
    calc mag * 2 ^ (place - last).toNat ≤ 2 ^ (mag.log2 + 1) * 2 ^ (f.fractionBits - mag.log2) :=
          Nat.mul_le_mul (Nat.le_of_lt hlt) (Nat.pow_le_pow_right (by omega) h1)
      _ = 2 ^ (f.fractionBits + 1) := by rw [← Nat.pow_add]; congr 1; omega
  · rw [show (place - last).toNat = 0 by omega, Nat.shiftLeft_zero, ← Nat.pow_add]
    exact Nat.le_trans (Nat.le_of_lt hlt) (Nat.pow_le_pow_right (by omega) (by omega))

theorem kept_ge (f : Format) (neg : Bool) {mag : Nat} (hm : mag ≠ 0) (place : Int) (h : f.leastPlace < lastOf f mag place) : 2 ^ f.fractionBits ≤ keptOf f neg mag place := by
  have hlast : lastOf f mag place = place + mag.log2 - f.fractionBits := by unfold lastOf at *; omega
  unfold keptOf
  generalize lastOf f mag place = last at *
  have hge := log2_lo hm
  apply cut_even_ge
  rcases Int.le_total last place with h | h
  · rw [Nat.shiftLeft_eq, show (last - place).toNat = 0 by omega, Nat.pow_zero, Nat.mul_one]
    calc 2 ^ f.fractionBits = 2 ^ mag.log2 * 2 ^ (place - last).toNat := by rw [← Nat.pow_add]; congr 1; omega
      _ ≤ mag * 2 ^ (place - last).toNat := Nat.mul_le_mul_right _ hge
  · rw [show (place - last).toNat = 0 by omega, Nat.shiftLeft_zero, ← Nat.pow_add]
    exact Nat.le_trans (Nat.pow_le_pow_right (by omega) (by omega)) hge

/-- a format as the two in use are: enough bits -/
structure Wide (f : Format) : Prop where
  eb : 2 ≤ f.exponentBits
  fb : 1 ≤ f.fractionBits

theorem word_mod (f : Format) (neg : Bool) {rung : Nat} (h : rung < f.signWeight) : f.word neg rung % f.signWeight = rung := by
  unfold Format.word
  split
  · rw [Nat.add_mod_left]; exact Nat.mod_eq_of_lt h
  · exact Nat.mod_eq_of_lt h
theorem word_neg (f : Format) (neg : Bool) {rung : Nat} (h : rung < f.signWeight) : (f.word neg rung / f.signWeight % 2 == 1) = neg := by
  have hp : 0 < f.signWeight := by omega
  unfold Format.word
  split
  · rename_i hn
    rw [Nat.add_div_left _ hp, Nat.div_eq_of_lt h, hn]; rfl
  · rename_i hn
    rw [Nat.div_eq_of_lt h]
    simp at hn; rw [hn]; rfl
theorem infRung_lt' (f : Format) : f.infRung < f.signWeight := by
  unfold Format.infRung Format.signWeight Format.binade
  rw [Nat.pow_add]
  exact Nat.mul_lt_mul_of_pos_right (Nat.sub_lt (Nat.two_pow_pos _) (by decide)) (Nat.two_pow_pos _)

/-- a rung below infinity read back: its number is kept times two to the last -/
theorem read_rung (f : Format) (neg : Bool) (d kept : Nat) (hk : kept ≤ 2 ^ (f.fractionBits + 1)) (hge : 0 < d → 2 ^ f.fractionBits ≤ kept)
    (hr : d * f.binade + kept < f.infRung) :
    ∃ (M : Nat) (E : Int), f.read (f.word neg (d * f.binade + kept)) = .number neg M E ∧ (M : Rat) * p2 E = kept * p2 (f.leastPlace + d) ∧ f.leastPlace ≤ E ∧ M < 2 ^ (f.fractionBits + 1) := by
  have hlt := infRung_lt' f
  have hb : f.binade = 2 ^ f.fractionBits := rfl
  have hbp : 0 < f.binade := Nat.two_pow_pos _
  have hb2 : 2 ^ (f.fractionBits + 1) = 2 * f.binade := by rw [Nat.pow_succ, hb]; omega
  rw [← hb] at hge
  rw [hb2] at hk ⊢
  simp only [Format.read, word_mod f neg (Nat.lt_trans hr hlt), word_neg f neg (Nat.lt_trans hr hlt)]
  by_cases h0 : d * f.binade + kept < f.binade
  · have hd0 : d = 0 := by
      rcases Nat.eq_zero_or_pos d with h | h
      · exact h
      · have := Nat.le_mul_of_pos_left f.binade h; omega
    subst hd0
    simp only [Nat.zero_mul, Nat.zero_add] at h0 ⊢
    rw [if_pos h0]
    exact ⟨kept, _, rfl, by simp, Int.le_refl _, by omega⟩
  · rw [if_neg h0, if_pos hr]
    refine ⟨_, _, rfl, ?_, by omega, ?_⟩
    · rcases Nat.lt_or_ge kept (2 * f.binade) with hk2 | hk2
      · by_cases hkb : f.binade ≤ kept
        · obtain ⟨j, rfl⟩ : ∃ j, kept = f.binade + j := ⟨kept - f.binade, by omega⟩
          have e1 : d * f.binade + (f.binade + j) = j + f.binade * (d + 1) := by rw [Nat.mul_comm d, Nat.mul_add]; omega
          rw [e1, Nat.add_mul_mod_self_left, Nat.add_mul_div_left _ _ hbp, Nat.mod_eq_of_lt (by omega), Nat.div_eq_of_lt (by omega)]
          simp
        · have : d = 0 := by
            rcases Nat.eq_zero_or_pos d with h | h
            · exact h
            · exact absurd (hge h) hkb
          subst this; omega
      · have : kept = 2 * f.binade := by omega
        subst this
        have e1 : d * f.binade + 2 * f.binade = 0 + f.binade * (d + 2) := by rw [Nat.mul_comm d, Nat.mul_add]; omega
        rw [e1, Nat.add_mul_mod_self_left, Nat.add_mul_div_left _ _ hbp, Nat.mod_eq_of_lt hbp, Nat.div_eq_of_lt hbp]
        have e2 : f.leastPlace + ((0 + (d + 2) - 1 : Nat) : Int) = f.leastPlace + d + 1 := by omega
        rw [e2, p2_succ]
        push_cast
        grind
    · have := Nat.mod_lt (d * f.binade + kept) hbp
      omega

/-- what 'nearest' writes, read back, where the format reaches so far -/
theorem nearest_read (f : Format) (hw : Wide f) (neg : Bool) (mag : Nat) (place : Int) (hm : mag ≠ 0)
    (hP : place + mag.log2 < 2 ^ (f.exponentBits - 1) - 1) :
    ∃ (M : Nat) (E : Int), f.read (f.nearest neg mag place) = .number neg M E ∧
      (M : Rat) * p2 E = keptOf f neg mag place * p2 (lastOf f mag place) ∧ f.leastPlace ≤ E ∧ M < 2 ^ (f.fractionBits + 1) := by
  have hk := kept_le f neg mag place
  have hlast : f.leastPlace ≤ lastOf f mag place := by unfold lastOf; omega
  have hlo : lastOf f mag place = place + mag.log2 - f.fractionBits ∨ lastOf f mag place = f.leastPlace := by unfold lastOf; omega
  have hge : 0 < (lastOf f mag place - f.leastPlace).toNat → 2 ^ f.fractionBits ≤ keptOf f neg mag place := fun h => kept_ge f neg hm place (by omega)
  have hrung : (lastOf f mag place - f.leastPlace).toNat * f.binade + keptOf f neg mag place < f.infRung := by
    have hb : f.binade = 2 ^ f.fractionBits := rfl
    have hbp : 0 < f.binade := Nat.two_pow_pos _
    have hb2 : 2 ^ (f.fractionBits + 1) = 2 * f.binade := by rw [Nat.pow_succ, hb]; omega
    rw [hb2] at hk
    have h4 : 4 ≤ 2 ^ f.exponentBits := by
      have := Nat.pow_le_pow_right (n := 2) (by omega) hw.eb
      simpa using this
    have e2 : (2 : Nat) ^ f.exponentBits = 2 * 2 ^ (f.exponentBits - 1) := by
      rw [← Nat.pow_succ']; congr 1; have := hw.eb; omega
    have hn : ((2 : Int) ^ (f.exponentBits - 1)) = ((2 ^ (f.exponentBits - 1) : Nat) : Int) := by push_cast; rfl
    have hL : f.leastPlace = 2 - ((2 ^ (f.exponentBits - 1) : Nat) : Int) - f.fractionBits := by unfold Format.leastPlace; rw [hn]
    rw [hn] at hP
    generalize hq : 2 ^ (f.exponentBits - 1) = q at *
    have hd : (lastOf f mag place - f.leastPlace).toNat + 2 < 2 ^ f.exponentBits - 1 ∨ (lastOf f mag place - f.leastPlace).toNat = 0 := by
      rcases hlo with h | h
      · left; rw [h]; omega
      · right; omega
    unfold Format.infRung
    rcases hd with hd | hd
    · have h5 : ((lastOf f mag place - f.leastPlace).toNat + 3) * f.binade ≤ (2 ^ f.exponentBits - 1) * f.binade := Nat.mul_le_mul_right _ (by omega)
      rw [Nat.add_mul] at h5
      omega
    · rw [hd]
      have h5 : 3 * f.binade ≤ (2 ^ f.exponentBits - 1) * f.binade := Nat.mul_le_mul_right _ (by omega)
      omega
  obtain ⟨M, E, h1, h2, h3, h4⟩ := read_rung f neg _ _ hk hge hrung
  refine ⟨M, E, ?_, ?_, h3, h4⟩
  · rw [nearest_eq f neg mag place hm, Nat.min_eq_left (Nat.le_of_lt hrung)]; exact h1
  · rw [h2]; congr 2; omega

/-- v is a number of the format that is nearest to X, X above nought. -/
def Near (f : Format) (X v : Rat) : Prop :=
  ∃ (l : Int) (kept : Nat), v = kept * p2 l ∧ f.leastPlace ≤ l ∧ kept ≤ 2 ^ (f.fractionBits + 1) ∧ v ≤ X + p2 l / 2 ∧ X ≤ v + p2 l / 2 ∧
    (l = f.leastPlace ∨ p2 (l + f.fractionBits) ≤ X) ∧ X < p2 (l + f.fractionBits + 1)

def emax (f : Format) : Int := 2 ^ (f.exponentBits - 1) - 1

theorem nearest_Near (f : Format) (hw : Wide f) (neg : Bool) (mag : Nat) (place : Int) (hm : mag ≠ 0) (hX : (mag : Rat) * p2 place < p2 (emax f)) :
    ∃ (M : Nat) (E : Int), f.read (f.nearest neg mag place) = .number neg M E ∧ Near f (mag * p2 place) (M * p2 E) ∧ f.leastPlace ≤ E ∧ M < 2 ^ (f.fractionBits + 1) := by
  have hb := mag_bounds hm place
  have hP : place + mag.log2 < emax f := p2_lt_iff.1 (by grind)
  obtain ⟨M, E, h1, h2, h3, h4⟩ := nearest_read f hw neg mag place hm hP
  refine ⟨M, E, h1, ?_, h3, h4⟩
  have he := kept_err f neg mag place
  have hlast : f.leastPlace ≤ lastOf f mag place ∧ place + mag.log2 - f.fractionBits ≤ lastOf f mag place := by unfold lastOf; omega
  refine ⟨lastOf f mag place, keptOf f neg mag place, h2, hlast.1, kept_le f neg mag place, by rw [h2]; exact he.1, by rw [h2]; exact he.2, ?_, ?_⟩
  · by_cases h : lastOf f mag place = f.leastPlace
    · exact .inl h
    · right
      have : lastOf f mag place + f.fractionBits = place + mag.log2 := by unfold lastOf at *; omega
      rw [this]; exact hb.1
  · have := p2_mono (a := place + mag.log2 + 1) (b := lastOf f mag place + f.fractionBits + 1) (by omega)
    grind

/-- multiples of one unit that are less than a unit apart are equal -/
theorem nat_close {a b : Nat} {u : Rat} (hu : 0 < u) (h1 : (a : Rat) * u ≤ b * u + u / 2) (h2 : (b : Rat) * u ≤ a * u + u / 2) : a = b := by
  rcases Nat.lt_trichotomy a b with h | h | h
  · have h3 : ((a + 1 : Nat) : Rat) ≤ (b : Rat) := by exact_mod_cast h
    have h4 := Rat.mul_le_mul_of_nonneg_right h3 (Rat.le_of_lt hu)
    push_cast at h4
    grind
  · exact h
  · have h3 : ((b + 1 : Nat) : Rat) ≤ (a : Rat) := by exact_mod_cast h
    have h4 := Rat.mul_le_mul_of_nonneg_right h3 (Rat.le_of_lt hu)
    push_cast at h4
    grind

/-- a number with few digits, as a multiple of a unit that is not greater -/
theorem units_of {F : Nat} {c : Nat} {t l : Int} (hc : c ≤ 2 ^ (F + 1)) (h : p2 (l + F) ≤ c * p2 t ∨ l ≤ t) : ∃ n : Nat, (c : Rat) * p2 t = n * p2 l := by
  by_cases hlt : l ≤ t
  · obtain ⟨d, rfl⟩ : ∃ d : Nat, t = l + d := ⟨(t - l).toNat, by omega⟩
    refine ⟨c * 2 ^ d, ?_⟩
    rw [p2_add, p2_nat]
    push_cast
    grind
  · rcases h with h | h
    · have hcr : (c : Rat) ≤ ((2 ^ (F + 1) : Nat) : Rat) := by exact_mod_cast hc
      have h1 := Rat.mul_le_mul_of_nonneg_right hcr (Rat.le_of_lt (p2_pos t))
      rw [← p2_nat, ← p2_add] at h1
      have h2 : p2 (l + F) ≤ p2 (((F + 1 : Nat) : Int) + t) := by grind
      have h3 := p2_le_iff.1 h2
      have h4 : l = t + 1 := by omega
      subst h4
      refine ⟨2 ^ F, ?_⟩
      rw [← p2_nat, ← p2_add]
      have : ((F + 1 : Nat) : Int) + t = (F : Int) + (t + 1) := by omega
      rw [this] at h1
      rw [Int.add_comm] at h
      grind
    · exact absurd h hlt

theorem Near.exact {f : Format} {X v : Rat} (h : Near f X v) {c : Nat} {t : Int} (hX : X = c * p2 t) (hc : c ≤ 2 ^ (f.fractionBits + 1)) (ht : f.leastPlace ≤ t) : v = X := by
  obtain ⟨l, kept, hv, hl, _, h1, h2, h3, _⟩ := h
  have : p2 (l + f.fractionBits) ≤ c * p2 t ∨ l ≤ t := by
    rcases h3 with h | h
    · right; omega
    · left; rw [← hX]; exact h
  obtain ⟨n, hn⟩ := units_of hc this
  rw [← hX] at hn
  subst hv
  rw [hn] at h1 h2 ⊢
  rw [nat_close (p2_pos l) h1 h2]

/-- what is at most a number of the format is rounded to at most that -/
theorem Near.le {f : Format} {X v : Rat} (h : Near f X v) {c : Nat} {t : Int} (hX : X ≤ c * p2 t) (hc : c ≤ 2 ^ (f.fractionBits + 1)) (ht : f.leastPlace ≤ t) : v ≤ c * p2 t := by
  obtain ⟨l, kept, hv, hl, _, h1, h2, h3, _⟩ := h
  have : p2 (l + f.fractionBits) ≤ c * p2 t ∨ l ≤ t := by
    rcases h3 with h | h
    · right; omega
    · left; grind
  obtain ⟨n, hn⟩ := units_of hc this
  rw [hn] at hX ⊢
  subst hv
  have hp := p2_pos l
  have hkn : kept ≤ n := by
    apply Classical.byContradiction
    intro hcon
    have h3 : ((n + 1 : Nat) : Rat) ≤ (kept : Rat) := by exact_mod_cast (show n + 1 ≤ kept by omega)
    have h4 := Rat.mul_le_mul_of_nonneg_right h3 (Rat.le_of_lt hp)
    push_cast at h4
    grind
  have h3 : (kept : Rat) ≤ (n : Rat) := by exact_mod_cast hkn
  exact Rat.mul_le_mul_of_nonneg_right h3 (Rat.le_of_lt hp)

theorem Near.ge {f : Format} {X v : Rat} (h : Near f X v) {c : Nat} {t : Int} (hX : c * p2 t ≤ X) (hc : c ≤ 2 ^ (f.fractionBits + 1)) (ht : f.leastPlace ≤ t) : c * p2 t ≤ v := by
  obtain ⟨l, kept, hv, hl, hk, h1, h2, h3, h5⟩ := h
  have hp := p2_pos l
  subst hv
  by_cases hlt : l ≤ t
  · obtain ⟨n, hn⟩ := units_of (F := f.fractionBits) hc (Or.inr hlt)
    rw [hn] at hX ⊢
    have hkn : n ≤ kept := by
      apply Classical.byContradiction
      intro hcon
      have h3 : ((kept + 1 : Nat) : Rat) ≤ (n : Rat) := by exact_mod_cast (show kept + 1 ≤ n by omega)
      have h4 := Rat.mul_le_mul_of_nonneg_right h3 (Rat.le_of_lt hp)
      push_cast at h4
      grind
    have h3 : (n : Rat) ≤ (kept : Rat) := by exact_mod_cast hkn
    exact Rat.mul_le_mul_of_nonneg_right h3 (Rat.le_of_lt hp)
  · -- l above t: X has all its digits, so what is kept is at least a full binade
    rcases h3 with h3 | h3
    · omega
    · have hkn : 2 ^ f.fractionBits ≤ kept := by
        apply Classical.byContradiction
        intro hcon
        have h6 : ((kept + 1 : Nat) : Rat) ≤ ((2 ^ f.fractionBits : Nat) : Rat) := by exact_mod_cast (show kept + 1 ≤ 2 ^ f.fractionBits by omega)
        have h4 := Rat.mul_le_mul_of_nonneg_right h6 (Rat.le_of_lt hp)
        rw [← p2_nat, ← p2_add, Int.add_comm] at h4
        push_cast at h4
        grind
      have h6 : ((2 ^ f.fractionBits : Nat) : Rat) ≤ (kept : Rat) := by exact_mod_cast hkn
      have h4 := Rat.mul_le_mul_of_nonneg_right h6 (Rat.le_of_lt hp)
      rw [← p2_nat, ← p2_add] at h4
      have hcr : (c : Rat) ≤ ((2 ^ (f.fractionBits + 1) : Nat) : Rat) := by exact_mod_cast hc
      have h7 := Rat.mul_le_mul_of_nonneg_right hcr (Rat.le_of_lt (p2_pos t))
      rw [← p2_nat, ← p2_add] at h7
      have h8 := p2_mono (a := ((f.fractionBits + 1 : Nat) : Int) + t) (b := (f.fractionBits : Int) + l) (by omega)
      grind

theorem half_p2 (l : Int) : p2 l / 2 = p2 (l - 1) := by
  have := p2_succ (l - 1); rw [Int.sub_add_cancel] at this; grind

/-- the error, where all digits are kept -/
theorem Near.rel {f : Format} {X v : Rat} (h : Near f X v) (hX : p2 (f.leastPlace + f.fractionBits) ≤ X) :
    v ≤ X + X * p2 (-(f.fractionBits + 1 : Int)) ∧ X ≤ v + X * p2 (-(f.fractionBits + 1 : Int)) := by
  obtain ⟨l, kept, hv, hl, hk, h1, h2, h3, h5⟩ := h
  have h6 : p2 (l + f.fractionBits) ≤ X := by rcases h3 with rfl | h3 <;> assumption
  have h7 := Rat.mul_le_mul_of_nonneg_right h6 (Rat.le_of_lt (p2_pos (-(f.fractionBits + 1 : Int))))
  rw [← p2_add, show l + (f.fractionBits : Int) + -((f.fractionBits : Int) + 1) = l - 1 by omega, ← half_p2] at h7
  grind

/-- the error below a power of two -/
theorem Near.ulp {f : Format} {X v : Rat} (h : Near f X v) {j : Int} (hX : X < p2 (j + 1)) (hj : f.leastPlace + f.fractionBits ≤ j) :
    v ≤ X + p2 (j - f.fractionBits - 1) ∧ X ≤ v + p2 (j - f.fractionBits - 1) := by
  obtain ⟨l, kept, hv, hl, hk, h1, h2, h3, h5⟩ := h
  have h6 : l ≤ j - f.fractionBits := by
    rcases h3 with h3 | h3
    · omega
    · have : p2 (l + f.fractionBits) < p2 (j + 1) := by grind
      have := p2_lt_iff.1 this
      omega
  rw [half_p2] at h1 h2
  have := p2_mono (a := l - 1) (b := j - f.fractionBits - 1) (by omega)
  grind

/-- the error, always -/
theorem Near.abs {f : Format} {X v : Rat} (h : Near f X v) (h0 : 0 ≤ X) :
    v ≤ X + X * p2 (-(f.fractionBits + 1 : Int)) + p2 (f.leastPlace - 1) ∧ X ≤ v + X * p2 (-(f.fractionBits + 1 : Int)) + p2 (f.leastPlace - 1) := by
  have hp := p2_pos (f.leastPlace - 1)
  by_cases hX : p2 (f.leastPlace + f.fractionBits) ≤ X
  · have := h.rel hX; grind
  · have hx : X < p2 (f.leastPlace + f.fractionBits - 1 + 1) := by rw [Int.sub_add_cancel]; grind
    obtain ⟨l, kept, hv, hl, hk, h1, h2, h3, h5⟩ := h
    have h6 : l = f.leastPlace := by
      rcases h3 with h3 | h3
      · exact h3
      · have h9 : p2 (l + f.fractionBits) < p2 (f.leastPlace + f.fractionBits) := by grind
        have := p2_lt_iff.1 h9
        omega
    subst h6
    rw [half_p2] at h1 h2
    have hv0 : (0 : Rat) ≤ kept * p2 f.leastPlace := Rat.mul_nonneg (by exact_mod_cast Nat.zero_le kept) (Rat.le_of_lt (p2_pos _))
    have hq := p2_pos (-(f.fractionBits + 1 : Int))
    have := Rat.mul_nonneg h0 (Rat.le_of_lt hq)
    grind

end Go.Proofs.Ytgjfpclpnobggaa
