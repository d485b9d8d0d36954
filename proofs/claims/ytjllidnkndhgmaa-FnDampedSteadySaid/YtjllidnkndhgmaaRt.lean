/- The root by sixty steps, told in rational numbers: its square is the number but for a very small part. No program. -/
import Derived.Test.YtjllidnkndhgmaaIo
import Derived.Test.YtjllidnkndhgmaaFt
namespace Go.Proofs.Ytjllidnkndhgmaa
open Ieee

def e53 : Rat := p2 (-53)
theorem e53_pos : 0 < e53 := p2_pos _
theorem e53_small : e53 < 1 / 1000000000000000 := by
  have h := p2_neg 53
  have : p2 53 = 9007199254740992 := by have := p2_nat 53; simpa using this
  rw [this] at h
  unfold e53
  have hp := p2_pos (-53)
  grind

theorem fb64 : FloatKind.f64.format.fractionBits = 52 := rfl
theorem lp64 : FloatKind.f64.format.leastPlace = -1074 := by decide
theorem em64 : emax FloatKind.f64.format = 1023 := by decide

/-- a positive exact value in the middle of the range, rounded -/
theorem near_rel64 {X v : Rat} (h : NearS FloatKind.f64.format X v) (h0 : p2 (-1000) ≤ X) : v ≤ X * (1 + e53) ∧ X * (1 - e53) ≤ v ∧ 0 < v := by
  have hp := p2_pos (-1000)
  have hN : Near FloatKind.f64.format X v := by
    rcases h with ⟨h, _⟩ | ⟨_, h⟩ | ⟨h, _⟩
    · grind
    · exact h
    · grind
  have hle : p2 (FloatKind.f64.format.leastPlace + FloatKind.f64.format.fractionBits) ≤ X := by
    have := p2_mono (a := -1022) (b := -1000) (by omega)
    rw [lp64, fb64]
    have e : (-1074 + ((52 : Nat) : Int)) = -1022 := by omega
    rw [e]; grind
  have hr := hN.rel hle
  have e : (-(((FloatKind.f64.format.fractionBits : Nat) : Int) + 1)) = -53 := by rw [fb64]; omega
  rw [e] at hr
  have hs := e53_small
  have hX : 0 < X := by grind
  have hm := Rat.mul_lt_mul_of_pos_left hs hX
  unfold e53 at *
  refine ⟨by grind, by grind, by grind⟩

theorem add_rel {x y : Nat} (hx : Fnt .f64 x) (hy : Fnt .f64 y) (h0 : p2 (-1000) ≤ V .f64 x + V .f64 y) (h1 : V .f64 x + V .f64 y ≤ p2 1000) :
    ∃ r, floatBits .add .f64 x y = some r ∧ Fnt .f64 r ∧ V .f64 r ≤ (V .f64 x + V .f64 y) * (1 + e53) ∧ (V .f64 x + V .f64 y) * (1 - e53) ≤ V .f64 r ∧ 0 < V .f64 r := by
  have hp := p2_pos (-1000)
  have hm := p2_lt (a := 1000) (b := 1023) (by omega)
  obtain ⟨r, h, hf, hn⟩ := add_fin .f64 hx hy (by rw [em64]; constructor <;> grind)
  have := near_rel64 hn h0
  exact ⟨r, h, hf, this.1, this.2.1, this.2.2⟩
theorem mul_rel {x y : Nat} (hx : Fnt .f64 x) (hy : Fnt .f64 y) (h0 : p2 (-1000) ≤ V .f64 x * V .f64 y) (h1 : V .f64 x * V .f64 y ≤ p2 1000) :
    ∃ r, floatBits .mul .f64 x y = some r ∧ Fnt .f64 r ∧ V .f64 r ≤ (V .f64 x * V .f64 y) * (1 + e53) ∧ (V .f64 x * V .f64 y) * (1 - e53) ≤ V .f64 r ∧ 0 < V .f64 r := by
  have hp := p2_pos (-1000)
  have hm := p2_lt (a := 1000) (b := 1023) (by omega)
  obtain ⟨r, h, hf, hn⟩ := mul_fin .f64 hx hy (by rw [em64]; constructor <;> grind)
  have := near_rel64 hn h0
  exact ⟨r, h, hf, this.1, this.2.1, this.2.2⟩
theorem div_rel {x y : Nat} (hx : Fnt .f64 x) (hy : Fnt .f64 y) (hz : V .f64 y ≠ 0) (h0 : p2 (-1000) ≤ V .f64 x / V .f64 y) (h1 : V .f64 x / V .f64 y ≤ p2 1000) :
    ∃ r, floatBits .quo .f64 x y = some r ∧ Fnt .f64 r ∧ V .f64 r ≤ (V .f64 x / V .f64 y) * (1 + e53) ∧ (V .f64 x / V .f64 y) * (1 - e53) ≤ V .f64 r ∧ 0 < V .f64 r := by
  have hp := p2_pos (-1000)
  have hm := p2_lt (a := 1000) (b := 1023) (by omega)
  obtain ⟨r, h, hf, hn⟩ := div_fin .f64 hx hy hz (by rw [em64]; constructor <;> grind)
  have := near_rel64 hn h0
  exact ⟨r, h, hf, this.1, this.2.1, this.2.2⟩

theorem fc_fnt {k : FloatKind} {b : Nat} (h : Fnt k b) : fc k b = some b := by
  obtain ⟨s, M, E, hr⟩ := h
  exact fc_of_notNaN (by rw [hr]; rfl)

theorem two_fnt : Fnt .f64 4611686018427387904 ∧ V .f64 4611686018427387904 = 2 := by
  have hr : FloatKind.f64.format.read 4611686018427387904 = .number false 4503599627370496 (-51) := by decide +kernel
  refine ⟨⟨_, _, _, hr⟩, ?_⟩
  rw [V_eq hr]
  have h := p2_neg 51
  have : p2 51 = 2251799813685248 := by have := p2_nat 51; simpa using this
  rw [this] at h
  simp only [sg]
  grind

theorem rle_div {a b c : Rat} (hc : 0 < c) : a ≤ b / c ↔ a * c ≤ b := by
  rw [← Rat.not_lt, ← Rat.not_lt, Rat.div_lt_iff hc]
theorem rdiv_le {a b c : Rat} (hc : 0 < c) : b / c ≤ a ↔ b ≤ a * c := by
  rw [← Rat.not_lt, ← Rat.not_lt, Rat.lt_div_iff hc]
theorem sq_le {G B : Rat} (_hG : 0 ≤ G) (hB : 0 ≤ B) (h : G * G ≤ B * B) : G ≤ B := by
  rcases (Rat.le_total : G ≤ B ∨ B ≤ G) with h1 | h1
  · exact h1
  · rcases Rat.le_iff_lt_or_eq.1 h1 with h2 | h2
    · have h3 := Rat.mul_le_mul_of_nonneg_left h1 hB
      have h4 : 0 < G := by grind
      have h5 := Rat.mul_lt_mul_of_pos_right h2 h4
      grind
    · grind

/-- one step: half of the sum of G and the quotient, but for three roundings -/
theorem step_val {x g : Nat} (hx : Fnt .f64 x) (hg : Fnt .f64 g) (hG0 : 0 < V .f64 g) (hlo : p2 (-100) ≤ V .f64 g) (hhi : V .f64 g ≤ p2 100)
    (hx0 : p2 (-100) ≤ V .f64 x) (hx1 : V .f64 x ≤ p2 100) :
    ∃ r, rstep (fc .f64 x) (fc .f64 g) = some r ∧ Fnt .f64 r ∧
      V .f64 r ≤ (V .f64 g + V .f64 x / V .f64 g) / 2 * (1 + 4 * e53) ∧ (V .f64 g + V .f64 x / V .f64 g) / 2 * (1 - 4 * e53) ≤ V .f64 r ∧ 0 < V .f64 r := by
  have hp := p2_pos (-100)
  have hp2 := p2_pos (-1000)
  have hX0 : 0 < V .f64 x := by grind
  have he := e53_pos
  have hs := e53_small
  -- the quotient's range
  have hQ0 : p2 (-200) ≤ V .f64 x / V .f64 g := by
    rw [rle_div hG0]
    have h1 := Rat.mul_le_mul_of_nonneg_left hhi (Rat.le_of_lt (p2_pos (-200)))
    rw [← p2_add] at h1
    have : (-200 + 100 : Int) = -100 := by omega
    rw [this] at h1
    grind
  have hQ1 : V .f64 x / V .f64 g ≤ p2 200 := by
    rw [rdiv_le hG0]
    have h1 := Rat.mul_le_mul_of_nonneg_left hlo (Rat.le_of_lt (p2_pos 200))
    rw [← p2_add] at h1
    have : (200 + -100 : Int) = 100 := by omega
    rw [this] at h1
    grind
  have m1 := p2_mono (a := -1000) (b := -200) (by omega)
  have m2 := p2_mono (a := 200) (b := 1000) (by omega)
  have m3 := p2_mono (a := -1000) (b := -100) (by omega)
  obtain ⟨q, hq, hqf, q1, q2, q0⟩ := div_rel hx hg (Rat.ne_of_gt hG0) (by grind) (by grind)
  generalize V .f64 x / V .f64 g = Q at *
  -- the sum's range
  have hp200 := p2_succ 200
  have m4 := p2_mono (a := 201) (b := 1000) (by omega)
  have m5 := p2_mono (a := 100) (b := 200) (by omega)
  have hqle : V .f64 q ≤ 2 * Q := by
    have hQp : 0 < Q := by have := p2_pos (-200); grind
    have := Rat.mul_lt_mul_of_pos_left hs hQp
    grind
  have m6 := p2_mono (a := 202) (b := 1000) (by omega)
  have hp201 := p2_succ 201
  simp only [show (200 + 1 : Int) = 201 from rfl, show (201 + 1 : Int) = 202 from rfl] at hp200 hp201
  obtain ⟨s, hsm, hsf, s1, s2, s0⟩ := add_rel hg hqf (by grind) (by have := p2_pos 200; grind)
  have h2 := two_fnt
  have m7 := p2_mono (a := 203) (b := 1000) (by omega)
  have hp202 := p2_succ 202
  simp only [show (202 + 1 : Int) = 203 from rfl] at hp202
  have m8 := p2_mono (a := -999) (b := -200) (by omega)
  have hpm := p2_succ (-1000)
  simp only [show (-1000 + 1 : Int) = -999 from rfl] at hpm
  have hsle : V .f64 s ≤ 2 * (V .f64 g + V .f64 q) := by
    have hQp : 0 < V .f64 g + V .f64 q := by grind
    have := Rat.mul_lt_mul_of_pos_left hs hQp
    grind
  have hsge : V .f64 g ≤ 2 * V .f64 s := by
    have hQp : 0 < V .f64 g + V .f64 q := by grind
    have := Rat.mul_lt_mul_of_pos_left hs hQp
    grind
  have m9 := p2_mono (a := -998) (b := -100) (by omega)
  have hpm2 := p2_succ (-999)
  simp only [show (-999 + 1 : Int) = -998 from rfl] at hpm2
  have hdiv : V .f64 s / V .f64 4611686018427387904 = V .f64 s / 2 := by rw [h2.2]
  obtain ⟨r, hr, hrf, r1, r2, r0⟩ := div_rel hsf h2.1 (by rw [h2.2]; decide) (by rw [hdiv]; grind) (by rw [hdiv]; have := p2_pos 200; grind)
  rw [hdiv] at r1 r2
  refine ⟨r, ?_, hrf, ?_, ?_, r0⟩
  · unfold rstep
    rw [fc_fnt hx, fc_fnt hg]
    have e1 : fop .quo .f64 (some x) (some g) = some q := hq
    rw [e1]
    have e2 : fop .add .f64 (some g) (some q) = some s := hsm
    rw [e2, fc_fnt h2.1]
    exact hr
  · -- upward
    have hQp : 0 < Q := by have := p2_pos (-200); grind
    have a1 : V .f64 q ≤ Q * (1 + e53) := q1
    have a2 : V .f64 g + V .f64 q ≤ (V .f64 g + Q) * (1 + e53) := by
      have := Rat.mul_pos hG0 he
      grind
    have a3 := Rat.mul_le_mul_of_nonneg_right a2 (show 0 ≤ 1 + e53 by grind)
    have a4 : V .f64 s ≤ (V .f64 g + Q) * (1 + e53) * (1 + e53) := by grind
    have a5 := Rat.mul_le_mul_of_nonneg_right a4 (show 0 ≤ 1 + e53 by grind)
    have a6 : (1 + e53) * (1 + e53) * (1 + e53) ≤ 1 + 4 * e53 := by
      have b1 := Rat.mul_lt_mul_of_pos_left hs he
      have b2 := Rat.mul_pos he he
      have b3 := Rat.mul_lt_mul_of_pos_left hs b2
      grind
    have a7 := Rat.mul_le_mul_of_nonneg_left a6 (show 0 ≤ (V .f64 g + Q) / 2 by grind)
    grind
  · have hQp : 0 < Q := by have := p2_pos (-200); grind
    have a2 : (V .f64 g + Q) * (1 - e53) ≤ V .f64 g + V .f64 q := by
      have := Rat.mul_pos hG0 he
      grind
    have a3 := Rat.mul_le_mul_of_nonneg_right a2 (show 0 ≤ 1 - e53 by grind)
    have a4 : (V .f64 g + Q) * (1 - e53) * (1 - e53) ≤ V .f64 s := by grind
    have a5 := Rat.mul_le_mul_of_nonneg_right a4 (show 0 ≤ 1 - e53 by grind)
    have a6 : 1 - 4 * e53 ≤ (1 - e53) * (1 - e53) * (1 - e53) := by
      have b1 := Rat.mul_lt_mul_of_pos_left hs he
      have b2 := Rat.mul_pos he he
      have b3 := Rat.mul_lt_mul_of_pos_left hs b2
      grind
    have a7 := Rat.mul_le_mul_of_nonneg_left a6 (show 0 ≤ (V .f64 g + Q) / 2 by grind)
    grind

theorem sq_step {G X H E : Rat} (hG : 0 < G) (hX : 0 < X) (h1 : H ≤ (G + X / G) / 2 * (1 + 4 * e53)) (h2 : (G + X / G) / 2 * (1 - 4 * e53) ≤ H) (h0 : 0 < H)
    (hD : (G * G - X) * (G * G - X) ≤ 4 * (G * G) * X * E) : X * (1 - 8 * e53) ≤ H * H ∧ H * H ≤ X * (1 + E) * (1 + 9 * e53) := by
  have he := e53_pos
  have hs := e53_small
  have hee := Rat.mul_lt_mul_of_pos_left hs he
  have hQG : X / G * G = X := by have := Rat.ne_of_gt hG; grind
  have hQ : 0 < X / G := rdiv_pos hX hG
  generalize X / G = Q at *
  have hMp : 0 < (G + Q) / 2 := by grind
  have hM1 : X ≤ (G + Q) / 2 * ((G + Q) / 2) := by
    have : 0 ≤ (G - Q) * (G - Q) := by
      rcases (Rat.le_total : 0 ≤ G - Q ∨ G - Q ≤ 0) with h | h
      · exact Rat.mul_nonneg h h
      · have h' : 0 ≤ -(G - Q) := by grind
        have := Rat.mul_nonneg h' h'
        grind
    grind
  have hGG : 0 < 4 * (G * G) := by have := Rat.mul_pos hG hG; grind
  have hM2 : (G + Q) / 2 * ((G + Q) / 2) ≤ X * (1 + E) := by
    have h3 : 4 * (G * G) * ((G + Q) / 2 * ((G + Q) / 2)) ≤ 4 * (G * G) * (X * (1 + E)) := by
      have e1 : 4 * (G * G) * ((G + Q) / 2 * ((G + Q) / 2)) = (G * G + Q * G) * (G * G + Q * G) := by grind
      rw [e1, hQG]
      grind
    exact Rat.le_of_mul_le_mul_left h3 hGG
  generalize (G + Q) / 2 = M at *
  have hMM : 0 < M * M := Rat.mul_pos hMp hMp
  constructor
  · have a1 : 0 ≤ M * (1 - 4 * e53) := Rat.mul_nonneg (Rat.le_of_lt hMp) (by grind)
    have a2 := Rat.mul_le_mul_of_nonneg_left h2 a1
    have a3 := Rat.mul_le_mul_of_nonneg_right h2 (Rat.le_of_lt h0)
    have a4 : M * (1 - 4 * e53) * (M * (1 - 4 * e53)) ≤ H * H := by grind
    have a5 : M * M * (1 - 8 * e53) ≤ M * (1 - 4 * e53) * (M * (1 - 4 * e53)) := by
      have := Rat.mul_nonneg (Rat.le_of_lt hMM) (Rat.le_of_lt (Rat.mul_pos he he))
      grind
    have a6 := Rat.mul_le_mul_of_nonneg_right hM1 (show 0 ≤ 1 - 8 * e53 by grind)
    grind
  · have a1 := Rat.mul_le_mul_of_nonneg_left h1 (Rat.le_of_lt h0)
    have a2 := Rat.mul_le_mul_of_nonneg_right h1 (show 0 ≤ M * (1 + 4 * e53) from Rat.mul_nonneg (Rat.le_of_lt hMp) (by grind))
    have a4 : H * H ≤ M * (1 + 4 * e53) * (M * (1 + 4 * e53)) := by grind
    have a5 : M * (1 + 4 * e53) * (M * (1 + 4 * e53)) ≤ M * M * (1 + 9 * e53) := by
      have := Rat.mul_lt_mul_of_pos_left hee hMM
      have := Rat.mul_pos hMM he
      grind
    have a6 := Rat.mul_le_mul_of_nonneg_right hM2 (show 0 ≤ 1 + 9 * e53 by grind)
    grind

/-- k steps from g: a number whose square is X but for a part U -/
def Inv (x g : Nat) (U : Rat) (k : Nat) : Prop :=
  ∃ r, riter (fc .f64 x) (fc .f64 g) k = some r ∧ Fnt .f64 r ∧ 0 < V .f64 r ∧ V .f64 x * (1 - 8 * e53) ≤ V .f64 r * V .f64 r ∧ V .f64 r * V .f64 r ≤ V .f64 x * (1 + U)

def Mid (x : Nat) : Prop := Fnt .f64 x ∧ p2 (-40) ≤ V .f64 x ∧ V .f64 x ≤ p2 57

theorem Inv.mono {x g : Nat} {U U' : Rat} {k : Nat} (hx : Mid x) (h : Inv x g U k) (hU : U ≤ U') : Inv x g U' k := by
  obtain ⟨r, h1, h2, h3, h4, h5⟩ := h
  have := p2_pos (-40)
  have h6 := Rat.mul_le_mul_of_nonneg_left hU (show 0 ≤ V .f64 x by have := hx.2.1; grind)
  exact ⟨r, h1, h2, h3, h4, by grind⟩

theorem Inv.step {x g : Nat} {U E : Rat} {k : Nat} (hx : Mid x) (h : Inv x g U k) (hU : U ≤ p2 58)
    (hE : ∀ G : Rat, 0 < G → V .f64 x * (1 - 8 * e53) ≤ G * G → G * G ≤ V .f64 x * (1 + U) → (G * G - V .f64 x) * (G * G - V .f64 x) ≤ 4 * (G * G) * V .f64 x * E) :
    Inv x g (E + 9 * e53 * (1 + E)) (k + 1) := by
  obtain ⟨r, h1, h2, h3, h4, h5⟩ := h
  obtain ⟨hxf, hx0, hx1⟩ := hx
  have hp := p2_pos (-40)
  have hX : 0 < V .f64 x := by grind
  have he := e53_pos
  have hs := e53_small
  have hlo : p2 (-100) ≤ V .f64 r := by
    refine sq_le (Rat.le_of_lt (p2_pos _)) (Rat.le_of_lt h3) ?_
    rw [← p2_add]
    have m := p2_mono (a := -100 + -100) (b := -41) (by omega)
    have m2 := p2_succ (-41)
    simp only [show (-41 + 1 : Int) = -40 from rfl] at m2
    have := Rat.mul_lt_mul_of_pos_left hs hX
    grind
  have hhi : V .f64 r ≤ p2 100 := by
    refine sq_le (Rat.le_of_lt h3) (Rat.le_of_lt (p2_pos _)) ?_
    rw [← p2_add]
    have a1 : 1 + U ≤ p2 59 := by
      have := p2_succ 58
      simp only [show (58 + 1 : Int) = 59 from rfl] at this
      have h0 := p2_mono (a := 0) (b := 58) (by omega)
      rw [p2_zero] at h0
      grind
    have a2 := Rat.mul_le_mul_of_nonneg_left a1 (Rat.le_of_lt hX)
    have a3 := Rat.mul_le_mul_of_nonneg_right hx1 (Rat.le_of_lt (p2_pos 59))
    rw [← p2_add] at a3
    have m := p2_mono (a := 57 + 59) (b := 100 + 100) (by omega)
    grind
  have m1 := p2_mono (a := -100) (b := -40) (by omega)
  have m2 := p2_mono (a := 57) (b := 100) (by omega)
  obtain ⟨q, q1, q2, q3, q4, q5⟩ := step_val hxf h2 h3 hlo hhi (by grind) (by grind)
  have hsq := sq_step h3 hX q3 q4 q5 (hE _ h3 h4 h5)
  refine ⟨q, ?_, q2, q5, hsq.1, ?_⟩
  · show rstep (fc .f64 x) (riter (fc .f64 x) (fc .f64 g) k) = some q
    rw [h1, ← fc_fnt h2]; exact q1
  · have : V .f64 x * (1 + E) * (1 + 9 * e53) = V .f64 x * (1 + (E + 9 * e53 * (1 + E))) := by grind
    rw [← this]; exact hsq.2

theorem e53_sq : e53 * e53 < e53 / 1000000000000000 := by
  have := Rat.mul_lt_mul_of_pos_left e53_small e53_pos
  grind

/-- far off: the part falls to a third -/
theorem Inv.far {x g : Nat} {U : Rat} {k : Nat} (hx : Mid x) (h : Inv x g U k) (h1 : 1 ≤ U) (hU : U ≤ p2 58) : Inv x g (U / 3) (k + 1) := by
  have he := e53_pos
  have hs := e53_small
  have hee := e53_sq
  have hp := p2_pos (-40)
  have hX : 0 < V .f64 x := by have := hx.2.1; grind
  have hXX := Rat.mul_pos hX hX
  refine Inv.mono hx (Inv.step (E := U / 4 + 64 * (e53 * e53)) hx h hU ?_) ?_
  · intro G hG a b
    have hGG := Rat.mul_pos hG hG
    have hep := Rat.mul_pos he he
    generalize G * G = S at *
    rcases (Rat.le_total : V .f64 x ≤ S ∨ S ≤ V .f64 x) with hc | hc
    · -- D between 0 and U X
      have d1 : (S - V .f64 x) * (S - V .f64 x) ≤ (S - V .f64 x) * (U * V .f64 x) := Rat.mul_le_mul_of_nonneg_left (by grind) (by grind)
      have d2 : (S - V .f64 x) * (U * V .f64 x) ≤ S * (U * V .f64 x) := by
        have := Rat.mul_nonneg (Rat.le_of_lt hX) (show 0 ≤ U * V .f64 x from Rat.mul_nonneg (by grind) (Rat.le_of_lt hX))
        grind
      have d3 : 0 ≤ 4 * S * V .f64 x * (64 * (e53 * e53)) := by
        have := Rat.mul_pos (Rat.mul_pos hGG hX) hep
        grind
      grind
    · have d1 : (V .f64 x - S) * (V .f64 x - S) ≤ (V .f64 x - S) * (V .f64 x * (8 * e53)) := Rat.mul_le_mul_of_nonneg_left (by grind) (by grind)
      have d2 : (V .f64 x - S) * (V .f64 x * (8 * e53)) ≤ V .f64 x * (8 * e53) * (V .f64 x * (8 * e53)) := Rat.mul_le_mul_of_nonneg_right (by grind) (Rat.mul_nonneg (Rat.le_of_lt hX) (by grind))
      have d3 : V .f64 x ≤ 4 * S := by
        have := Rat.mul_lt_mul_of_pos_left hs hX
        grind
      have d4 := Rat.mul_le_mul_of_nonneg_right d3 (show 0 ≤ V .f64 x * (64 * (e53 * e53)) from Rat.mul_nonneg (Rat.le_of_lt hX) (by grind))
      have d5 : 0 ≤ 4 * S * V .f64 x * (U / 4) := by
        have := Rat.mul_nonneg (Rat.le_of_lt (Rat.mul_pos hGG hX)) (show 0 ≤ U by grind)
        grind
      grind
  · have := Rat.mul_le_mul_of_nonneg_right (Rat.le_of_lt hs) (show 0 ≤ U by grind)
    have := Rat.mul_pos he (Rat.mul_pos he he)
    have := Rat.mul_lt_mul_of_pos_left hee he
    grind

/-- near: the part is squared -/
theorem Inv.near {x g : Nat} {U : Rat} {k : Nat} (hx : Mid x) (h : Inv x g U k) (h0 : 0 ≤ U) (h1 : U ≤ 1) : Inv x g (U * U / 4 + 12 * e53) (k + 1) := by
  have he := e53_pos
  have hs := e53_small
  have hee := e53_sq
  have hp := p2_pos (-40)
  have hX : 0 < V .f64 x := by have := hx.2.1; grind
  have hXX := Rat.mul_pos hX hX
  have hUU : 0 ≤ U * U := Rat.mul_nonneg h0 h0
  have hU1 : U * U ≤ 1 := by have := Rat.mul_le_mul_of_nonneg_left h1 h0; grind
  have h58 := p2_mono (a := 0) (b := 58) (by omega)
  rw [p2_zero] at h58
  refine Inv.mono hx (Inv.step (E := U * U / 4 + 64 * (e53 * e53)) hx h (by grind) ?_) ?_
  · intro G hG a b
    have hGG := Rat.mul_pos hG hG
    have hep := Rat.mul_pos he he
    generalize G * G = S at *
    rcases (Rat.le_total : V .f64 x ≤ S ∨ S ≤ V .f64 x) with hc | hc
    · have d1 : (S - V .f64 x) * (S - V .f64 x) ≤ (S - V .f64 x) * (U * V .f64 x) := Rat.mul_le_mul_of_nonneg_left (by grind) (by grind)
      have d2 : (S - V .f64 x) * (U * V .f64 x) ≤ U * V .f64 x * (U * V .f64 x) := Rat.mul_le_mul_of_nonneg_right (by grind) (Rat.mul_nonneg h0 (Rat.le_of_lt hX))
      have d3 : V .f64 x * (V .f64 x * (U * U)) ≤ S * (V .f64 x * (U * U)) := Rat.mul_le_mul_of_nonneg_right hc (Rat.mul_nonneg (Rat.le_of_lt hX) hUU)
      have d4 : 0 ≤ 4 * S * V .f64 x * (64 * (e53 * e53)) := by
        have := Rat.mul_pos (Rat.mul_pos hGG hX) hep
        grind
      grind
    · have d1 : (V .f64 x - S) * (V .f64 x - S) ≤ (V .f64 x - S) * (V .f64 x * (8 * e53)) := Rat.mul_le_mul_of_nonneg_left (by grind) (by grind)
      have d2 : (V .f64 x - S) * (V .f64 x * (8 * e53)) ≤ V .f64 x * (8 * e53) * (V .f64 x * (8 * e53)) := Rat.mul_le_mul_of_nonneg_right (by grind) (Rat.mul_nonneg (Rat.le_of_lt hX) (by grind))
      have d3 : V .f64 x ≤ 4 * S := by
        have := Rat.mul_lt_mul_of_pos_left hs hX
        grind
      have d4 := Rat.mul_le_mul_of_nonneg_right d3 (show 0 ≤ V .f64 x * (64 * (e53 * e53)) from Rat.mul_nonneg (Rat.le_of_lt hX) (by grind))
      have d5 : 0 ≤ 4 * S * V .f64 x * (U * U / 4) := by
        have := Rat.mul_nonneg (Rat.le_of_lt (Rat.mul_pos hGG hX)) hUU
        grind
      grind
  · have := Rat.mul_le_mul_of_nonneg_right hU1 (Rat.le_of_lt he)
    have := Rat.mul_lt_mul_of_pos_left hee he
    grind

theorem Inv.fars {x g : Nat} (hx : Mid x) : ∀ (j k : Nat) (U : Rat), Inv x g U k → 3 ^ j ≤ 3 * U → U ≤ p2 58 → Inv x g (U / 3 ^ j) (k + j)
  | 0, k, U, h, _, _ => by
    have e : U / 3 ^ 0 = U := by rw [Rat.pow_zero]; grind
    rw [e]; exact h
  | j + 1, k, U, h, h1, h2 => by
    have h3 : (1 : Rat) ≤ 3 ^ j := by
      have : 1 ≤ 3 ^ j := Nat.one_le_pow _ _ (by decide)
      exact_mod_cast this
    have hU : 1 ≤ U := by
      rw [Rat.pow_succ] at h1
      grind
    have h4 := Inv.far hx h hU h2
    have h5 := Inv.fars hx j (k + 1) (U / 3) h4 (by rw [Rat.pow_succ] at h1; grind) (by grind)
    have e1 : k + 1 + j = k + (j + 1) := by omega
    have e2 : U / 3 / 3 ^ j = U / 3 ^ (j + 1) := by
      rw [Rat.pow_succ]
      have : (3 : Rat) ^ j ≠ 0 := by grind
      grind
    rw [e1, e2] at h5
    exact h5

theorem Inv.stay {x g : Nat} (hx : Mid x) : ∀ (j k : Nat), Inv x g (2 / 1000000000000000) k → Inv x g (2 / 1000000000000000) (k + j)
  | 0, k, h => h
  | j + 1, k, h => by
    have hs := e53_small
    have h53 : e53 < 112 / 1000000000000000000 := by
      have h := p2_neg 53
      have : p2 53 = 9007199254740992 := by have := p2_nat 53; simpa using this
      rw [this] at h
      unfold e53
      grind
    have h4 := (Inv.near hx h (by grind) (by grind)).mono hx (U' := 2 / 1000000000000000) (by grind)
    have h5 := Inv.stay hx j (k + 1) h4
    have e1 : k + 1 + j = k + (j + 1) := by omega
    rw [e1] at h5; exact h5

/-- many steps from a start that is not below -/
theorem inv_late {x g : Nat} (hx : Mid x) (hg : Fnt .f64 g) (h0 : 0 < V .f64 g) (h1 : V .f64 x ≤ V .f64 g * V .f64 g) (h2 : V .f64 g * V .f64 g ≤ V .f64 x * p2 57) (j : Nat) :
    Inv x g (2 / 1000000000000000) (41 + j) := by
  have he := e53_pos
  have h53 : e53 < 112 / 1000000000000000000 := by
    have h := p2_neg 53
    have : p2 53 = 9007199254740992 := by have := p2_nat 53; simpa using this
    rw [this] at h
    unfold e53
    grind
  have hp := p2_pos (-40)
  have hX : 0 < V .f64 x := by have := hx.2.1; grind
  have h57 : p2 57 = 144115188075855872 := by have := p2_nat 57; simpa using this
  have h58 : p2 58 = 288230376151711744 := by have := p2_nat 58; simpa using this
  have i0 : Inv x g (p2 57) 0 := by
    refine ⟨g, ?_, hg, h0, ?_, ?_⟩
    · show fc .f64 g = some g
      exact fc_fnt hg
    · have := Rat.mul_pos hX he; grind
    · grind
  have i36 := Inv.fars hx 36 0 (p2 57) i0 (by rw [h57]; decide +kernel) (by rw [h57, h58]; decide +kernel)
  have j0 : Inv x g 1 36 := i36.mono hx (by rw [h57]; decide +kernel)
  have j1 : Inv x g (1 / 3) 37 := (j0.near hx (by grind) (by grind)).mono hx (by grind)
  have j2 : Inv x g (1 / 32) 38 := (j1.near hx (by grind) (by grind)).mono hx (by grind)
  have j3 : Inv x g (1 / 4000) 39 := (j2.near hx (by grind) (by grind)).mono hx (by grind)
  have j4 : Inv x g (1 / 60000000) 40 := (j3.near hx (by grind) (by grind)).mono hx (by grind)
  have j5 : Inv x g (2 / 1000000000000000) 41 := (j4.near hx (by grind) (by grind)).mono hx (by grind)
  exact j5.stay hx j 41
theorem inv_sixty {x g : Nat} (hx : Mid x) (hg : Fnt .f64 g) (h0 : 0 < V .f64 g) (h1 : V .f64 x ≤ V .f64 g * V .f64 g) (h2 : V .f64 g * V .f64 g ≤ V .f64 x * p2 57) :
    Inv x g (2 / 1000000000000000) 60 := inv_late hx hg h0 h1 h2 19

theorem min_fnt : Fnt .f64 4427486594234968593 ∧ p2 (-40) ≤ V .f64 4427486594234968593 := by
  have hr : FloatKind.f64.format.read 4427486594234968593 = .number false 4951760157141521 (-92) := by decide +kernel
  refine ⟨⟨_, _, _, hr⟩, ?_⟩
  rw [V_eq hr]
  have h : p2 (-40) = p2 52 * p2 (-92) := by rw [← p2_add]; rfl
  have h2 : p2 52 = 4503599627370496 := by have := p2_nat 52; simpa using this
  have hp := p2_pos (-92)
  rw [h, h2]
  simp only [sg]
  grind
theorem max_fnt : Fnt .f64 4861130398305394688 ∧ V .f64 4861130398305394688 ≤ p2 57 := by
  have hr : ∃ M E, FloatKind.f64.format.read 4861130398305394688 = .number false M E ∧ M < 2 ^ 53 ∧ E = 4 := by
    refine ⟨6250000000000000, 4, by decide +kernel, by decide, rfl⟩
  obtain ⟨M, E, hr, hM, rfl⟩ := hr
  refine ⟨⟨_, _, _, hr⟩, ?_⟩
  rw [V_eq hr]
  have h : p2 57 = p2 53 * p2 4 := by rw [← p2_add]; rfl
  have h2 : p2 53 = ((2 ^ 53 : Nat) : Rat) := p2_nat 53
  have hp := p2_pos 4
  have hMr : (M : Rat) < ((2 ^ 53 : Nat) : Rat) := by exact_mod_cast hM
  rw [h, h2]
  have := Rat.mul_lt_mul_of_pos_right hMr hp
  simp only [sg]
  grind
theorem one_fnt : Fnt .f64 4607182418800017408 ∧ V .f64 4607182418800017408 = 1 := by
  have hr : FloatKind.f64.format.read 4607182418800017408 = .number false 4503599627370496 (-52) := by decide +kernel
  refine ⟨⟨_, _, _, hr⟩, ?_⟩
  rw [V_eq hr]
  have h := p2_neg 52
  have : p2 52 = 4503599627370496 := by have := p2_nat 52; simpa using this
  rw [this] at h
  simp only [sg]
  grind

/-- a word that has an order to a finite one below and to one above is finite -/
theorem fnt_between {k : FloatKind} {x lo hi : Nat} (h1 : k.format.order x lo = some .gt ∨ k.format.order x lo = some .eq) (h2 : k.format.order x hi = some .lt ∨ k.format.order x hi = some .eq)
    (hl : Fnt k lo) (hh : Fnt k hi) : Fnt k x := by
  obtain ⟨s1, m1, e1, r1⟩ := hl
  obtain ⟨s2, m2, e2, r2⟩ := hh
  cases hx : k.format.read x with
  | number s m e => exact ⟨s, m, e, hx⟩
  | infinity s =>
    simp only [Format.order, hx, r1, r2, Datum.order] at h1 h2
    cases s <;> simp at h1 h2
  | nan s t =>
    simp only [Format.order, hx, r1, Datum.order] at h1
    simp at h1

theorem order_gt_eq {k : FloatKind} {x y : Nat} (hx : Fnt k x) (hy : Fnt k y) (h : k.format.order x y = some .gt ∨ k.format.order x y = some .eq) : V k y ≤ V k x := by
  rw [order_fin k hx hy] at h
  by_cases h1 : V k x < V k y
  · rw [if_pos h1] at h; simp at h
  · exact Rat.not_lt.1 h1
theorem order_lt_eq {k : FloatKind} {x y : Nat} (hx : Fnt k x) (hy : Fnt k y) (h : k.format.order x y = some .lt ∨ k.format.order x y = some .eq) : V k x ≤ V k y := by
  rw [order_fin k hx hy] at h
  by_cases h1 : V k x < V k y
  · exact Rat.le_of_lt h1
  · rw [if_neg h1] at h
    by_cases h2 : V k x = V k y
    · rw [h2]; exact Rat.le_refl
    · rw [if_neg h2] at h; simp at h

theorem mid_of_in {x : Nat} (h : rootIn x = true) : Mid x := by
  unfold rootIn at h
  simp only [Bool.and_eq_true, Bool.or_eq_true, beq_iff_eq] at h
  have hf := fnt_between h.1 h.2 min_fnt.1 max_fnt.1
  refine ⟨hf, ?_, ?_⟩
  · exact Rat.le_trans min_fnt.2 (order_gt_eq hf min_fnt.1 h.1)
  · exact Rat.le_trans (order_lt_eq hf max_fnt.1 h.2) max_fnt.2

/-- THE ROOT: finite, above nought, its square the number but for a very small part -/
theorem root_spec {x : Nat} (h : rootIn x = true) :
    ∃ r, rootC x = some r ∧ Fnt .f64 r ∧ 0 < V .f64 r ∧ V .f64 x * (1 - 1 / 1000000000000000) ≤ V .f64 r * V .f64 r ∧ V .f64 r * V .f64 r ≤ V .f64 x * (1 + 2 / 1000000000000000) := by
  have hx := mid_of_in h
  have hp := p2_pos (-40)
  have hX : 0 < V .f64 x := by have := hx.2.1; grind
  have h57 : p2 57 = 144115188075855872 := by have := p2_nat 57; simpa using this
  have h1 := one_fnt
  have hs : rootC x = riter (fc .f64 x) (fc .f64 (rstart x)) 60 := by unfold rootC; rw [if_pos h]
  have key : Inv x (rstart x) (2 / 1000000000000000) 60 := by
    unfold rstart
    by_cases ho : FloatKind.f64.format.order x 4607182418800017408 = some .lt
    · rw [if_pos ho]
      have hle := order_lt_eq hx.1 h1.1 (.inl ho)
      rw [h1.2] at hle
      refine inv_sixty hx h1.1 (by rw [h1.2]; decide) (by rw [h1.2]; grind) ?_
      rw [h1.2]
      have a := Rat.mul_le_mul_of_nonneg_right hx.2.1 (Rat.le_of_lt (p2_pos 57))
      rw [← p2_add] at a
      have m := p2_mono (a := 0) (b := -40 + 57) (by omega)
      rw [p2_zero] at m
      grind
    · rw [if_neg ho]
      have hge : 1 ≤ V .f64 x := by
        rw [order_fin .f64 hx.1 h1.1, h1.2] at ho
        by_cases hc : V .f64 x < 1
        · rw [if_pos hc] at ho; exact absurd rfl ho
        · exact Rat.not_lt.1 hc
      refine inv_sixty hx hx.1 hX ?_ (Rat.mul_le_mul_of_nonneg_left hx.2.2 (Rat.le_of_lt hX))
      have := Rat.mul_le_mul_of_nonneg_left hge (Rat.le_of_lt hX)
      grind
  obtain ⟨r, r1, r2, r3, r4, r5⟩ := key
  have h53 : e53 < 112 / 1000000000000000000 := by
    have h := p2_neg 53
    have : p2 53 = 9007199254740992 := by have := p2_nat 53; simpa using this
    rw [this] at h
    unfold e53
    grind
  refine ⟨r, by rw [hs]; exact r1, r2, r3, ?_, r5⟩
  have := Rat.mul_lt_mul_of_pos_left h53 hX
  grind

end Go.Proofs.Ytjllidnkndhgmaa
