/- What a polar says at a wind and an angle: there is such a single. -/
import Derived.Test.YtgjfpclpnobggaaQc
namespace Go.Proofs.Ytgjfpclpnobggaa
open Go.RowKit
open Ieee (Format Datum)

def leB (x y : Nat) : Bool := FloatKind.f32.format.order x y == some Ordering.lt || FloatKind.f32.format.order x y == some Ordering.eq
def geB (x y : Nat) : Bool := FloatKind.f32.format.order x y == some Ordering.gt || FloatKind.f32.format.order x y == some Ordering.eq

theorem leB_val {x y : Nat} (hx : Fnt .f32 x) (hy : Fnt .f32 y) : leB x y = true ↔ V .f32 x ≤ V .f32 y := by
  unfold leB
  rw [order_fin .f32 hx hy]
  split
  · simp; grind
  · split
    · simp; grind
    · simp; grind
theorem geB_val {x y : Nat} (hx : Fnt .f32 x) (hy : Fnt .f32 y) : geB x y = true ↔ V .f32 y ≤ V .f32 x := by
  unfold geB
  rw [order_fin .f32 hx hy]
  split
  · simp; grind
  · split
    · simp; grind
    · simp; grind

/-- a whole multiple of the least place, rounded: no more than twice, no less than half -/
theorem near_two {X v : Rat} (h : Near FloatKind.f32.format X v) {n : Nat} (hn : n ≠ 0) (hX : X = n * p2 (-149)) : X ≤ 2 * v ∧ v ≤ 2 * X := by
  have hp := p2_pos (-149)
  have hlp : FloatKind.f32.format.leastPlace = -149 := by decide
  have l1 : (((2 ^ n.log2 : Nat)) : Rat) ≤ (n : Rat) := by exact_mod_cast log2_lo hn
  have l2 : (n : Rat) < ((2 ^ (n.log2 + 1) : Nat) : Rat) := by exact_mod_cast @log2_hi n
  rw [← p2_nat] at l1 l2
  have m1 := Rat.mul_le_mul_of_nonneg_right l1 (Rat.le_of_lt hp)
  have m2 := Rat.mul_le_mul_of_nonneg_right (Rat.le_of_lt l2) (Rat.le_of_lt hp)
  rw [← p2_add, ← hX] at m1 m2
  have g1 := h.ge (c := 1) (t := (n.log2 : Int) + -149) (by simpa using m1) (Nat.one_le_two_pow) (by rw [hlp]; omega)
  have g2 := h.le (c := 1) (t := ((n.log2 + 1 : Nat) : Int) + -149) (by simpa using m2) (Nat.one_le_two_pow) (by rw [hlp]; omega)
  have e : p2 (((n.log2 + 1 : Nat) : Int) + -149) = 2 * p2 ((n.log2 : Int) + -149) := by
    rw [show ((n.log2 + 1 : Nat) : Int) + -149 = ((n.log2 : Int) + -149) + 1 by omega, p2_succ]
  rw [e] at g2 m2
  have e1 : ((1 : Nat) : Rat) = 1 := rfl
  rw [e1, Rat.one_mul] at g1 g2
  constructor <;> grind
theorem on_grid {x : Nat} (h : Fnt .f32 x) : ∃ z : Int, V .f32 x = z * p2 (-149) := by
  obtain ⟨s, M, E, _, hv, _, hE⟩ := grid .f32 h
  have hlp : FloatKind.f32.format.leastPlace = -149 := by decide
  rw [hlp] at hE
  exact ⟨Ieee.signed s M (E - -149).toNat, by rw [hv, signed_p2 s M hE]⟩
/-- a difference that is no less than nothing, rounded: no more than twice, no less than half -/
theorem sub_two {x y d : Nat} (hx : Fnt .f32 x) (hy : Fnt .f32 y) (h0 : V .f32 y ≤ V .f32 x) (h : NearS FloatKind.f32.format (V .f32 x - V .f32 y) (V .f32 d)) : V .f32 x - V .f32 y ≤ 2 * V .f32 d ∧ V .f32 d ≤ 2 * (V .f32 x - V .f32 y) := by
  obtain ⟨a, ha⟩ := on_grid hx
  obtain ⟨b, hb⟩ := on_grid hy
  have hp := p2_pos (-149)
  rcases h with ⟨h, g⟩ | ⟨h, g⟩ | ⟨h, g⟩
  · rw [h, g]; constructor <;> grind
  · have hab : b ≤ a := by
      apply Classical.byContradiction
      intro hc
      have : (a : Rat) < (b : Rat) := (Rat.intCast_lt_intCast).2 (by omega)
      have := Rat.mul_le_mul_of_nonneg_right (Rat.le_of_lt this) (Rat.le_of_lt hp)
      grind
    obtain ⟨n, hn⟩ : ∃ n : Nat, a - b = n := ⟨(a - b).toNat, by omega⟩
    have e : V .f32 x - V .f32 y = n * p2 (-149) := by
      rw [ha, hb]
      have : ((a - b : Int) : Rat) = (n : Rat) := by rw [hn]; rfl
      rw [← this, Rat.intCast_sub]
      grind
    refine near_two g ?_ e
    rintro rfl
    rw [e] at h
    simp at h
  · grind

/-- what a polar says at a wind and an angle -/
def SpR (ws : List Nat) (an : List Int) (ss : List (List Nat)) (wind : Nat) (angle : Int) (r : Nat) : Prop :=
  ∃ n : Nat, ∃ hn : n + 1 = ws.length, ∃ hs : ss.length = ws.length,
    (leB wind ws[0] = true ∧ ∃ q k s, floatBits .quo .f32 wind ws[0] = some q ∧ RowR an ss[0] angle k s ∧ floatBits .mul .f32 q s = some r) ∨
    (leB wind ws[0] = false ∧ geB wind ws[n] = true ∧ ∃ k, RowR an ss[n] angle k r) ∨
    (leB wind ws[0] = false ∧ geB wind ws[n] = false ∧ ∃ i, ∃ h : i + 1 < ws.length, (∀ j (hj : j + 1 < ws.length), j < i → leB ws[j + 1] wind = true) ∧ leB ws[i + 1] wind = false ∧
      ∃ d1 d2 q k1 s k2 t, floatBits .sub .f32 wind ws[i] = some d1 ∧ floatBits .sub .f32 ws[i + 1] ws[i] = some d2 ∧ floatBits .quo .f32 d1 d2 = some q ∧
        RowR an ss[i] angle k1 s ∧ RowR an ss[i + 1] angle k2 t ∧ Mix s t q r)
/-- a wind's speed that is right -/
def WindIn (x : Nat) : Prop := geB x 0 = true ∧ leB x 1120403456 = true
theorem WindIn.val {x : Nat} (h : WindIn x) : Fnt .f32 x ∧ 0 ≤ V .f32 x ∧ V .f32 x ≤ 100 := by
  obtain ⟨h1, h2⟩ := h
  have hf : Fnt .f32 x := fin_of_le c100.1 (by unfold geB at h1; simpa using h1) (by unfold leB at h2; simpa using h2)
  have g1 := (geB_val hf c_zero.1).1 h1
  have g2 := (leB_val hf c100.1).1 h2
  rw [c_zero.2] at g1
  rw [c100.2] at g2
  exact ⟨hf, g1, g2⟩
theorem p2_seven : p2 7 = 128 := by have := p2_nat 7; simpa using this
theorem p2_eight : p2 8 = 256 := by have := p2_nat 8; simpa using this
theorem WindIn.bd {x : Nat} (h : WindIn x) : Bd 7 x := by
  obtain ⟨h1, h2, h3⟩ := h.val
  refine ⟨h1, ?_, ?_⟩ <;> rw [p2_seven] <;> grind
theorem WindOk.bd {x : Nat} (h : WindOk x) : Bd 7 x := by
  obtain ⟨h1, h2, h3⟩ := h.val
  refine ⟨h1, ?_, ?_⟩ <;> rw [p2_seven] <;> grind
theorem false_of_not {b : Bool} {p : Prop} (h : b = true ↔ p) (hp : ¬ p) : b = false := by cases b <;> simp_all
theorem sp_ok {ws : List Nat} {an : List Int} {ss : List (List Nat)} (h : PolOk ws an ss) {wind : Nat} (hw : WindIn wind) {angle : Int} (a0 : 0 ≤ angle) (a1 : angle ≤ 180) : ∃ r, SpR ws an ss wind angle r ∧ Bd 26 r := by
  have hw1 := h.w1
  have hsl := h.sl
  obtain ⟨fw, w0, w100⟩ := hw.val
  obtain ⟨f0, z0, z1⟩ := (h.wind 0 (by omega)).val
  have hn : (ws.length - 1) + 1 = ws.length := by omega
  by_cases h0 : V .f32 wind ≤ V .f32 (ws[0]'(by omega))
  · obtain ⟨q, hq, bq⟩ := div_bd (j := 0) fw f0 z0 (by rw [p2_zero]; constructor <;> grind) (by omega) (by omega)
    obtain ⟨k, s, hk, bk⟩ := row_ok h 0 (by omega) angle a0 a1
    obtain ⟨r, hr, br⟩ := mul_bd bq bk (by omega) (by omega)
    exact ⟨r, ⟨ws.length - 1, hn, hsl, .inl ⟨(leB_val fw f0).2 h0, q, k, s, hq, hk, hr⟩⟩, br.mono (by omega)⟩
  · have g0 := false_of_not (leB_val fw f0) h0
    obtain ⟨fn, _, _⟩ := (h.wind (ws.length - 1) (by omega)).val
    by_cases h1 : V .f32 (ws[ws.length - 1]'(by omega)) ≤ V .f32 wind
    · obtain ⟨k, s, hk, bk⟩ := row_ok h (ws.length - 1) (by omega) angle a0 a1
      exact ⟨s, ⟨ws.length - 1, hn, hsl, .inr (.inl ⟨g0, (geB_val fw fn).2 h1, k, hk⟩)⟩, bk.mono (by omega)⟩
    · have g1 := false_of_not (geB_val fw fn) h1
      have hlen : 2 ≤ ws.length := by
        apply Classical.byContradiction
        intro hc
        have e : ws[ws.length - 1]'(by omega) = ws[0]'(by omega) := by congr 1; omega
        rw [e] at h1
        grind
      obtain ⟨i, hi, ⟨hi1, hpi⟩, hno⟩ := first_ge (fun j => ∃ hj : j + 1 < ws.length, V .f32 wind < V .f32 ws[j + 1]) (ws.length - 2) ⟨by omega, by
        have e : ws[ws.length - 2 + 1]'(by omega) = ws[ws.length - 1]'(by omega) := by congr 1; omega
        rw [e]; grind⟩
      obtain ⟨fi, zi, _⟩ := (h.wind i (by omega)).val
      obtain ⟨fj, zj, _⟩ := (h.wind (i + 1) hi1).val
      have bi := (h.wind i (by omega)).bd
      have bj := (h.wind (i + 1) hi1).bd
      have hlo : V .f32 (ws[i]'(by omega)) ≤ V .f32 wind := by
        rcases Nat.eq_zero_or_pos i with rfl | hp
        · grind
        · have := hno (i - 1) (by omega)
          have e : ws[i - 1 + 1]'(by omega) = ws[i]'(by omega) := by congr 1; omega
          apply Classical.byContradiction
          intro hc
          exact this ⟨by omega, by rw [e]; grind⟩
      obtain ⟨d1, hd1, b1, n1⟩ := sub_bd hw.bd bi (by omega) (by omega)
      obtain ⟨d2, hd2, b2, n2⟩ := sub_bd bj bi (by omega) (by omega)
      have t1 := sub_two fw fi hlo n1
      have t2 := sub_two fj fi (by grind) n2
      have V2 : 0 < V .f32 d2 := by grind
      obtain ⟨q, hq, bq⟩ := div_bd (j := 8) b1.1 b2.1 V2 (by rw [p2_eight]; constructor <;> grind) (by omega) (by omega)
      obtain ⟨k1, s, hk1, bk1⟩ := row_ok h i (by omega) angle a0 a1
      obtain ⟨k2, t, hk2, bk2⟩ := row_ok h (i + 1) (by omega) angle a0 a1
      obtain ⟨r, hr, br⟩ := mix_ok (j := 16) (by omega) (by omega) bk1 bk2 bq
      refine ⟨r, ⟨ws.length - 1, hn, hsl, .inr (.inr ⟨g0, g1, i, hi1, fun j hj hji => ?_, false_of_not (leB_val fj fw) (by grind), d1, d2, q, k1, s, k2, t, hd1, hd2, hq, hk1, hk2, hr⟩)⟩, br⟩
      have := hno j hji
      obtain ⟨fx, _, _⟩ := (h.wind (j + 1) hj).val
      exact (leB_val fx fw).2 (Rat.not_lt.1 fun hc => this ⟨hj, hc⟩)
end Go.Proofs.Ytgjfpclpnobggaa
