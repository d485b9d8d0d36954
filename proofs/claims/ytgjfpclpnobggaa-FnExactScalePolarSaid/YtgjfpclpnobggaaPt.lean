/- Singles that stay small: sums, differences, products, quotients of bounded singles are numbers, and bounded. -/
import Derived.Test.YtgjfpclpnobggaaPq
namespace Go.Proofs.Ytgjfpclpnobggaa
open Go.RowKit
open Ieee (Format Datum)

/-- a finite single, no greater than 2^j -/
def Bd (j : Int) (x : Nat) : Prop := Fnt .f32 x ∧ -p2 j ≤ V .f32 x ∧ V .f32 x ≤ p2 j
theorem Bd.mono {i j : Int} {x : Nat} (h : Bd i x) (hij : i ≤ j) : Bd j x := by
  have := p2_mono hij
  exact ⟨h.1, by have := h.2.1; grind, by have := h.2.2; grind⟩
theorem nears_bd {X v : Rat} {j : Int} (h : NearS FloatKind.f32.format X v) (hj : -149 ≤ j) (h1 : -p2 j ≤ X) (h2 : X ≤ p2 j) : -p2 j ≤ v ∧ v ≤ p2 j := by
  have hp := p2_pos j
  have hlp : FloatKind.f32.format.leastPlace ≤ j := by rw [show FloatKind.f32.format.leastPlace = -149 by decide]; exact hj
  have one : ∀ Y w : Rat, Near FloatKind.f32.format Y w → Y ≤ p2 j → w ≤ p2 j := fun Y w hn hY => by
    have := hn.le (c := 1) (t := j) (by simpa using hY) (Nat.one_le_two_pow) hlp
    simpa using this
  have zero : ∀ Y w : Rat, Near FloatKind.f32.format Y w → 0 < Y → 0 ≤ w := fun Y w hn hY => by
    obtain ⟨l, kept, hv, _⟩ := hn
    rw [hv]; exact nn _ _
  rcases h with ⟨_, rfl⟩ | ⟨h0, h⟩ | ⟨h0, h⟩
  · constructor <;> grind
  · have := one _ _ h h2
    have := zero _ _ h h0
    constructor <;> grind
  · have := one _ _ h (by grind)
    have := zero _ _ h (by grind)
    constructor <;> grind
theorem emax32 : emax FloatKind.f32.format = 127 := by decide
theorem lt_emax {j : Int} (h : j < 127) : p2 j < p2 (emax FloatKind.f32.format) := by rw [emax32]; exact p2_lt h
theorem sub_bd {x y : Nat} {j : Int} (hx : Bd j x) (hy : Bd j y) (h0 : -150 ≤ j) (h1 : j < 126) : ∃ r, floatBits .sub .f32 x y = some r ∧ Bd (j + 1) r ∧ NearS FloatKind.f32.format (V .f32 x - V .f32 y) (V .f32 r) := by
  have e := p2_succ j
  have hl := lt_emax (j := j + 1) (by omega)
  obtain ⟨r, hr, hf, hn⟩ := sub_fin .f32 hx.1 hy.1 (by have := hx.2; have := hy.2; constructor <;> grind)
  have := nears_bd (j := j + 1) hn (by omega) (by have := hx.2; have := hy.2; grind) (by have := hx.2; have := hy.2; grind)
  exact ⟨r, hr, ⟨hf, this.1, this.2⟩, hn⟩
theorem add_bd {x y : Nat} {j : Int} (hx : Bd j x) (hy : Bd j y) (h0 : -150 ≤ j) (h1 : j < 126) : ∃ r, floatBits .add .f32 x y = some r ∧ Bd (j + 1) r := by
  have e := p2_succ j
  have hl := lt_emax (j := j + 1) (by omega)
  obtain ⟨r, hr, hf, hn⟩ := add_fin .f32 hx.1 hy.1 (by have := hx.2; have := hy.2; constructor <;> grind)
  have := nears_bd (j := j + 1) hn (by omega) (by have := hx.2; have := hy.2; grind) (by have := hx.2; have := hy.2; grind)
  exact ⟨r, hr, ⟨hf, this.1, this.2⟩⟩
theorem abs_mul {a b A B : Rat} (ha : -A ≤ a ∧ a ≤ A) (hb : -B ≤ b ∧ b ≤ B) : -(A * B) ≤ a * b ∧ a * b ≤ A * B := by
  have h1 := Rat.mul_nonneg (show 0 ≤ A - a by grind) (show 0 ≤ B - b by grind)
  have h2 := Rat.mul_nonneg (show 0 ≤ A - a by grind) (show 0 ≤ B + b by grind)
  have h3 := Rat.mul_nonneg (show 0 ≤ A + a by grind) (show 0 ≤ B - b by grind)
  have h4 := Rat.mul_nonneg (show 0 ≤ A + a by grind) (show 0 ≤ B + b by grind)
  constructor <;> grind
theorem mul_bd {x y : Nat} {i j : Int} (hx : Bd i x) (hy : Bd j y) (h0 : -149 ≤ i + j) (h1 : i + j < 127) : ∃ r, floatBits .mul .f32 x y = some r ∧ Bd (i + j) r := by
  have hm := abs_mul hx.2 hy.2
  rw [← p2_add] at hm
  have hl := lt_emax h1
  obtain ⟨r, hr, hf, hn⟩ := mul_fin .f32 hx.1 hy.1 (by constructor <;> grind)
  have := nears_bd hn h0 hm.1 hm.2
  exact ⟨r, hr, ⟨hf, this.1, this.2⟩⟩
theorem div_bd {x y : Nat} {j : Int} (hx : Fnt .f32 x) (hy : Fnt .f32 y) (hy0 : 0 < V .f32 y) (hb : -(p2 j * V .f32 y) ≤ V .f32 x ∧ V .f32 x ≤ p2 j * V .f32 y) (h0 : -149 ≤ j) (h1 : j < 127) : ∃ r, floatBits .quo .f32 x y = some r ∧ Bd j r := by
  have hl := lt_emax h1
  have hz : V .f32 x / V .f32 y * V .f32 y = V .f32 x := Rat.div_mul_cancel (by grind)
  have a1 : V .f32 x / V .f32 y ≤ p2 j := by
    apply Rat.not_lt.1
    intro h
    have := Rat.mul_pos (show 0 < V .f32 x / V .f32 y - p2 j by grind) hy0
    grind
  have a2 : -p2 j ≤ V .f32 x / V .f32 y := by
    apply Rat.not_lt.1
    intro h
    have := Rat.mul_pos (show 0 < -p2 j - V .f32 x / V .f32 y by grind) hy0
    grind
  obtain ⟨r, hr, hf, hn⟩ := div_fin .f32 hx hy (by grind) (by constructor <;> grind)
  have := nears_bd hn h0 a2 a1
  exact ⟨r, hr, ⟨hf, this.1, this.2⟩⟩
end Go.Proofs.Ytgjfpclpnobggaa
