/- Singles that are the same; polars that are the same. -/
import Derived.Test.YtgjfpclpnobggaaMe
import Derived.Test.YtgjfpclpnobggaaKh
namespace Go.Proofs.Ytgjfpclpnobggaa
open Go.Shelf Go.RowKit
open Ieee (Format Datum)

/-- two finite singles that stand for the same number, sign of 0 and all -/
def SameD (x y : Nat) : Prop := Fnt .f32 x ∧ FloatKind.f32.decode x = FloatKind.f32.decode y
theorem SameD.refl {x : Nat} (h : Fnt .f32 x) : SameD x x := ⟨h, rfl⟩
theorem norm32 {x : Nat} {s : Bool} {M : Nat} {E : Int} (h : FloatKind.f32.format.read x = .number s M E) : (M < 8388608 ∧ E = -149) ∨ (8388608 ≤ M ∧ M < 16777216 ∧ -149 ≤ E) := by
  have e1 : FloatKind.f32.format.binade = 8388608 := by decide
  have e2 : FloatKind.f32.format.infRung = 2139095040 := by decide
  have e3 : FloatKind.f32.format.leastPlace = -149 := by decide
  simp only [Format.read, e1, e2, e3] at h
  split at h
  · cases h; left; omega
  · split at h
    · cases h
      have := Nat.mod_lt (x % FloatKind.f32.format.signWeight) (show 0 < 8388608 by decide)
      right; omega
    · split at h <;> cases h
theorem p2_23 : p2 23 = 8388608 := by have := p2_nat 23; simpa using this
theorem p2_24 : p2 24 = 16777216 := by have := p2_nat 24; simpa using this
theorem norm_less {M N : Nat} {E D : Int} (h1 : (M < 8388608 ∧ E = -149) ∨ (8388608 ≤ M ∧ M < 16777216 ∧ -149 ≤ E)) (h2 : (N < 8388608 ∧ D = -149) ∨ (8388608 ≤ N ∧ N < 16777216 ∧ -149 ≤ D)) (hE : E < D) : (M : Rat) * p2 E < N * p2 D := by
  have hM : M < 16777216 := by omega
  have hN : 8388608 ≤ N := by omega
  have a1 : (M : Rat) < 16777216 := by exact_mod_cast hM
  have a2 : (8388608 : Rat) ≤ N := by exact_mod_cast hN
  have pE := p2_pos E
  have pD := p2_pos D
  have b1 : (M : Rat) * p2 E < 16777216 * p2 E := Rat.mul_lt_mul_of_pos_right a1 pE
  have b2 : (8388608 : Rat) * p2 D ≤ N * p2 D := Rat.mul_le_mul_of_nonneg_right a2 (Rat.le_of_lt pD)
  have b3 : (16777216 : Rat) * p2 E ≤ 8388608 * p2 D := by
    rw [← p2_24, ← p2_23, ← p2_add, ← p2_add]
    exact p2_mono (by omega)
  grind
theorem norm_one {M N : Nat} {E D : Int} (h1 : (M < 8388608 ∧ E = -149) ∨ (8388608 ≤ M ∧ M < 16777216 ∧ -149 ≤ E)) (h2 : (N < 8388608 ∧ D = -149) ∨ (8388608 ≤ N ∧ N < 16777216 ∧ -149 ≤ D)) (h : (M : Rat) * p2 E = N * p2 D) : M = N ∧ E = D := by
  rcases Int.lt_trichotomy E D with hl | rfl | hl
  · have := norm_less h1 h2 hl; grind
  · have hp := p2_pos E
    have : (M : Rat) = N := by
      have h3 : ((M : Rat) - N) * p2 E = 0 := by grind
      rcases Rat.mul_eq_zero.1 h3 with h4 | h4 <;> grind
    exact ⟨by exact_mod_cast this, rfl⟩
  · have := norm_less h2 h1 hl; grind
/-- a number of a boat, times 1 -/
theorem times_one {x r : Nat} (hx : Fnt .f32 x) (h1 : V .f32 x ≤ 1000000) (h0 : -1000000 ≤ V .f32 x) (h : FIs .f32 r (fop .mul .f32 (fc .f32 x) (fc .f32 1065353216))) : SameD x r := by
  obtain ⟨s, M, E, hr⟩ := hx
  have hx : Fnt .f32 x := ⟨s, M, E, hr⟩
  have hr1 : FloatKind.f32.format.read 1065353216 = .number false 8388608 (-23) := by decide +kernel
  rw [fc_fnt hx, fc_fnt c_one.1] at h
  have hem : (1000000 : Rat) < p2 (emax FloatKind.f32.format) := by
    have h2 : p2 100 = 1267650600228229401496703205376 := by have := p2_nat 100; simpa using this
    have := lt_emax (j := 100) (by omega)
    grind
  have hm1 : V .f32 x * V .f32 1065353216 = V .f32 x := by rw [c_one.2, Rat.mul_one]
  have hp : (FloatKind.f32.format.read x).product (FloatKind.f32.format.read 1065353216) = some (.number (s ^^ false) (M * 8388608) (E + -23)) := by rw [hr, hr1]; rfl
  obtain ⟨q, hq, qf, qn⟩ := mul_fin .f32 hx c_one.1 (by rw [hm1]; constructor <;> grind)
  have e1 : fop .mul .f32 (some x) (some 1065353216) = some q := hq
  rw [e1] at h
  have hrq : r = q := ((fc_some h.1).1).symm
  subst hrq
  have hv : V .f32 r = V .f32 x := nears_self hx hm1 qn
  have hw : r = FloatKind.f32.format.write (.number (s ^^ false) (M * 8388608) (E + -23)) := by
    have h2 : floatBits .mul .f32 x 1065353216 = ((FloatKind.f32.format.read x).product (FloatKind.f32.format.read 1065353216)).map FloatKind.f32.format.write := rfl
    rw [h2, hp] at hq
    exact (Option.some.inj hq).symm
  have hX : ((M * 8388608 : Nat) : Rat) * p2 (E + -23) < p2 (emax FloatKind.f32.format) := by
    have hV := V_eq hr
    have e3 : ((M * 8388608 : Nat) : Rat) * p2 (E + -23) = M * p2 E := by
      rw [p2_add]
      have := p2_neg 23
      rw [p2_23] at this
      push_cast
      grind
    rw [e3]
    have hn := nn M E
    rcases sg_cases s with h5 | h5
    · rw [h5, Rat.one_mul] at hV; grind
    · rw [h5] at hV; grind
  obtain ⟨M2, E2, h6, _⟩ := write_num FloatKind.f32.format (wide_of .f32) (s ^^ false) (M * 8388608) (E + -23) hX
  rw [← hw, Bool.xor_false] at h6
  have hV1 := V_eq (k := .f32) hr
  have hV2 := V_eq (k := .f32) h6
  have hval : (M : Rat) * p2 E = M2 * p2 E2 := by
    rw [hV1, hV2] at hv
    rcases sg_cases s with h5 | h5 <;> rw [h5] at hv <;> grind
  obtain ⟨rfl, rfl⟩ := norm_one (norm32 hr) (norm32 h6) hval
  exact ⟨hx, by show FloatKind.f32.format.read x = FloatKind.f32.format.read r; rw [hr, h6]⟩
end Go.Proofs.Ytgjfpclpnobggaa
