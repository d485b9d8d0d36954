/- What math.Round gives, in numbers. -/
import Derived.Test.YtjllidnkndhgmaaRd
namespace Go.Proofs.Ytjllidnkndhgmaa
open Ieee

theorem sw64 : FloatKind.f64.format.signWeight = 9223372036854775808 := by decide
theorem bn64 : FloatKind.f64.format.binade = 4503599627370496 := by decide
theorem ir64 : FloatKind.f64.format.infRung = 9218868437227405312 := by decide

theorem split64 (b : Nat) (h : b < 2 ^ 64) : ∃ (s : Bool) (r : Nat), b = Format.word FloatKind.f64.format s r ∧ r < 9223372036854775808 ∧ b / 2 ^ 63 = (if s then 1 else 0) ∧ b = b / 2 ^ 63 * 9223372036854775808 + r := by
  rcases (by omega : b / 2 ^ 63 = 0 ∨ b / 2 ^ 63 = 1) with hq | hq
  · refine ⟨false, b, rfl, by omega, hq, by omega⟩
  · refine ⟨true, b - 9223372036854775808, ?_, by omega, hq, by omega⟩
    simp only [Format.word, if_true, sw64]; omega

theorem val_rung (s : Bool) (d c : Nat) (hc : c ≤ 9007199254740992) (hd : 0 < d → 4503599627370496 ≤ c) (hr : d * 4503599627370496 + c < 9218868437227405312) :
    Fnt .f64 (Format.word FloatKind.f64.format s (d * 4503599627370496 + c)) ∧ V .f64 (Format.word FloatKind.f64.format s (d * 4503599627370496 + c)) = sg s * (c * p2 ((d : Int) - 1074)) := by
  obtain ⟨M, E, h1, h2, _, _⟩ := read_rung FloatKind.f64.format s d c (by rw [fb64]; exact hc) (by rw [fb64]; exact hd) (by rw [bn64, ir64]; exact hr)
  rw [bn64] at h1
  refine ⟨⟨s, M, E, h1⟩, ?_⟩
  rw [V, h1]
  show sg s * (M * p2 E) = _
  rw [h2, lp64, show (-1074 : Int) + d = (d : Int) - 1074 by omega]

theorem rung_of {s : Bool} {r : Nat} (h : Fnt .f64 (Format.word FloatKind.f64.format s r)) (hr : r < 9223372036854775808) : r < 9218868437227405312 := by
  obtain ⟨s', M, E, h⟩ := h
  refine Nat.lt_of_not_le fun hge => ?_
  have hm := word_mod FloatKind.f64.format s (rung := r) (by rw [sw64]; exact hr)
  simp only [Format.read, hm, bn64, ir64] at h
  rw [if_neg (by omega), if_neg (by omega)] at h
  split at h <;> cases h

/-- the whole number next to X, the halves away from nought -/
def HA (X : Rat) (R : Int) : Prop := (0 ≤ X ∧ (R : Rat) - 1 / 2 ≤ X ∧ X < (R : Rat) + 1 / 2 ∧ 0 ≤ R) ∨ (X ≤ 0 ∧ -(R : Rat) - 1 / 2 ≤ -X ∧ -X < -(R : Rat) + 1 / 2 ∧ R ≤ 0)

theorem HA.same {X : Rat} {R S : Int} (h : HA X R) (g : HA X S) : R = S := by
  have key : (R : Rat) < S + 1 ∧ (S : Rat) < R + 1 := by
    rcases h with ⟨a, b, c, d⟩ | ⟨a, b, c, d⟩ <;> rcases g with ⟨a', b', c', d'⟩ | ⟨a', b', c', d'⟩
    · constructor <;> grind
    · have d1 : (0 : Rat) ≤ R := by exact_mod_cast d
      have d2 : (S : Rat) ≤ 0 := by exact_mod_cast d'
      have r1 : (R : Rat) < ((1 : Int) : Rat) := by grind
      have r2 : R < 1 := by exact_mod_cast r1
      have r3 : ((-1 : Int) : Rat) < S := by push_cast; grind
      have r4 : -1 < S := Rat.intCast_lt_intCast.1 r3
      have r5 : R = 0 := by omega
      have r6 : S = 0 := by omega
      subst r5 r6
      constructor <;> grind
    · have d1 : (0 : Rat) ≤ S := by exact_mod_cast d'
      have d2 : (R : Rat) ≤ 0 := by exact_mod_cast d
      have r1 : (S : Rat) < ((1 : Int) : Rat) := by grind
      have r2 : S < 1 := by exact_mod_cast r1
      have r3 : ((-1 : Int) : Rat) < R := by push_cast; grind
      have r4 : -1 < R := Rat.intCast_lt_intCast.1 r3
      have r5 : R = 0 := by omega
      have r6 : S = 0 := by omega
      subst r5 r6
      constructor <;> grind
    · constructor <;> grind
  have h1 : R < S + 1 := by exact_mod_cast key.1
  have h2 : S < R + 1 := by exact_mod_cast key.2
  omega

set_option maxRecDepth 100000 in
theorem HA.of (s : Bool) (x : Rat) (n : Nat) (h0 : 0 ≤ x) (h1 : (n : Rat) - 1 / 2 ≤ x) (h2 : x < (n : Rat) + 1 / 2) : ∃ R : Int, sg s * (n : Rat) = R ∧ HA (sg s * x) R := by
  cases s
  · refine ⟨n, by simp only [sg, Bool.false_eq_true, if_false, Rat.one_mul, Rat.intCast_natCast], .inl ?_⟩
    simp only [sg, Bool.false_eq_true, if_false, Rat.one_mul, Rat.intCast_natCast]
    exact ⟨h0, h1, h2, by omega⟩
  · refine ⟨-n, by simp only [sg, if_true]; push_cast; grind, .inr ?_⟩
    simp only [sg, if_true]
    push_cast
    refine ⟨by grind, by grind, by grind, by omega⟩

set_option maxRecDepth 100000 in
theorem round_val (b : Nat) (hb : b < 2 ^ 64) (hf : Fnt .f64 b) : Fnt .f64 (roundB b) ∧ ∃ R : Int, V .f64 (roundB b) = R ∧ HA (V .f64 b) R := by
  obtain ⟨s, r, hw, hr, hq, hbe⟩ := split64 b hb
  have hr2 : r < 9218868437227405312 := rung_of (hw ▸ hf) hr
  have he : b / 2 ^ 52 % 2048 = r / 4503599627370496 := by
    have : b / 2 ^ 63 ≤ 1 := by omega
    generalize b / 2 ^ 63 = q at *
    omega
  have hword : ∀ x : Nat, Format.word FloatKind.f64.format s x = b / 2 ^ 63 * 9223372036854775808 + x := by
    intro x
    rw [hq]
    simp only [Format.word, sw64]
    cases s <;> simp
  obtain ⟨d, c, hdc, hc, hd1, hde⟩ : ∃ d c : Nat, r = d * 4503599627370496 + c ∧ c < 9007199254740992 ∧ (0 < d → 4503599627370496 ≤ c) ∧ (1 ≤ r / 4503599627370496 → d + 1 = r / 4503599627370496 ∧ 4503599627370496 ≤ c) := by
    by_cases h0 : r < 4503599627370496
    · exact ⟨0, r, by omega, by omega, by omega, by omega⟩
    · exact ⟨r / 4503599627370496 - 1, r % 4503599627370496 + 4503599627370496, by omega, by omega, by omega, by omega⟩
  have hv := val_rung s d c (by omega) hd1 (by omega)
  rw [← hdc, ← hw] at hv
  have hq63 : b / 2 ^ 63 * 2 ^ 63 = b / 2 ^ 63 * 9223372036854775808 := rfl
  by_cases h1 : r / 4503599627370496 < 1022
  · have hrb : roundB b = Format.word FloatKind.f64.format s 0 := by
      rw [roundB, he, if_pos h1, hword, hq63, Nat.add_zero]
    have h0 := val_rung s 0 0 (by decide) (fun h => absurd h (by decide)) (by decide)
    rw [hrb]
    refine ⟨h0.1, 0, ?_, ?_⟩
    · rw [show (0 * 4503599627370496 + 0 : Nat) = 0 from rfl] at h0; rw [h0.2]; grind
    · have hx : (c : Rat) * p2 ((d : Int) - 1074) < 1 / 2 := by
        have hm := p2_mono (a := (d : Int) - 1074) (b := -54) (by omega)
        have e1 : p2 (-54) * 18014398509481984 = 1 := by rw [show (18014398509481984 : Rat) = p2 54 by rw [show (54 : Int) = ((54 : Nat) : Int) from rfl, p2_nat]; norm_cast, ← p2_add]; exact p2_zero
        have hc' : (c : Rat) + 1 ≤ 9007199254740992 := by exact_mod_cast hc
        have hp := p2_pos ((d : Int) - 1074)
        have h3 := Rat.mul_le_mul_of_nonneg_right hc' (Rat.le_of_lt hp)
        grind
      have hn := nn c ((d : Int) - 1074)
      obtain ⟨R, hR, hA⟩ := HA.of s _ 0 hn (by grind) (by push_cast; grind)
      rw [hv.2]
      have : R = 0 := by
        have : (R : Rat) = 0 := by rw [← hR]; grind
        exact_mod_cast this
      rw [← this]; exact hA
  · by_cases h2 : r / 4503599627370496 = 1022
    · have hrb : roundB b = Format.word FloatKind.f64.format s (1022 * 4503599627370496 + 4503599627370496) := by
        rw [roundB, he, if_neg h1, if_pos h2, hword, hq63, show (1022 * 4503599627370496 + 4503599627370496 : Nat) = 4607182418800017408 from by decide]
      have h0 := val_rung s 1022 4503599627370496 (by omega) (by omega) (by omega)
      rw [hrb]
      have hd : d = 1021 := by omega
      have hp52 : (4503599627370496 : Rat) = p2 52 := by rw [show (52 : Int) = ((52 : Nat) : Int) from rfl, p2_nat]; norm_cast
      have e0 : ((4503599627370496 : Nat) : Rat) * p2 (((1022 : Nat) : Int) - 1074) = ((1 : Nat) : Rat) := by
        rw [show ((4503599627370496 : Nat) : Rat) = (4503599627370496 : Rat) by norm_cast, hp52, ← p2_add]; exact p2_zero
      rw [e0] at h0
      have e1 : p2 (-53) * 9007199254740992 = 1 := by rw [show (9007199254740992 : Rat) = p2 53 by rw [show (53 : Int) = ((53 : Nat) : Int) from rfl, p2_nat]; norm_cast, ← p2_add]; exact p2_zero
      rw [hd, show (((1021 : Nat) : Int) - 1074) = -53 from rfl] at hv
      have hc' : (c : Rat) + 1 ≤ 9007199254740992 := by exact_mod_cast hc
      have hc2 : (4503599627370496 : Rat) ≤ c := by exact_mod_cast (hde (by omega)).2
      have hp := p2_pos (-53)
      have h3 := Rat.mul_le_mul_of_nonneg_right hc' (Rat.le_of_lt hp)
      have h4 := Rat.mul_le_mul_of_nonneg_right hc2 (Rat.le_of_lt hp)
      obtain ⟨R, hR, hA⟩ := HA.of s (c * p2 (-53)) 1 (by grind) (by push_cast; grind) (by push_cast; grind)
      exact ⟨h0.1, R, by rw [h0.2, hR], by rw [hv.2]; exact hA⟩
    · obtain ⟨hde1, hc2⟩ := hde (by omega)
      by_cases h3 : r / 4503599627370496 < 1075
      · obtain ⟨u, hu⟩ : ∃ u, u = 1074 - r / 4503599627370496 := ⟨_, rfl⟩
        have hu1 : 1075 - r / 4503599627370496 = u + 1 := by omega
        have hp0 := Nat.two_pow_pos u
        obtain ⟨R, hR⟩ : ∃ R, R = (c + 2 ^ u) / 2 ^ (u + 1) := ⟨_, rfl⟩
        have hp1 : 2 ^ (u + 1) = 2 * 2 ^ u := by rw [Nat.pow_succ]; omega
        have e63 : 9223372036854775808 = 2 ^ (62 - u) * 2 ^ (u + 1) := by rw [← Nat.pow_add, show 62 - u + (u + 1) = 63 by omega]
        have e52 : 4503599627370496 = 2 ^ (51 - u) * 2 ^ (u + 1) := by rw [← Nat.pow_add, show 51 - u + (u + 1) = 52 by omega]
        have hsum : b + 2 ^ u = (b / 2 ^ 63 * 2 ^ (62 - u) + d * 2 ^ (51 - u)) * 2 ^ (u + 1) + (c + 2 ^ u) := by
          rw [Nat.add_mul, Nat.mul_assoc, ← e63, Nat.mul_assoc, ← e52]
          omega
        have hdiv : (b + 2 ^ u) / 2 ^ (u + 1) = (b / 2 ^ 63 * 2 ^ (62 - u) + d * 2 ^ (51 - u)) + R := by
          rw [hsum, Nat.add_comm, Nat.add_mul_div_right _ _ (Nat.two_pow_pos _), ← hR, Nat.add_comm]
        have hrb : roundB b = Format.word FloatKind.f64.format s (d * 4503599627370496 + R * 2 ^ (u + 1)) := by
          rw [roundB, he, if_neg h1, if_neg h2, if_pos h3, hword, ← hu, hu1, hdiv, Nat.add_mul, Nat.add_mul, Nat.mul_assoc, ← e63, Nat.mul_assoc, ← e52]
          exact Nat.add_assoc _ _ _
        have hlo : R * 2 ^ (u + 1) ≤ c + 2 ^ u := by rw [hR]; exact Nat.div_mul_le_self _ _
        have hhi : c + 2 ^ u < R * 2 ^ (u + 1) + 2 ^ (u + 1) := by
          rw [hR]; have := Nat.div_add_mod (c + 2 ^ u) (2 ^ (u + 1)); have := Nat.mod_lt (c + 2 ^ u) (Nat.two_pow_pos (u + 1))
          rw [Nat.mul_comm]; omega
        have hR1 : 2 ^ (51 - u) ≤ R := by
          rw [hR]; refine (Nat.le_div_iff_mul_le (Nat.two_pow_pos _)).2 ?_
          rw [← e52]; omega
        have hR2 : R ≤ 2 * 2 ^ (51 - u) := by
          refine Nat.le_of_lt_succ (Nat.lt_of_mul_lt_mul_right (a := 2 ^ (u + 1)) ?_)
          rw [Nat.succ_mul, Nat.mul_assoc, ← e52]; omega
        have hk1 := Nat.mul_le_mul_right (2 ^ (u + 1)) hR1
        have hk2 := Nat.mul_le_mul_right (2 ^ (u + 1)) hR2
        rw [← e52] at hk1
        rw [Nat.mul_assoc, ← e52] at hk2
        have h0 := val_rung s d (R * 2 ^ (u + 1)) (by omega) (fun _ => hk1) (by omega)
        rw [hrb]
        have hdu : (d : Int) - 1074 = -((u + 1 : Nat) : Int) := by omega
        rw [hdu] at h0 hv
        have hpp : p2 (-((u + 1 : Nat) : Int)) * ((2 ^ (u + 1) : Nat) : Rat) = 1 := by rw [← p2_nat, ← p2_add, show -((u + 1 : Nat) : Int) + ((u + 1 : Nat) : Int) = 0 by omega]; exact p2_zero
        have e0 : ((R * 2 ^ (u + 1) : Nat) : Rat) * p2 (-((u + 1 : Nat) : Int)) = (R : Rat) := by push_cast at hpp ⊢; grind
        rw [e0] at h0
        have hp := p2_pos (-((u + 1 : Nat) : Int))
        generalize p2 (-((u + 1 : Nat) : Int)) = P at *
        rw [hp1] at hlo hhi hpp
        generalize 2 ^ u = U at *
        have a1 : (R : Rat) * (2 * U) ≤ c + U := by exact_mod_cast hlo
        have a2 : (c : Rat) + U < R * (2 * U) + 2 * U := by exact_mod_cast hhi
        have a3 := Rat.mul_le_mul_of_nonneg_right a1 (Rat.le_of_lt hp)
        have a4 := Rat.mul_lt_mul_of_pos_right a2 hp
        have hUP : (U : Rat) * P = 1 / 2 := by push_cast at hpp; grind
        have a5 : (R : Rat) * (2 * U) * P = R * (2 * (U * P)) := by grind
        have a6 : ((c : Rat) + U) * P = c * P + U * P := by grind
        have a7 : ((R : Rat) * (2 * U) + 2 * U) * P = R * (2 * (U * P)) + 2 * (U * P) := by grind
        rw [a5, a6, hUP] at a3
        rw [a6, a7, hUP] at a4
        obtain ⟨S, hS, hA⟩ := HA.of s (c * P) R (Rat.mul_nonneg (by exact_mod_cast Nat.zero_le c) (Rat.le_of_lt hp)) (by grind) (by grind)
        exact ⟨h0.1, S, by rw [h0.2, hS], by rw [hv.2]; exact hA⟩
      · have hrb : roundB b = b := by rw [roundB, he, if_neg h1, if_neg h2, if_neg h3]
        rw [hrb]
        refine ⟨hf, ?_⟩
        obtain ⟨u, hu⟩ : ∃ u : Nat, d = 1074 + u := ⟨d - 1074, by omega⟩
        have e0 : (c : Rat) * p2 ((d : Int) - 1074) = ((c * 2 ^ u : Nat) : Rat) := by
          rw [hu, show ((1074 + u : Nat) : Int) - 1074 = (u : Int) by omega, p2_nat]; push_cast; rfl
        rw [hv.2, e0]
        obtain ⟨S, hS, hA⟩ := HA.of s ((c * 2 ^ u : Nat) : Rat) (c * 2 ^ u) (by exact_mod_cast Nat.zero_le _) (by grind) (by grind)
        exact ⟨S, hS, hA⟩

theorem round_odd (b : Nat) (hb : b < 2 ^ 64) (hf : ¬ Fnt .f64 b) : roundB b = b := by
  obtain ⟨s, r, hw, hr, hq, hbe⟩ := split64 b hb
  have he : b / 2 ^ 52 % 2048 = r / 4503599627370496 := by
    have : b / 2 ^ 63 ≤ 1 := by rw [hq]; split <;> decide
    generalize b / 2 ^ 63 = q at *
    omega
  have hge : 9218868437227405312 ≤ r := by
    refine Nat.le_of_not_lt fun hlt => hf ?_
    rw [hw]
    by_cases h0 : r < 4503599627370496
    · have := (val_rung s 0 r (by omega) (by omega) (by omega)).1
      rwa [show 0 * 4503599627370496 + r = r by omega] at this
    · have := (val_rung s (r / 4503599627370496 - 1) (r % 4503599627370496 + 4503599627370496) (by omega) (by omega) (by omega)).1
      rwa [show (r / 4503599627370496 - 1) * 4503599627370496 + (r % 4503599627370496 + 4503599627370496) = r by omega] at this
  rw [roundB, he, if_neg (by omega), if_neg (by omega), if_neg (by omega)]
end Go.Proofs.Ytjllidnkndhgmaa
