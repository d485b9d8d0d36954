/- ToFixed on both sides. -/
import Derived.Test.YtjllidnkndhgmaaRe
namespace Go.Proofs.Ytjllidnkndhgmaa
open Ieee Go.RowKit

theorem cut_zero (s : Bool) (n drop : Nat) : Toward.cut .zero s n drop = n / 2 ^ drop := by
  have e : Toward.cut .zero s n drop = n / 2 ^ min drop (n.log2 + 2) := by simp [Toward.cut, Nat.shiftLeft_eq]
  rw [e]
  by_cases h : drop ≤ n.log2 + 2
  · rw [Nat.min_eq_left h]
  · have h1 : n < 2 ^ (n.log2 + 1) := Nat.lt_log2_self
    have h2 : 2 ^ (n.log2 + 1) ≤ 2 ^ (n.log2 + 2) := Nat.pow_le_pow_right (by decide) (by omega)
    have h3 : 2 ^ (n.log2 + 1) ≤ 2 ^ drop := Nat.pow_le_pow_right (by decide) (by omega)
    rw [Nat.min_eq_right (by omega), Nat.div_eq_of_lt (by omega), Nat.div_eq_of_lt (by omega)]

/-- the whole number within X, towards nought -/
def TR (X : Rat) (R : Int) : Prop := (0 ≤ X ∧ (R : Rat) ≤ X ∧ X < (R : Rat) + 1 ∧ 0 ≤ R) ∨ (X ≤ 0 ∧ -(R : Rat) ≤ -X ∧ -X < -(R : Rat) + 1 ∧ R ≤ 0)

theorem cut_of {s : Bool} (M : Nat) (E : Int) : ∃ n : Nat, Toward.cut .zero s (M <<< E.toNat) (-E).toNat = n ∧ (n : Rat) ≤ M * p2 E ∧ (M : Rat) * p2 E < n + 1 := by
  refine ⟨_, rfl, ?_⟩
  rw [cut_zero, Nat.shiftLeft_eq]
  by_cases h : 0 ≤ E
  · obtain ⟨u, rfl⟩ : ∃ u : Nat, E = u := ⟨E.toNat, by omega⟩
    rw [show (-(u : Int)).toNat = 0 by omega, p2_nat]
    simp only [Int.toNat_natCast, Nat.pow_zero, Nat.div_one]
    push_cast
    constructor <;> grind
  · obtain ⟨u, rfl⟩ : ∃ u : Nat, E = -(u : Int) := ⟨(-E).toNat, by omega⟩
    rw [show (-(u : Int)).toNat = 0 by omega, show (- -(u : Int)).toNat = u by omega, Nat.pow_zero, Nat.mul_one]
    have hpp := p2_neg (u : Int)
    have hp := p2_pos (-(u : Int))
    rw [p2_nat] at hpp
    generalize p2 (-(u : Int)) = P at *
    have h1 := Nat.div_mul_le_self M (2 ^ u)
    have h2 : M < (M / 2 ^ u + 1) * 2 ^ u := by
      have := Nat.div_add_mod M (2 ^ u); have := Nat.mod_lt M (Nat.two_pow_pos u)
      rw [Nat.add_mul, Nat.mul_comm]; omega
    generalize M / 2 ^ u = n at *
    generalize 2 ^ u = U at *
    have a1 : (n : Rat) * U ≤ M := by exact_mod_cast h1
    have a2 : (M : Rat) < (n + 1) * U := by exact_mod_cast h2
    have a3 := Rat.mul_le_mul_of_nonneg_right a1 (Rat.le_of_lt hp)
    have a4 := Rat.mul_lt_mul_of_pos_right a2 hp
    have e1 : (n : Rat) * U * P = n := by rw [Rat.mul_assoc, hpp, Rat.mul_one]
    have e2 : ((n : Rat) + 1) * U * P = n + 1 := by rw [Rat.mul_assoc, hpp, Rat.mul_one]
    rw [e1] at a3
    rw [e2] at a4
    exact ⟨a3, a4⟩

theorem trunc_val {b : Nat} (hf : Fnt .f64 b) (h1 : -4000000000000000000 < V .f64 b) (h2 : V .f64 b < 4000000000000000000) : ∃ n : Int, floatToIntVal .f64 b .i64 = some n ∧ TR (V .f64 b) n ∧ -4000000000000000000 < n ∧ n < 4000000000000000000 := by
  obtain ⟨s, M, E, hr⟩ := hf
  have hv : V .f64 b = sg s * (M * p2 E) := by rw [V, hr]; rfl
  obtain ⟨n, hn, n1, n2⟩ := cut_of (s := s) M E
  have hnn := nn M E
  have hti : (FloatKind.f64.decode b).toInt .zero = some (signed s n 0) := by
    rw [FloatKind.decode, hr]
    simp only [Datum.toInt, Datum.integral, hn]
  have key : TR (V .f64 b) (signed s n 0) ∧ -4000000000000000000 < signed s n 0 ∧ signed s n 0 < 4000000000000000000 := by
    rw [hv] at h1 h2 ⊢
    cases s
    · simp only [sg, Bool.false_eq_true, if_false, Rat.one_mul] at h1 h2
      have hb : (n : Rat) < ((4000000000000000000 : Nat) : Rat) := by push_cast; grind
      have hb' : n < 4000000000000000000 := by exact_mod_cast hb
      simp only [sg, signed, Bool.false_eq_true, if_false, Rat.one_mul, Nat.shiftLeft_zero, TR, Rat.intCast_natCast]
      exact ⟨.inl ⟨hnn, n1, n2, by omega⟩, by omega, by omega⟩
    · simp only [sg, if_true] at h1 h2
      have hb : (n : Rat) < ((4000000000000000000 : Nat) : Rat) := by push_cast; grind
      have hb' : n < 4000000000000000000 := by exact_mod_cast hb
      simp only [sg, signed, if_true, Nat.shiftLeft_zero, TR, Rat.intCast_neg, Rat.intCast_natCast]
      exact ⟨.inr ⟨by grind, by grind, by grind, by omega⟩, by omega, by omega⟩
  refine ⟨signed s n 0, ?_, key⟩
  have k1 := key.2.1
  have k2 := key.2.2
  simp only [floatToIntVal, hti]
  have e1 : IntKind.i64.min = -9223372036854775808 := by decide
  have e2 : IntKind.i64.max = 9223372036854775807 := by decide
  rw [if_pos (by rw [e1, e2]; omega)]

theorem TR.whole {X : Rat} {R n : Int} (h : TR X n) (hX : X = R) : n = R := by
  subst hX
  rcases h with ⟨a, b, c, d⟩ | ⟨a, b, c, d⟩
  · have h1 : n ≤ R := by exact_mod_cast b
    have h2 : R < n + 1 := by exact_mod_cast c
    omega
  · have h1 : (R : Rat) ≤ n := by grind
    have h2 : R ≤ n := by exact_mod_cast h1
    have h3 : (n : Rat) < R + 1 := by grind
    have h4 : n < R + 1 := by exact_mod_cast h3
    omega

end Go.Proofs.Ytjllidnkndhgmaa
