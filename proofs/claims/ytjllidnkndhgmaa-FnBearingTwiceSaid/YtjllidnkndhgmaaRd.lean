/- math.Round and thousandths: contracts. -/
import Derived.Test.YtjllidnkndhgmaaLw
namespace Go.Proofs.Ytjllidnkndhgmaa
open Go.RowKit

/-- math.Round on words -/
def roundB (b : Nat) : Nat :=
  if b / 2 ^ 52 % 2048 < 1022 then b / 2 ^ 63 * 2 ^ 63
  else if b / 2 ^ 52 % 2048 = 1022 then b / 2 ^ 63 * 2 ^ 63 + 4607182418800017408
  else if b / 2 ^ 52 % 2048 < 1075 then (b + 2 ^ (1074 - b / 2 ^ 52 % 2048)) / 2 ^ (1075 - b / 2 ^ 52 % 2048) * 2 ^ (1075 - b / 2 ^ 52 % 2048)
  else b

theorem and_2047 (b : Nat) (h : b < 2 ^ 64) : Go.bits .and .u64 ((b : Int) / 4503599627370496) 2047 = ((b / 2 ^ 52 % 2048 : Nat) : Int) := by
  have e0 : ((b : Int) / 4503599627370496) = ((b / 2 ^ 52 : Nat) : Int) := by simp
  have h1 : b / 2 ^ 52 < 2 ^ 12 := by omega
  rw [e0]
  have := (bits_nat .u64 12 (by decide) (fun n h0 h2 => IntWalk.u64_in n (by omega)) (b / 2 ^ 52) 2047 h1 (by decide)).1
  rw [show (2047 : Int) = ((2047 : Nat) : Int) from rfl, this]
  congr 1
  exact Nat.and_two_pow_sub_one_eq_mod (b / 2 ^ 52) 11

theorem and_top (b : Nat) (h : b < 2 ^ 64) : Go.bits .and .u64 (b : Int) 9223372036854775808 = ((b / 2 ^ 63 * 2 ^ 63 : Nat) : Int) := by
  have := (bits_nat .u64 64 (by decide) (fun n h0 h2 => IntWalk.u64_in n (by omega)) b 9223372036854775808 h (by decide)).1
  rw [show (9223372036854775808 : Int) = ((9223372036854775808 : Nat) : Int) from rfl, this]
  congr 1
  rw [show (9223372036854775808 : Nat) = 2 ^ 63 from by decide]
  apply Nat.eq_of_testBit_eq
  intro i
  rw [Nat.testBit_and, Nat.testBit_two_pow, Nat.testBit_mul_two_pow, Nat.testBit_div_two_pow]
  by_cases hi : 63 ≤ i
  · by_cases h3 : 63 = i
    · subst h3; simp
    · have : b.testBit i = false := Nat.testBit_lt_two_pow (Nat.lt_of_lt_of_le h (Nat.pow_le_pow_right (by decide) (by omega)))
      simp [hi, h3, this]
  · simp [hi, show ¬ 63 = i by omega]

theorem or_one (q : Nat) (h : q < 2) : Go.bits .or .u64 ((q * 2 ^ 63 : Nat) : Int) 4607182418800017408 = ((q * 2 ^ 63 + 4607182418800017408 : Nat) : Int) := by
  have := (bits_nat .u64 64 (by decide) (fun n h0 h2 => IntWalk.u64_in n (by omega)) (q * 2 ^ 63) 4607182418800017408 (by omega) (by decide)).2
  rw [show (4607182418800017408 : Int) = ((4607182418800017408 : Nat) : Int) from rfl, this]
  congr 1
  rw [Nat.mul_comm]
  exact (Nat.two_pow_add_eq_or_of_lt (by decide) q).symm

theorem andnot_low (x t : Nat) (h : x < 2 ^ 64) (ht : t ≤ 63) : Go.bits .andNot .u64 (x : Int) ((2 ^ t - 1 : Nat) : Int) = ((x / 2 ^ t * 2 ^ t : Nat) : Int) := by
  have hp : 2 ^ t ≤ 2 ^ 63 := Nat.pow_le_pow_right (by decide) ht
  have hp0 : 0 < 2 ^ t := Nat.two_pow_pos t
  have hx : x % 2 ^ IntKind.u64.bits = x := Nat.mod_eq_of_lt (show x < 2 ^ 64 from h)
  have hy : (2 ^ t - 1) % 2 ^ IntKind.u64.bits = 2 ^ t - 1 := Nat.mod_eq_of_lt (show _ < 2 ^ 64 by omega)
  have key : x &&& (2 ^ 64 - (2 ^ t - 1 + 1)) = x / 2 ^ t * 2 ^ t := by
    apply Nat.eq_of_testBit_eq
    intro i
    rw [Nat.testBit_and, Nat.testBit_two_pow_sub_succ (show 2 ^ t - 1 < 2 ^ 64 by omega), Nat.testBit_two_pow_sub_one, Nat.testBit_mul_two_pow, Nat.testBit_div_two_pow]
    by_cases hi : t ≤ i
    · by_cases h64 : i < 64
      · simp [hi, h64, Nat.not_lt.2 hi]
      · have : x.testBit i = false := Nat.testBit_lt_two_pow (Nat.lt_of_lt_of_le h (Nat.pow_le_pow_right (by decide) (Nat.not_lt.1 h64)))
        simp [hi, h64, this]
    · simp [hi, Nat.not_le.1 hi]
  have hle : x / 2 ^ t * 2 ^ t ≤ x := Nat.div_mul_le_self x _
  have e : Go.bits .andNot .u64 (x : Int) ((2 ^ t - 1 : Nat) : Int) = IntKind.u64.wrap ((x &&& (2 ^ 64 - (2 ^ t - 1 + 1)) : Nat) : Int) := by
    simp only [Go.bits, BitVec.ofInt_natCast, BitVec.toNat_and, BitVec.toNat_not, BitVec.toNat_ofNat, hx, hy]
    rw [show 2 ^ IntKind.u64.bits - 1 - (2 ^ t - 1) = 2 ^ 64 - (2 ^ t - 1 + 1) from by show 2 ^ 64 - 1 - (2 ^ t - 1) = _; omega]
  rw [e, key]
  exact IntWalk.u64_in _ (by omega)

set_option maxRecDepth 100000 in
set_option maxHeartbeats 1000000 in
theorem round_any (b : Nat) (hb : Fit .f64 b) (w : World) :
    Calls Try.prog 77 #[.float .f64 b] w fun e w' => e = .returned (.float .f64 (roundB b)) ∧ w = w' := by
  have hbits := bits_run
  have hfrom := frombits_run
  have hb' : b < 2 ^ 64 := hb
  have hE := and_2047 b hb'
  obtain ⟨e, he⟩ : ∃ e : Nat, e = b / 2 ^ 52 % 2048 := ⟨_, rfl⟩
  rw [← he] at hE
  have he2 : e < 2048 := by omega
  have HE := hid he
  clear he hb
  have hq : b / 2 ^ 63 < 2 := by omega
  by_cases h1 : e < 1022
  · go_enter Try.func77, Try.ntmps77
    go_wp2
    go_ret
    have he := HE.out
    have htop := and_top b hb'
    refine ⟨?_, rfl⟩
    rw [roundB, ← he, if_pos h1, htop]
    rfl
  · by_cases h2 : e = 1022
    · go_enter Try.func77, Try.ntmps77
      go_wp2
      go_ret
      have he := HE.out
      have htop := and_top b hb'
      refine ⟨?_, rfl⟩
      rw [roundB, ← he, if_neg h1, if_pos h2, htop, or_one _ hq]
      rfl
    · by_cases h3 : e < 1075
      · go_enter Try.func77, Try.ntmps77
        go_wp2
        go_ret
        have he := HE.out
        refine ⟨?_, rfl⟩
        obtain ⟨d, hd⟩ : ∃ d, d = 1074 - e := ⟨_, rfl⟩
        have hd1 : 1075 - e = d + 1 := by omega
        have hd2 : e - 1023 = 51 - d := by omega
        have hd3 : d ≤ 51 := by omega
        rw [roundB, ← he, if_neg h1, if_neg h2, if_pos h3, ← hd, hd1]
        have hp1 : (2251799813685248 : Int) / 2 ^ (51 - d) = ((2 ^ d : Nat) : Int) := by
          rw [show (2251799813685248 : Int) / 2 ^ (51 - d) = ((2 ^ 51 / 2 ^ (51 - d) : Nat) : Int) by simp, Nat.pow_div (by omega) (by decide), show 51 - (51 - d) = d by omega]
        have hp2 : (4503599627370495 : Int) / 2 ^ (51 - d) = ((2 ^ (d + 1) - 1 : Nat) : Int) := by
          rw [show (4503599627370495 : Int) / 2 ^ (51 - d) = (((2 ^ 52 - 1) / 2 ^ (51 - d) : Nat) : Int) by simp]
          congr 1
          have e1 : 2 ^ 52 = 2 ^ (d + 1) * 2 ^ (51 - d) := by rw [← Nat.pow_add]; congr 1; omega
          have e2 := Nat.two_pow_pos (51 - d)
          have e3 := Nat.two_pow_pos (d + 1)
          rw [e1]
          refine (Nat.div_eq_iff e2).2 ⟨?_, ?_⟩
          · rw [Nat.sub_mul]; omega
          · rw [Nat.sub_mul]; omega
        have hlt : b + 2 ^ d < 2 ^ 64 := by
          have : 2 ^ d ≤ 2 ^ 51 := Nat.pow_le_pow_right (by decide) hd3
          omega
        have hz : IntKind.u64.wrap ((b : Int) + ((2 ^ d : Nat) : Int)) = ((b + 2 ^ d : Nat) : Int) := by
          rw [show (b : Int) + ((2 ^ d : Nat) : Int) = ((b + 2 ^ d : Nat) : Int) by simp]
          generalize b + 2 ^ d = z at hlt
          exact IntWalk.u64_in _ (by omega)
        rw [hd2, hp1, hp2, hz, andnot_low _ _ hlt (by omega)]
        rfl
      · go_enter Try.func77, Try.ntmps77
        go_wp2
        go_ret
        have he := HE.out
        refine ⟨?_, rfl⟩
        rw [roundB, ← he, if_neg h1, if_neg h2, if_neg h3]
        rfl
end Go.Proofs.Ytjllidnkndhgmaa
