/- Signs of floats; math.Abs; amounts; VectorOk, VelocityOk, Dot, Length, Unit: contracts. -/
import Derived.Test.YtjllidnkndhgmaaFt
import Derived.Test.YtjllidnkndhgmaaDw
namespace Go.Proofs.Ytjllidnkndhgmaa
open Go.RowKit
open Ieee (Format Datum)

/-- a word without its sign -/
def mag (k : FloatKind) (b : Nat) : Nat := b % k.format.signWeight

def pos : Datum → Datum
  | .number _ m e => .number false m e
  | .infinity _ => .infinity false
  | .nan _ t => .nan false t

theorem sw_pos (k : FloatKind) : 0 < k.format.signWeight := Nat.two_pow_pos _
theorem width_sw (k : FloatKind) : 2 ^ k.format.width = 2 * k.format.signWeight := by cases k <;> decide

theorem read_mag (k : FloatKind) (b : Nat) : k.format.read (mag k b) = pos (k.format.read b) := by
  have hp := sw_pos k
  have hlt : b % k.format.signWeight < k.format.signWeight := Nat.mod_lt _ hp
  simp only [mag, Format.read, Nat.mod_mod, Nat.div_eq_of_lt hlt]
  split
  · rfl
  · split
    · rfl
    · split <;> rfl

theorem xor_low {n x : Nat} (h : x < 2 ^ n) : x ^^^ 2 ^ n = 2 ^ n + x := by
  apply Nat.eq_of_testBit_eq
  intro i
  rw [Nat.testBit_xor, Nat.testBit_two_pow]
  rcases Nat.lt_trichotomy i n with hi | hi | hi
  · rw [Nat.testBit_two_pow_add_gt hi]
    have : ¬ n = i := by omega
    simp [this]
  · subst hi
    rw [Nat.testBit_two_pow_add_eq, Nat.testBit_lt_two_pow h]
    simp
  · have h1 : x < 2 ^ i := Nat.lt_trans h (Nat.pow_lt_pow_right (by omega) hi)
    have h2 : 2 ^ n + x < 2 ^ i := by
      have : 2 ^ (n + 1) ≤ 2 ^ i := Nat.pow_le_pow_right (by omega) hi
      rw [Nat.pow_succ] at this
      omega
    rw [Nat.testBit_lt_two_pow h1, Nat.testBit_lt_two_pow h2]
    have : ¬ n = i := by omega
    simp [this]
theorem xor_high {n x : Nat} (h : 2 ^ n ≤ x) (h2 : x < 2 * 2 ^ n) : x ^^^ 2 ^ n = x - 2 ^ n := by
  obtain ⟨y, rfl⟩ : ∃ y, x = 2 ^ n + y := ⟨x - 2 ^ n, by omega⟩
  have hy : y < 2 ^ n := by omega
  rw [← xor_low hy, Nat.xor_assoc, Nat.xor_self, Nat.xor_zero, xor_low hy]
  omega

theorem read_neg (k : FloatKind) (b : Nat) (h : Fit k b) : k.format.read (Op.negFloat k b) = (k.format.read b).opposite := by
  have hp := sw_pos k
  have hw : b < 2 * k.format.signWeight := by have := width_sw k; unfold Fit at h; omega
  have e : Op.negFloat k b = if b < k.format.signWeight then k.format.signWeight + b else b - k.format.signWeight := by
    unfold Op.negFloat
    split
    · rename_i hb; exact xor_low hb
    · rename_i hb; exact xor_high (Nat.not_lt.1 hb) hw
  by_cases hb : b < k.format.signWeight
  · rw [e, if_pos hb]
    simp only [Format.read, Nat.add_mod_left, Nat.mod_eq_of_lt hb, Nat.add_div_left _ hp, Nat.div_eq_of_lt hb]
    split
    · rfl
    · split
      · rfl
      · split <;> rfl
  · rw [e, if_neg hb]
    obtain ⟨y, rfl⟩ : ∃ y, b = k.format.signWeight + y := ⟨b - k.format.signWeight, by omega⟩
    have hy : y < k.format.signWeight := by omega
    simp only [Format.read, Nat.add_sub_cancel_left, Nat.add_mod_left, Nat.mod_eq_of_lt hy, Nat.add_div_left _ hp, Nat.div_eq_of_lt hy]
    split
    · rfl
    · split
      · rfl
      · split <;> rfl

def leB (k : FloatKind) (x y : Nat) : Bool := k.format.order x y == some .lt || k.format.order x y == some .eq
/-- the amount is at most M -/
def amtOk (k : FloatKind) (x M : Nat) : Bool := leB k (mag k x) M

theorem signed_zero (s : Bool) (u : Nat) : Ieee.signed s 0 u = 0 := by cases s <;> simp [Ieee.signed, Nat.shiftLeft_eq]

/-- an amount that is taken by a test of the sign -/
theorem amount_order (k : FloatKind) (x M : Nat) (hx : Fit k x) :
    k.format.order (if k.format.order x 0 = some .lt then Op.negFloat k x else x) M = k.format.order (mag k x) M := by
  have h0 : k.format.read 0 = .number false 0 k.format.leastPlace := by cases k <;> decide
  cases hr : k.format.read x with
  | number s m e =>
    cases s
    · have : ¬ k.format.order x 0 = some .lt := by
        simp only [Format.order, hr, h0, Datum.order, signed_zero]
        simp only [Ieee.signed, Bool.false_eq_true, if_false, compare, compareOfLessAndEq]
        generalize m <<< (e - min e k.format.leastPlace).toNat = B
        intro h
        split at h
        · omega
        · split at h <;> cases h
      rw [if_neg this]
      simp only [Format.order, read_mag, hr, pos]
    · by_cases hm : m = 0
      · subst hm
        have : ¬ k.format.order x 0 = some .lt := by
          simp only [Format.order, hr, h0, Datum.order, signed_zero]
          simp
        rw [if_neg this]
        simp only [Format.order, read_mag, hr, pos]
        cases k.format.read M <;> simp [Datum.order, signed_zero]
      · have : k.format.order x 0 = some .lt := by
          simp only [Format.order, hr, h0, Datum.order, signed_zero]
          have hB : 0 < m <<< (e - min e k.format.leastPlace).toNat := by rw [Nat.shiftLeft_eq]; exact Nat.mul_pos (Nat.pos_of_ne_zero hm) (Nat.two_pow_pos _)
          simp only [Ieee.signed, if_true, compare, compareOfLessAndEq]
          generalize m <<< (e - min e k.format.leastPlace).toNat = B at *
          rw [if_pos (by omega)]
        rw [if_pos this]
        simp only [Format.order, read_mag, read_neg k x hx, hr, pos, Datum.opposite]
        rfl
  | infinity s =>
    cases s
    · have : ¬ k.format.order x 0 = some .lt := by simp [Format.order, hr, h0, Datum.order]
      rw [if_neg this]
      simp only [Format.order, read_mag, hr, pos]
    · have : k.format.order x 0 = some .lt := by simp [Format.order, hr, h0, Datum.order]
      rw [if_pos this]
      simp only [Format.order, read_mag, read_neg k x hx, hr, pos, Datum.opposite]
      rfl
  | nan s t =>
    have : ¬ k.format.order x 0 = some .lt := by simp [Format.order, hr, h0, Datum.order]
    rw [if_neg this]
    simp only [Format.order, read_mag, hr, pos]
    cases k.format.read M <;> rfl

theorem mag_fit (k : FloatKind) (b : Nat) : Fit k (mag k b) := by
  have := width_sw k; have h := Nat.mod_lt b (sw_pos k); unfold Fit mag; omega

theorem bits_run (b : Nat) (w : World) : (callFunc 106 #[.float .f64 b]).run Try.prog w = .ok (.value (.int .u64 b)) w := by
  rw [run_callFunc_extern (e := Extern.MathFloatBits.float64bits) Try.func106 (by kernel_rfl) (by kernel_rfl) (by kernel_rfl) (by kernel_rfl)]
  rfl
theorem frombits_run (n : Int) (w : World) : (callFunc 107 #[.int .u64 n]).run Try.prog w = .ok (.value (.float .f64 n.toNat)) w := by
  rw [run_callFunc_extern (e := Extern.MathFloatBits.float64frombits) Try.func107 (by kernel_rfl) (by kernel_rfl) (by kernel_rfl) (by kernel_rfl)]
  rfl

theorem and_not_top (b : Nat) (h : b < 2 ^ 64) : Go.bits .andNot .u64 (b : Int) 9223372036854775808 = ((b % 2 ^ 63 : Nat) : Int) := by
  have h1 : (BitVec.ofInt 64 (b : Int) &&& ~~~ (BitVec.ofInt 64 9223372036854775808)).toNat = b % 2 ^ 63 := by
    rw [BitVec.toNat_and]
    have e1 : (BitVec.ofInt 64 (b : Int)).toNat = b := by
      rw [BitVec.ofInt_natCast, BitVec.toNat_ofNat]; exact Nat.mod_eq_of_lt h
    have e2 : (~~~ (BitVec.ofInt 64 9223372036854775808)).toNat = 2 ^ 63 - 1 := by decide
    rw [e1, e2, Nat.and_two_pow_sub_one_eq_mod]
  show IntKind.u64.wrap (((BitVec.ofInt 64 (b : Int) &&& ~~~ (BitVec.ofInt 64 9223372036854775808)).toNat : Nat) : Int) = _
  rw [h1]
  have : b % 2 ^ 63 < 2 ^ 63 := Nat.mod_lt _ (by decide)
  exact IntWalk.u64_in _ (by omega)

theorem abs_any (b : Nat) (h : Fit .f64 b) (w : World) :
    Calls Try.prog 79 #[.float .f64 b] w fun e w' => e = .returned (.float .f64 (mag .f64 b)) ∧ w = w' := by
  have hb := bits_run
  have hf := frombits_run
  have ha := and_not_top b h
  go_enter Try.func79, Try.ntmps79
  go_wp2
  go_ret
  exact ⟨by simp; rfl, rfl⟩

theorem amtOk_def (k : FloatKind) (x M : Nat) : amtOk k x M = (k.format.order (mag k x) M == some .lt || k.format.order (mag k x) M == some .eq) := rfl

def vecOk (a b : Nat) : Bool := amtOk .f64 a 4726483295884279808 && amtOk .f64 b 4726483295884279808
def velOk (a b : Nat) : Bool := amtOk .f32 a 1120403456 && amtOk .f32 b 1120403456

theorem iVectorOk (a b : Nat) (ha : Fit .f64 a) (hb : Fit .f64 b) (w : World) :
    Calls Try.prog 81 #[.complex .f64 a b] w fun e w' => e = .returned (.bool (vecOk a b)) ∧ w = w' := by
  have HA := hid ha
  have HB := hid hb
  clear ha hb
  have ho : vecOk a b = (amtOk .f64 a 4726483295884279808 && amtOk .f64 b 4726483295884279808) := rfl
  have HO := hid ho
  clear ho
  cases h1 : amtOk .f64 a 4726483295884279808
  · rw [amtOk_def] at h1
    go_enter Try.func81, Try.ntmps81
    go_wp2_with (go_at_call 79; refine (abs_any _ HA.out _).mono ?_; rintro e w1 ⟨rfl, rfl⟩)
    go_ret
    exact ⟨by rw [HO.out, amtOk_def, h1]; rfl, rfl⟩
  · rw [amtOk_def] at h1
    go_enter Try.func81, Try.ntmps81
    go_wp2_with (go_at_call 79; first | ((with_reducible refine (abs_any a HA.out _).mono ?_); rintro e w1 ⟨rfl, rfl⟩) | ((with_reducible refine (abs_any b HB.out _).mono ?_); rintro e w1 ⟨rfl, rfl⟩))
    go_ret
    exact ⟨by rw [HO.out, amtOk_def _ a, h1]; rfl, rfl⟩

theorem sAmount (a : Nat) (ha : Fit .f64 a) (w : World) :
    Calls Try.prog 97 #[.float .f64 a] w fun e w' => ∃ r, e = .returned (.float .f64 r) ∧ Hid (∀ M, FloatKind.f64.format.order r M = FloatKind.f64.format.order (mag .f64 a) M) ∧ w = w' := by
  have hneg := run_neg (P := Try.prog)
  have HM := hid (fun M => amount_order .f64 a M ha)
  clear ha
  by_cases h : FloatKind.f64.format.order a 0 = some .lt
  · have hb : (FloatKind.f64.format.order a 0 == some .lt) = true := by simpa using h
    have HB := hid h
    clear h
    go_enter Try.func97, Try.ntmps97
    go_wp2
    go_ret
    exact ⟨_, rfl, fun M => by have := HM.out M; rw [if_pos HB.out] at this; exact this, rfl⟩
  · have hb : (FloatKind.f64.format.order a 0 == some .lt) = false := by simpa using h
    have HB := hid h
    clear h
    go_enter Try.func97, Try.ntmps97
    go_wp2
    go_ret
    exact ⟨_, rfl, fun M => by have := HM.out M; rw [if_neg HB.out] at this; exact this, rfl⟩

theorem sVectorOk (a b : Nat) (ha : Fit .f64 a) (hb : Fit .f64 b) (w : World) :
    Calls Try.prog 55 #[.complex .f64 a b] w fun e w' => e = .returned (.bool (vecOk a b)) ∧ w = w' := by
  have HA := hid ha
  have HB := hid hb
  clear ha hb
  have ho : vecOk a b = (amtOk .f64 a 4726483295884279808 && amtOk .f64 b 4726483295884279808) := rfl
  have HO := hid ho
  clear ho
  cases h1 : amtOk .f64 a 4726483295884279808
  · rw [amtOk_def] at h1
    go_enter Try.func55, Try.ntmps55
    go_wp2_with (go_at_call 97; refine (sAmount _ HA.out _).mono ?_; rintro e w1 ⟨r, rfl, hr, rfl⟩; rw [← hr.out] at h1)
    go_ret
    exact ⟨by rw [HO.out, amtOk_def, ← hr.out, h1]; rfl, rfl⟩
  · rw [amtOk_def] at h1
    go_enter Try.func55, Try.ntmps55
    go_wp2_with (go_at_call 97; first | ((with_reducible refine (sAmount a HA.out _).mono ?_); rintro e w1 ⟨r, rfl, hr, rfl⟩; rw [← hr.out] at h1) | ((with_reducible refine (sAmount b HB.out _).mono ?_); rintro e w1 ⟨r2, rfl, hr2, rfl⟩))
    go_ret
    exact ⟨by rw [HO.out, amtOk_def _ a, amtOk_def _ b, ← hr.out, ← hr2.out, h1]; rfl, rfl⟩

theorem vAmount (f : Nat) (hf : f = 93 ∨ f = 88) (a : Nat) (ha : Fit .f32 a) (w : World) :
    Calls Try.prog f #[.float .f32 a] w fun e w' => ∃ r, e = .returned (.float .f32 r) ∧ Hid (∀ M, FloatKind.f32.format.order r M = FloatKind.f32.format.order (mag .f32 a) M) ∧ w = w' := by
  have hneg := run_neg (P := Try.prog)
  have HM := hid (fun M => amount_order .f32 a M ha)
  clear ha
  by_cases h : FloatKind.f32.format.order a 0 = some .lt
  · have hb : (FloatKind.f32.format.order a 0 == some .lt) = true := by simpa using h
    have HB := hid h
    clear h
    rcases hf with rfl | rfl
    · go_enter Try.func93, Try.ntmps93
      go_wp2
      go_ret
      exact ⟨_, rfl, fun M => by have := HM.out M; rw [if_pos HB.out] at this; exact this, rfl⟩
    · go_enter Try.func88, Try.ntmps88
      go_wp2
      go_ret
      exact ⟨_, rfl, fun M => by have := HM.out M; rw [if_pos HB.out] at this; exact this, rfl⟩
  · have hb : (FloatKind.f32.format.order a 0 == some .lt) = false := by simpa using h
    have HB := hid h
    clear h
    rcases hf with rfl | rfl
    · go_enter Try.func93, Try.ntmps93
      go_wp2
      go_ret
      exact ⟨_, rfl, fun M => by have := HM.out M; rw [if_neg HB.out] at this; exact this, rfl⟩
    · go_enter Try.func88, Try.ntmps88
      go_wp2
      go_ret
      exact ⟨_, rfl, fun M => by have := HM.out M; rw [if_neg HB.out] at this; exact this, rfl⟩

theorem iVelocityOk (a b : Nat) (ha : Fit .f32 a) (hb : Fit .f32 b) (w : World) :
    Calls Try.prog 48 #[.complex .f32 a b] w fun e w' => e = .returned (.bool (velOk a b)) ∧ w = w' := by
  have HA := hid ha
  have HB := hid hb
  clear ha hb
  have ho : velOk a b = (amtOk .f32 a 1120403456 && amtOk .f32 b 1120403456) := rfl
  have HO := hid ho
  clear ho
  cases h1 : amtOk .f32 a 1120403456
  · rw [amtOk_def] at h1
    go_enter Try.func48, Try.ntmps48
    go_wp2_with (go_at_call 93; refine (vAmount _ (.inl rfl) _ HA.out _).mono ?_; rintro e w1 ⟨r, rfl, hr, rfl⟩; rw [← hr.out] at h1)
    go_ret
    exact ⟨by rw [HO.out, amtOk_def, ← hr.out, h1]; rfl, rfl⟩
  · rw [amtOk_def] at h1
    go_enter Try.func48, Try.ntmps48
    go_wp2_with (go_at_call 93; first | ((with_reducible refine (vAmount _ (.inl rfl) a HA.out _).mono ?_); rintro e w1 ⟨r, rfl, hr, rfl⟩; rw [← hr.out] at h1) | ((with_reducible refine (vAmount _ (.inl rfl) b HB.out _).mono ?_); rintro e w1 ⟨r2, rfl, hr2, rfl⟩))
    go_ret
    exact ⟨by rw [HO.out, amtOk_def _ a, amtOk_def _ b, ← hr.out, ← hr2.out, h1]; rfl, rfl⟩

theorem sVelocityOk (a b : Nat) (ha : Fit .f32 a) (hb : Fit .f32 b) (w : World) :
    Calls Try.prog 44 #[.complex .f32 a b] w fun e w' => e = .returned (.bool (velOk a b)) ∧ w = w' := by
  have HA := hid ha
  have HB := hid hb
  clear ha hb
  have ho : velOk a b = (amtOk .f32 a 1120403456 && amtOk .f32 b 1120403456) := rfl
  have HO := hid ho
  clear ho
  cases h1 : amtOk .f32 a 1120403456
  · rw [amtOk_def] at h1
    go_enter Try.func44, Try.ntmps44
    go_wp2_with (go_at_call 88; refine (vAmount _ (.inr rfl) _ HA.out _).mono ?_; rintro e w1 ⟨r, rfl, hr, rfl⟩; rw [← hr.out] at h1)
    go_ret
    exact ⟨by rw [HO.out, amtOk_def, ← hr.out, h1]; rfl, rfl⟩
  · rw [amtOk_def] at h1
    go_enter Try.func44, Try.ntmps44
    go_wp2_with (go_at_call 88; first | ((with_reducible refine (vAmount _ (.inr rfl) a HA.out _).mono ?_); rintro e w1 ⟨r, rfl, hr, rfl⟩; rw [← hr.out] at h1) | ((with_reducible refine (vAmount _ (.inr rfl) b HB.out _).mono ?_); rintro e w1 ⟨r2, rfl, hr2, rfl⟩))
    go_ret
    exact ⟨by rw [HO.out, amtOk_def _ a, amtOk_def _ b, ← hr.out, ← hr2.out, h1]; rfl, rfl⟩

end Go.Proofs.Ytjllidnkndhgmaa
