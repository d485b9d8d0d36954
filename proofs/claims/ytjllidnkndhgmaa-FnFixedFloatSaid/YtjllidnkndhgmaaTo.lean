/- ToFixed: contracts. -/
import Derived.Test.YtjllidnkndhgmaaTf
namespace Go.Proofs.Ytjllidnkndhgmaa
open Ieee Go.RowKit

theorem big_fnt : Fnt .f64 9218868437227405311 := ⟨_, _, _, rfl⟩
theorem fixmax_fnt : Fnt .f64 4741671816366391296 ∧ V .f64 4741671816366391296 = 1000000000 := by
  have h : FloatKind.f64.format.read 4741671816366391296 = .number false 8388608000000000 (-23) := by decide
  refine ⟨⟨_, _, _, h⟩, ?_⟩
  rw [V, h]
  show sg false * ((8388608000000000 : Nat) * p2 (-23)) = _
  have h := p2_neg 23
  have : p2 23 = 8388608 := by have := p2_nat 23; simpa using this
  rw [this] at h
  simp only [sg]
  grind

/-- the thousandths of a product p of a number and a thousand -/
def TF (c : Option Nat) (n : Int) (ok : Bool) : Prop :=
  (ok = true ∧ ∃ p, c = some p ∧ Fnt .f64 p ∧ -(2000000001 / 2) < V .f64 p ∧ V .f64 p < 2000000001 / 2 ∧ HA (V .f64 p) n) ∨
  (ok = false ∧ n = 0 ∧ ∀ p, c = some p → Fnt .f64 p → ¬ (-(2000000001 / 2) < V .f64 p ∧ V .f64 p < 2000000001 / 2))

theorem TF.same {c : Option Nat} {n m : Int} {a b : Bool} (h : TF c n a) (g : TF c m b) : n = m ∧ a = b := by
  rcases h with ⟨rfl, p, hp, hf, h1, h2, hA⟩ | ⟨rfl, rfl, hn⟩ <;> rcases g with ⟨rfl, q, hq, gf, g1, g2, gA⟩ | ⟨rfl, rfl, gn⟩
  · rw [hp] at hq; cases hq; exact ⟨hA.same gA, rfl⟩
  · exact absurd ⟨h1, h2⟩ (gn p hp hf)
  · exact absurd ⟨g1, g2⟩ (hn q hq gf)
  · exact ⟨rfl, rfl⟩

theorem mul_fnt {x y r : Nat} (hy : Fnt .f64 y) (h : fop .mul .f64 (fc .f64 x) (fc .f64 y) = some r) (hr : Fnt .f64 r) : Fnt .f64 x := by
  obtain ⟨s, M, E, hy'⟩ := hy
  cases hx : FloatKind.f64.format.read x with
  | number s m e => exact ⟨s, m, e, hx⟩
  | nan s t =>
    have : fc .f64 x = none := by rw [fc, hx]; rfl
    rw [this] at h; cases h
  | infinity t =>
    have h1 : fc .f64 x = some x := by rw [fc, hx]; rfl
    rw [h1, fc_fnt ⟨s, M, E, hy'⟩] at h
    have h2 : floatBits .mul .f64 x y = some r := h
    have h3 : FloatKind.f64.format.mul x y = some r := h2
    simp only [Format.mul, hx, hy', Datum.product] at h3
    by_cases hM : M = 0
    · rw [if_pos hM] at h3; cases h3
    · rw [if_neg hM] at h3
      obtain ⟨s', M', E', hr'⟩ := hr
      simp only [Option.map_some, Option.some.injEq] at h3
      rw [← h3] at hr'
      have : FloatKind.f64.format.read (FloatKind.f64.format.write (.infinity (t ^^ s))) = .infinity (t ^^ s) := by
        cases t <;> cases s <;> decide
      rw [this] at hr'; cases hr'

theorem mag_le_big {x : Nat} (h : Fnt .f64 x) : V .f64 (mag .f64 x) ≤ V .f64 9218868437227405311 := by
  have hm := (mag_val h).1
  obtain ⟨r, hr⟩ : ∃ r, r = mag .f64 x := ⟨_, rfl⟩
  have hlt : r < 9223372036854775808 := by rw [hr]; exact Nat.mod_lt _ (by decide)
  have hw : r = Format.word FloatKind.f64.format false r := rfl
  rw [← hr] at hm ⊢
  rw [hw] at hm
  have hlt2 := rung_of hm hlt
  have hbig := (val_rung false 2045 9007199254740991 (by decide) (fun _ => by decide) (by decide)).2
  rw [show Format.word FloatKind.f64.format false (2045 * 4503599627370496 + 9007199254740991) = 9218868437227405311 from by decide] at hbig
  obtain ⟨d, c, hdc, hc, hd1, hd2⟩ : ∃ d c : Nat, r = d * 4503599627370496 + c ∧ c < 9007199254740992 ∧ (0 < d → 4503599627370496 ≤ c) ∧ d ≤ 2045 := by
    by_cases h0 : r < 4503599627370496
    · exact ⟨0, r, by omega, by omega, by omega, by omega⟩
    · exact ⟨r / 4503599627370496 - 1, r % 4503599627370496 + 4503599627370496, by omega, by omega, by omega, by omega⟩
  have hv := (val_rung false d c (by omega) hd1 (by omega)).2
  rw [← hdc, ← hw] at hv
  rw [hv, hbig]
  have h1 : (c : Rat) ≤ ((9007199254740991 : Nat) : Rat) := by exact_mod_cast (by omega : c ≤ 9007199254740991)
  have h2 := p2_mono (a := (d : Int) - 1074) (b := ((2045 : Nat) : Int) - 1074) (by omega)
  have h3 := Rat.mul_le_mul_of_nonneg_right h1 (Rat.le_of_lt (p2_pos ((d : Int) - 1074)))
  have h4 := Rat.mul_le_mul_of_nonneg_left h2 (show (0 : Rat) ≤ ((9007199254740991 : Nat) : Rat) by exact_mod_cast Nat.zero_le _)
  simp only [sg, Bool.false_eq_true, if_false, Rat.one_mul]
  exact Rat.le_trans h3 h4

set_option maxRecDepth 100000 in
theorem iFinite (x : Nat) (hx : Fit .f64 x) (w : World) :
    Calls Try.prog 78 #[.float .f64 x] w fun e w' => ∃ b, e = .returned (.bool b) ∧ (b = true ↔ Fnt .f64 x) ∧ w = w' := by
  have HX := hid hx
  cases hr : FloatKind.f64.format.read x with
  | nan s t =>
    have h1 : FloatKind.f64.format.order x x = none := by simp only [Format.order, hr, Datum.order]
    have hn : ¬ Fnt .f64 x := by rintro ⟨_, _, _, h⟩; rw [hr] at h; cases h
    have h2 : (FloatKind.f64.format.order x x != some .eq) = true := by rw [h1]; rfl
    have HN := hid hn
    clear hn h1 hr hx
    go_enter Try.func78, Try.ntmps78
    go_wp2_with (first | go_in | fail)
    go_ret
    exact ⟨_, rfl, ⟨fun h => (by cases h), fun h => absurd h HN.out⟩, rfl⟩
  | infinity s =>
    have h1 : FloatKind.f64.format.order x x = some .eq := order_self (by rw [fc, hr]; simp [Datum.isNaN])
    have h3 : FloatKind.f64.format.order (mag .f64 x) 9218868437227405311 = some .gt := by
      have hm := read_mag .f64 x
      rw [hr] at hm
      obtain ⟨s1, m1, e1, r1⟩ := big_fnt
      simp only [Format.order, hm, r1, pos, Datum.order]
      rfl
    have h2 : (FloatKind.f64.format.order x x != some .eq) = false := by rw [h1]; rfl
    have h4 : (FloatKind.f64.format.order (mag .f64 x) 9218868437227405311 == some .gt) = true := by rw [h3]; rfl
    have hn : ¬ Fnt .f64 x := by rintro ⟨_, _, _, h⟩; rw [hr] at h; cases h
    have HN := hid hn
    clear hn h1 h3 hr hx
    go_enter Try.func78, Try.ntmps78
    go_wp2_with (first | (go_at_call 79; refine (abs_any _ HX.out _).mono ?_; rintro e w1 ⟨rfl, rfl⟩) | go_in)
    go_ret
    exact ⟨_, rfl, ⟨fun h => (by cases h), fun h => absurd h HN.out⟩, rfl⟩
  | number s m e =>
    have hn : Fnt .f64 x := ⟨s, m, e, hr⟩
    have h1 : FloatKind.f64.format.order x x = some .eq := order_self (by rw [fc_fnt hn]; simp)
    have h2 : (FloatKind.f64.format.order x x != some .eq) = false := by rw [h1]; rfl
    have h4 : (FloatKind.f64.format.order (mag .f64 x) 9218868437227405311 == some .gt) = false := by
      have hm := (mag_val hn).1
      have hle := mag_le_big hn
      rw [order_fin .f64 hm big_fnt]
      by_cases g1 : V .f64 (mag .f64 x) < V .f64 9218868437227405311
      · rw [if_pos g1]; rfl
      · rw [if_neg g1, if_pos (by grind)]; rfl
    have HN := hid hn
    clear hn h1 hr hx
    go_enter Try.func78, Try.ntmps78
    go_wp2_with (first | (go_at_call 79; refine (abs_any _ HX.out _).mono ?_; rintro e w1 ⟨rfl, rfl⟩) | go_in)
    go_ret
    exact ⟨_, rfl, ⟨fun h => HN.out, fun _ => rfl⟩, rfl⟩
end Go.Proofs.Ytjllidnkndhgmaa
