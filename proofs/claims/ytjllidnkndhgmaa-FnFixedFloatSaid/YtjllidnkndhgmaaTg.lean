/- ToFixed: the two walks. -/
import Derived.Test.YtjllidnkndhgmaaTo
namespace Go.Proofs.Ytjllidnkndhgmaa
open Ieee Go.RowKit

def fixP (x : Nat) : Option Nat := fop .mul .f64 (fc .f64 x) (fc .f64 4652007308841189376)
theorem thou_fnt : Fnt .f64 4652007308841189376 := ⟨_, _, _, rfl⟩

theorem FIs.some_eq {r p : Nat} {c : Option Nat} (h : FIs .f64 r c) (hc : c = some p) : r = p := by
  have := h.1; rw [hc] at this; exact (fc_some this).1.symm

theorem FIs.of_fnt {r : Nat} {c : Option Nat} (h : FIs .f64 r c) (hr : Fnt .f64 r) : c = some r := by
  have := h.1; rw [fc_fnt hr] at this; exact this.symm

theorem round_fit {b : Nat} (hb : b < 2 ^ 64) : roundB b < 2 ^ 64 := by
  have hq : b / 2 ^ 63 ≤ 1 := by omega
  unfold roundB
  split
  · omega
  · split
    · omega
    · split
      · have h1 : b + 2 ^ (1074 - b / 2 ^ 52 % 2048) < 2 ^ 64 := by
          have : 2 ^ (1074 - b / 2 ^ 52 % 2048) ≤ 2 ^ 52 := Nat.pow_le_pow_right (by decide) (by omega)
          omega
        exact Nat.lt_of_le_of_lt (Nat.div_mul_le_self _ _) h1
      · exact hb

/-- the answer of the first side, read off its tests -/
theorem TF.impl {r : Nat} {c : Option Nat} (h : FIs .f64 r c) (hr : r < 2 ^ 64) : (amtOk .f64 (roundB r) 4741671816366391296 = true → ∃ n, floatToIntVal .f64 (roundB r) .i64 = some n ∧ TF c n true) ∧
    (amtOk .f64 (roundB r) 4741671816366391296 = false → TF c 0 false) := by
  have hm := fixmax_fnt
  constructor
  · intro ha
    have hb := amt_fnt hm.1 ha
    rw [hm.2] at hb
    have hf : Fnt .f64 r := by
      refine Classical.byContradiction fun hn => ?_
      have h1 := hb.1
      rw [round_odd r hr hn] at h1
      exact hn h1
    obtain ⟨_, R, hR, hA⟩ := round_val r hr hf
    obtain ⟨n, hn, ht, _⟩ := trunc_val hb.1 (by grind) (by grind)
    have : n = R := ht.whole hR
    subst this
    rw [hR] at hb
    refine ⟨n, hn, .inl ⟨rfl, r, h.of_fnt hf, hf, ?_, ?_, hA⟩⟩
    · rcases hA with ⟨a, b, c, d⟩ | ⟨a, b, c, d⟩ <;> grind
    · rcases hA with ⟨a, b, c, d⟩ | ⟨a, b, c, d⟩ <;> grind
  · intro ha
    refine .inr ⟨rfl, rfl, ?_⟩
    rintro p hp hf ⟨h1, h2⟩
    have := h.some_eq hp
    subst this
    obtain ⟨hf2, R, hR, hA⟩ := round_val r hr hf
    have k1 : (R : Rat) < ((1000000001 : Int) : Rat) := by
      push_cast
      rcases hA with ⟨a, b, c, d⟩ | ⟨a, b, c, d⟩
      · grind
      · have : (R : Rat) ≤ 0 := by exact_mod_cast d
        grind
    have k2 : ((-1000000001 : Int) : Rat) < R := by
      push_cast
      rcases hA with ⟨a, b, c, d⟩ | ⟨a, b, c, d⟩
      · have : (0 : Rat) ≤ R := by exact_mod_cast d
        grind
      · grind
    have k3 : R < 1000000001 := Rat.intCast_lt_intCast.1 k1
    have k4 : -1000000001 < R := Rat.intCast_lt_intCast.1 k2
    have k5 : (R : Rat) ≤ ((1000000000 : Int) : Rat) := Rat.intCast_le_intCast.2 (by omega)
    have k6 : ((-1000000000 : Int) : Rat) ≤ R := Rat.intCast_le_intCast.2 (by omega)
    push_cast at k5 k6
    have := amt_of hm.1 hf2 (by rw [hm.2, hR]; exact k6) (by rw [hm.2, hR]; exact k5)
    rw [this] at ha; cases ha

set_option maxRecDepth 100000 in
theorem iToFixed (x : Nat) (hx : Fit .f64 x) (w : World) :
    Calls Try.prog 39 #[.float .f64 x] w fun e w' => ∃ (n : Int) (ok : Bool), e = .returned (.tuple #[.int .i64 n, .bool ok]) ∧ TF (fixP x) n ok ∧ ∃ m, w' = w.drewN m := by
  have HX := hid hx
  clear hx
  go_enter Try.func39, Try.ntmps39
  go_wp2_with (refine wpList_farith rfl _ _ _ _ _ rfl rfl _ _ _ rfl rfl ?_; intro r n hr)
  go_at_call 77
  refine (round_any _ (FIs.fit hr) _).mono ?_
  rintro e w1 ⟨rfl, rfl⟩
  have ht := hid (TF.impl hr (FIs.fit hr))
  have HRD := hid hr
  go_wp2_with fail
  go_at_call 78
  refine (iFinite _ HX.out _).mono ?_
  rintro e w1 ⟨b, rfl, hb, rfl⟩
  cases b
  · have HR := hid hr
    have HB := hid hb
    clear hr hb
    go_wp2_with fail
    go_ret2
    refine ⟨_, _, rfl, .inr ⟨rfl, rfl, ?_⟩, _, rfl⟩
    intro p hp hf _
    exact absurd (HB.out.2 (mul_fnt thou_fnt hp hf)) (by simp)
  · cases ha : amtOk .f64 (roundB r) 4741671816366391296
    · have ht2 := hid (ht.out.2 ha)
      have hfr := hid (show Fit .f64 (roundB r) from round_fit (FIs.fit HRD.out))
      rw [amtOk_def] at ha
      have HR := hid hr
      have HB := hid hb
      clear hr hb
      go_wp2_with (go_at_call 79; refine (abs_any _ hfr.out _).mono ?_; rintro e w1 ⟨rfl, rfl⟩)
      go_ret2
      exact ⟨_, _, rfl, ht2.out, _, rfl⟩
    · obtain ⟨n, hn, ht2⟩ := ht.out.1 ha
      have ht3 := hid ht2
      have hfr := hid (show Fit .f64 (roundB r) from round_fit (FIs.fit HRD.out))
      have hc : ∀ w, (convert 22 3 (.float .f64 (roundB r))).run Try.prog w = .ok (.int .i64 n) w := fun w => run_convert_float_int w 22 3 .f64 .i64 (roundB r) n (by rw [Try.underlying22]; rfl) Try.underlying3 hn
      rw [amtOk_def] at ha
      have HR := hid hr
      have HB := hid hb
      clear hr hb hn ht2
      go_wp2_with (go_at_call 79; refine (abs_any _ hfr.out _).mono ?_; rintro e w1 ⟨rfl, rfl⟩)
      go_ret2
      exact ⟨_, _, rfl, ht3.out, _, rfl⟩

theorem TR.same {X : Rat} {R S : Int} (h : TR X R) (g : TR X S) : R = S := by
  rcases h with ⟨a, b, c, d⟩ | ⟨a, b, c, d⟩ <;> rcases g with ⟨a', b', c', d'⟩ | ⟨a', b', c', d'⟩
  · have h1 : (R : Rat) < ((S + 1 : Int) : Rat) := by push_cast; grind
    have h2 : (S : Rat) < ((R + 1 : Int) : Rat) := by push_cast; grind
    have h1 := Rat.intCast_lt_intCast.1 h1
    have h2 := Rat.intCast_lt_intCast.1 h2
    omega
  · have d1 : (0 : Rat) ≤ R := by exact_mod_cast d
    have d2 : (S : Rat) ≤ 0 := by exact_mod_cast d'
    have h1 : (R : Rat) < ((1 : Int) : Rat) := by push_cast; grind
    have h2 : ((-1 : Int) : Rat) < S := by push_cast; grind
    have h1 := Rat.intCast_lt_intCast.1 h1
    have h2 := Rat.intCast_lt_intCast.1 h2
    omega
  · have d1 : (0 : Rat) ≤ S := by exact_mod_cast d'
    have d2 : (R : Rat) ≤ 0 := by exact_mod_cast d
    have h1 : (S : Rat) < ((1 : Int) : Rat) := by push_cast; grind
    have h2 : ((-1 : Int) : Rat) < R := by push_cast; grind
    have h1 := Rat.intCast_lt_intCast.1 h1
    have h2 := Rat.intCast_lt_intCast.1 h2
    omega
  · have h1 : (R : Rat) < ((S + 1 : Int) : Rat) := by push_cast; grind
    have h2 : (S : Rat) < ((R + 1 : Int) : Rat) := by push_cast; grind
    have h1 := Rat.intCast_lt_intCast.1 h1
    have h2 := Rat.intCast_lt_intCast.1 h2
    omega

/-- what is left over of a number is a number -/
theorem left_over {b : Nat} {n : Int} (hf : Fnt .f64 b) (h : TR (V .f64 b) n) : ∃ (s : Bool) (c : Nat) (t : Int), V .f64 b - n = sg s * (c * p2 t) ∧ c ≤ 2 ^ (FloatKind.f64.format.fractionBits + 1) ∧ FloatKind.f64.format.leastPlace ≤ t := by
  obtain ⟨s, c, t, hv, hc, ht⟩ := val_form hf
  by_cases h0 : 0 ≤ t
  · obtain ⟨u, rfl⟩ : ∃ u : Nat, t = u := ⟨t.toNat, by omega⟩
    have hw : ∃ R : Int, V .f64 b = R := by
      rw [hv, p2_nat]
      cases s
      · exact ⟨(c * 2 ^ u : Nat), by simp only [sg, Bool.false_eq_true, if_false, Rat.one_mul]; push_cast; rfl⟩
      · exact ⟨-(c * 2 ^ u : Nat), by simp only [sg, if_true]; push_cast; grind⟩
    obtain ⟨R, hR⟩ := hw
    have := h.whole hR
    refine ⟨s, 0, u, ?_, Nat.zero_le _, ht⟩
    rw [hR, this]; grind
  · obtain ⟨u, rfl⟩ : ∃ u : Nat, t = -(u : Int) := ⟨(-t).toNat, by omega⟩
    have hpp := p2_neg (u : Int)
    have hp := p2_pos (-(u : Int))
    rw [p2_nat] at hpp
    have hm := Nat.div_add_mod c (2 ^ u)
    have hl := Nat.mod_lt c (Nat.two_pow_pos u)
    have hle := Nat.mod_le c (2 ^ u)
    refine ⟨s, c % 2 ^ u, -(u : Int), ?_, Nat.le_trans hle hc, ht⟩
    generalize p2 (-(u : Int)) = P at *
    generalize 2 ^ u = U at *
    generalize c / U = q at *
    generalize c % U = r at *
    have m1 : (U : Rat) * q + r = c := by exact_mod_cast hm
    have l1 : (r : Rat) < U := by exact_mod_cast hl
    have r0 : (0 : Rat) ≤ r := by exact_mod_cast Nat.zero_le r
    have q0 : (0 : Rat) ≤ q := by exact_mod_cast Nat.zero_le q
    have e1 : (c : Rat) * P = q + r * P := by rw [← m1, Rat.add_mul, Rat.mul_assoc, Rat.mul_comm (q : Rat), ← Rat.mul_assoc, hpp, Rat.one_mul]
    have e2 : (r : Rat) * P < 1 := by have := Rat.mul_lt_mul_of_pos_right l1 hp; rwa [hpp] at this
    have e3 := Rat.mul_nonneg r0 (Rat.le_of_lt hp)
    have key : ∃ m : Int, TR (V .f64 b) m ∧ V .f64 b - m = sg s * (r * P) := by
      rw [hv, e1]
      cases s
      · refine ⟨q, .inl ?_, ?_⟩
        · simp only [sg, Bool.false_eq_true, if_false, Rat.one_mul, Rat.intCast_natCast]
          exact ⟨by grind, by grind, by grind, by omega⟩
        · simp only [sg, Bool.false_eq_true, if_false, Rat.one_mul, Rat.intCast_natCast]; grind
      · refine ⟨-(q : Int), .inr ?_, ?_⟩
        · simp only [sg, if_true, Rat.intCast_neg, Rat.intCast_natCast]
          exact ⟨by grind, by grind, by grind, by omega⟩
        · simp only [sg, if_true, Rat.intCast_neg, Rat.intCast_natCast]; grind
    obtain ⟨m, hm1, hm2⟩ := key
    rw [h.same hm1]; exact hm2

theorem half_fnt : Fnt .f64 4602678819172646912 ∧ V .f64 4602678819172646912 = 1 / 2 := by
  have h : FloatKind.f64.format.read 4602678819172646912 = .number false 4503599627370496 (-53) := by decide
  refine ⟨⟨_, _, _, h⟩, ?_⟩
  rw [V, h]
  show sg false * ((4503599627370496 : Nat) * p2 (-53)) = _
  have h := p2_neg 53
  have : p2 53 = 9007199254740992 := by have := p2_nat 53; simpa using this
  rw [this] at h
  simp only [sg]
  grind
theorem mhalf_fnt : Fnt .f64 13826050856027422720 ∧ V .f64 13826050856027422720 = -(1 / 2) := by
  have h : FloatKind.f64.format.read 13826050856027422720 = .number true 4503599627370496 (-53) := by decide
  refine ⟨⟨_, _, _, h⟩, ?_⟩
  rw [V, h]
  show sg true * ((4503599627370496 : Nat) * p2 (-53)) = _
  have h := p2_neg 53
  have : p2 53 = 9007199254740992 := by have := p2_nat 53; simpa using this
  rw [this] at h
  simp only [sg]
  grind
theorem fixhi_fnt : Fnt .f64 4741671816370585600 ∧ V .f64 4741671816370585600 = 2000000001 / 2 := by
  have h : FloatKind.f64.format.read 4741671816370585600 = .number false 8388608004194304 (-23) := by decide
  refine ⟨⟨_, _, _, h⟩, ?_⟩
  rw [V, h]
  show sg false * ((8388608004194304 : Nat) * p2 (-23)) = _
  have h := p2_neg 23
  have : p2 23 = 8388608 := by have := p2_nat 23; simpa using this
  rw [this] at h
  simp only [sg]
  grind
theorem fixlo_fnt : Fnt .f64 13965043853225361408 ∧ V .f64 13965043853225361408 = -(2000000001 / 2) := by
  have h : FloatKind.f64.format.read 13965043853225361408 = .number true 8388608004194304 (-23) := by decide
  refine ⟨⟨_, _, _, h⟩, ?_⟩
  rw [V, h]
  show sg true * ((8388608004194304 : Nat) * p2 (-23)) = _
  have h := p2_neg 23
  have : p2 23 = 8388608 := by have := p2_nat 23; simpa using this
  rw [this] at h
  simp only [sg]
  grind

/-- a product within the bounds: its whole part, what is left over, and what the tests then say -/
theorem TF.spec {p : Nat} {c : Option Nat} (hc : c = some p) (g1 : FloatKind.f64.format.order p 13965043853225361408 = some .gt) (g2 : FloatKind.f64.format.order p 4741671816370585600 = some .lt) :
    ∃ n f, floatToIntVal .f64 p .i64 = some n ∧ -1000000002 < n ∧ n < 1000000002 ∧ fop .sub .f64 (fc .f64 p) (fc .f64 (floatOfInt .f64 n)) = some f ∧
      ∃ b1 b2, (FloatKind.f64.format.order f 4602678819172646912 == some .gt || FloatKind.f64.format.order f 4602678819172646912 == some .eq) = b1 ∧
        (FloatKind.f64.format.order f 13826050856027422720 == some .lt || FloatKind.f64.format.order f 13826050856027422720 == some .eq) = b2 ∧
        ((b1 = true ∧ b2 = false ∧ TF c (n + 1) true) ∨ (b1 = false ∧ b2 = true ∧ TF c (n - 1) true) ∨ (b1 = false ∧ b2 = false ∧ TF c n true)) := by
  have hf := fnt_between (.inl g1) (.inl g2) fixlo_fnt.1 fixhi_fnt.1
  have v1 : -(2000000001 / 2) < V .f64 p := by
    rw [order_fin .f64 hf fixlo_fnt.1, fixlo_fnt.2] at g1
    by_cases h1 : V .f64 p < -(2000000001 / 2)
    · rw [if_pos h1] at g1; cases g1
    · rw [if_neg h1] at g1
      by_cases h2 : V .f64 p = -(2000000001 / 2)
      · rw [if_pos h2] at g1; cases g1
      · grind
  have v2 : V .f64 p < 2000000001 / 2 := by
    rw [order_fin .f64 hf fixhi_fnt.1, fixhi_fnt.2] at g2
    by_cases h1 : V .f64 p < 2000000001 / 2
    · exact h1
    · rw [if_neg h1] at g2
      by_cases h2 : V .f64 p = 2000000001 / 2
      · rw [if_pos h2] at g2; cases g2
      · rw [if_neg h2] at g2; cases g2
  obtain ⟨n, hn, ht, _, _⟩ := trunc_val hf (by grind) (by grind)
  have b1 : ((-1000000002 : Int) : Rat) < n := by push_cast; rcases ht with ⟨a, b, c, d⟩ | ⟨a, b, c, d⟩ <;> grind
  have b2 : (n : Rat) < ((1000000002 : Int) : Rat) := by push_cast; rcases ht with ⟨a, b, c, d⟩ | ⟨a, b, c, d⟩ <;> grind
  have b1' := Rat.intCast_lt_intCast.1 b1
  have b2' := Rat.intCast_lt_intCast.1 b2
  have hi := ofInt_fin .f64 n (by rw [fb64]; omega)
  obtain ⟨s, k, t, hX, hk, ht2⟩ := left_over hf ht
  have hbig := p2_mono (a := 40) (b := emax FloatKind.f64.format) (by decide)
  have h40 : p2 40 = 1099511627776 := by have := p2_nat 40; simpa using this
  rw [h40] at hbig
  have w1 : -1 < V .f64 p - n := by rcases ht with ⟨a, b, c, d⟩ | ⟨a, b, c, d⟩ <;> grind
  have w2 : V .f64 p - n < 1 := by rcases ht with ⟨a, b, c, d⟩ | ⟨a, b, c, d⟩ <;> grind
  obtain ⟨f, hfb, hff, hfn⟩ := sub_fin .f64 hf hi.1 (by rw [hi.2]; constructor <;> grind)
  have hfv : V .f64 f = V .f64 p - n := by rw [hi.2] at hfn; exact hfn.exact hX hk ht2
  refine ⟨n, f, hn, b1', b2', by rw [fc_fnt hf, fc_fnt hi.1]; exact hfb, _, _, rfl, rfl, ?_⟩
  rw [order_fin .f64 hff half_fnt.1, order_fin .f64 hff mhalf_fnt.1, half_fnt.2, mhalf_fnt.2, hfv]
  have mk : ∀ m : Int, HA (V .f64 p) m → TF c m true := fun m hm => .inl ⟨rfl, p, hc, hf, v1, v2, hm⟩
  by_cases z1 : V .f64 p - n < 1 / 2
  · by_cases z2 : V .f64 p - n < -(1 / 2)
    · rw [if_pos z1, if_pos z2]
      refine .inr (.inl ⟨rfl, rfl, mk _ ?_⟩)
      rcases ht with ⟨a, b, c, d⟩ | ⟨a, b, c, d⟩
      · grind
      · exact .inr ⟨a, by push_cast; grind, by push_cast; grind, by omega⟩
    · by_cases z3 : V .f64 p - n = -(1 / 2)
      · rw [if_pos z1, if_neg z2, if_pos z3]
        refine .inr (.inl ⟨rfl, rfl, mk _ ?_⟩)
        rcases ht with ⟨a, b, c, d⟩ | ⟨a, b, c, d⟩
        · grind
        · exact .inr ⟨a, by push_cast; grind, by push_cast; grind, by omega⟩
      · rw [if_pos z1, if_neg z2, if_neg z3]
        refine .inr (.inr ⟨rfl, rfl, mk _ ?_⟩)
        rcases ht with ⟨a, b, c, d⟩ | ⟨a, b, c, d⟩
        · exact .inl ⟨a, by grind, by grind, d⟩
        · exact .inr ⟨a, by grind, by grind, d⟩
  · have z2 : ¬ V .f64 p - n < -(1 / 2) := by grind
    have z3 : ¬ V .f64 p - n = -(1 / 2) := by grind
    have fin : HA (V .f64 p) (n + 1) := by
      rcases ht with ⟨a, b, c, d⟩ | ⟨a, b, c, d⟩
      · exact .inl ⟨a, by push_cast; grind, by push_cast; grind, by omega⟩
      · grind
    rw [if_neg z1, if_neg z2, if_neg z3]
    refine .inl ⟨?_, rfl, mk _ fin⟩
    by_cases z4 : V .f64 p - n = 1 / 2
    · rw [if_pos z4]; rfl
    · rw [if_neg z4]; rfl

theorem TF.out_lo {p : Nat} {c : Option Nat} (hc : c = some p) (h : ¬ (FloatKind.f64.format.order p 13965043853225361408 = some .gt ∧ FloatKind.f64.format.order p 4741671816370585600 = some .lt)) : TF c 0 false := by
  refine .inr ⟨rfl, rfl, ?_⟩
  rintro q hq hf ⟨v1, v2⟩
  rw [hc] at hq; cases hq
  apply h
  rw [order_fin .f64 hf fixlo_fnt.1, fixlo_fnt.2, order_fin .f64 hf fixhi_fnt.1, fixhi_fnt.2, if_neg (by grind), if_neg (by grind), if_pos v2]
  exact ⟨rfl, rfl⟩

theorem TF.nan {c : Option Nat} (hc : c = none) : TF c 0 false := .inr ⟨rfl, rfl, fun q hq => by rw [hc] at hq; cases hq⟩

theorem FIs.nan_order {r y : Nat} {c : Option Nat} (h : FIs .f64 r c) (hc : c = none) : FloatKind.f64.format.order r y = none := order_nan_l (h.1.trans hc)

set_option maxRecDepth 100000 in
theorem sToFixed (x : Nat) (w : World) :
    Calls Try.prog 38 #[.float .f64 x] w fun e w' => ∃ (n : Int) (ok : Bool), e = .returned (.tuple #[.int .i64 n, .bool ok]) ∧ TF (fixP x) n ok ∧ ∃ m, w' = w.drewN m := by
  have hd : fixP x = fop .mul .f64 (fc .f64 x) (fc .f64 4652007308841189376) := rfl
  have HD := hid hd
  clear hd
  cases hp : fixP x with
  | none =>
    have ht := hid (TF.nan (c := none) rfl)
    rw [HD.out] at hp
    have HP := hid hp
    clear hp
    go_enter Try.func38, Try.ntmps38
    go_wp2_with (refine wpList_farith rfl _ _ _ _ _ rfl rfl _ _ _ rfl rfl ?_; intro r n hr; have ho := hr.nan_order HP.out (y := 13965043853225361408); have hq : (FloatKind.f64.format.order r 13965043853225361408 == some .gt) = false := by rw [ho]; rfl)
    go_ret2
    exact ⟨_, _, rfl, ht.out, _, rfl⟩
  | some p =>
    by_cases g1 : FloatKind.f64.format.order p 13965043853225361408 = some .gt
    · by_cases g2 : FloatKind.f64.format.order p 4741671816370585600 = some .lt
      · obtain ⟨n, f, hn, n1, n2, hf, b1, b2, e1, e2, hT⟩ := TF.spec (c := some p) rfl g1 g2
        have q1 : (FloatKind.f64.format.order p 13965043853225361408 == some .gt) = true := by rw [g1]; rfl
        have q2 : (FloatKind.f64.format.order p 4741671816370585600 == some .lt) = true := by rw [g2]; rfl
        have hc : ∀ w, (convert 22 3 (.float .f64 p)).run Try.prog w = .ok (.int .i64 n) w := fun w => run_convert_float_int w 22 3 .f64 .i64 p n (by rw [Try.underlying22]; rfl) Try.underlying3 hn
        rw [HD.out] at hp
        have HP := hid hp
        have HF := hid hf
        clear hp hf hn g1 g2
        rcases hT with ⟨rfl, rfl, hT⟩ | ⟨rfl, rfl, hT⟩ | ⟨rfl, rfl, hT⟩
        all_goals
          have HT := hid hT
          clear hT
          go_enter Try.func38, Try.ntmps38
          go_wp2_with (first | (refine wpList_farith rfl _ _ _ _ _ rfl rfl _ _ _ rfl rfl ?_; intro r n hr; first | (obtain rfl := hr.some_eq HP.out) | (obtain rfl := hr.some_eq HF.out)) | (simp only [hc]))
          go_ret2
          exact ⟨_, _, rfl, HT.out, _, rfl⟩
      · have ht := hid (TF.out_lo (c := some p) rfl (fun h => g2 h.2))
        have q1 : (FloatKind.f64.format.order p 13965043853225361408 == some .gt) = true := by rw [g1]; rfl
        have q2 : (FloatKind.f64.format.order p 4741671816370585600 == some .lt) = false := by simpa using g2
        rw [HD.out] at hp
        have HP := hid hp
        clear hp g1 g2
        go_enter Try.func38, Try.ntmps38
        go_wp2_with (refine wpList_farith rfl _ _ _ _ _ rfl rfl _ _ _ rfl rfl ?_; intro r n hr; obtain rfl := hr.some_eq HP.out)
        go_ret2
        exact ⟨_, _, rfl, ht.out, _, rfl⟩
    · have ht := hid (TF.out_lo (c := some p) rfl (fun h => g1 h.1))
      have q1 : (FloatKind.f64.format.order p 13965043853225361408 == some .gt) = false := by simpa using g1
      rw [HD.out] at hp
      have HP := hid hp
      clear hp g1
      go_enter Try.func38, Try.ntmps38
      go_wp2_with (refine wpList_farith rfl _ _ _ _ _ rfl rfl _ _ _ rfl rfl ?_; intro r n hr; obtain rfl := hr.some_eq HP.out)
      go_ret2
      exact ⟨_, _, rfl, ht.out, _, rfl⟩
end Go.Proofs.Ytjllidnkndhgmaa
