/- The laws of thousandths. -/
import Derived.Test.YtjllidnkndhgmaaTg
import Derived.Test.YtjllidnkndhgmaaLw
namespace Go.Proofs.Ytjllidnkndhgmaa
open Ieee Go.RowKit

theorem thou_val : V .f64 4652007308841189376 = 1000 := by
  have h : FloatKind.f64.format.read 4652007308841189376 = .number false 8796093022208000 (-43) := by decide
  rw [V, h]
  show sg false * ((8796093022208000 : Nat) * p2 (-43)) = _
  have h := p2_neg 43
  have : p2 43 = 8796093022208 := by have := p2_nat 43; simpa using this
  rw [this] at h
  simp only [sg]
  grind

/-- a number of thousandths, as a float, is that number again -/
theorem fixed_again (n : Int) (h : -1000000000 ≤ n ∧ n ≤ 1000000000) : ∃ x, fixF n = some x ∧ TF (fixP x) n true := by
  have h1 : ((-1000000000 : Int) : Rat) ≤ n := Rat.intCast_le_intCast.2 h.1
  have h2 : (n : Rat) ≤ ((1000000000 : Int) : Rat) := Rat.intCast_le_intCast.2 h.2
  push_cast at h1 h2
  have hi := ofInt_fin .f64 n (by rw [fb64]; omega)
  have ht := thou_fnt
  have hbig := p2_mono (a := 40) (b := emax FloatKind.f64.format) (by decide)
  have h40 : p2 40 = 1099511627776 := by have := p2_nat 40; simpa using this
  rw [h40] at hbig
  have hx0 : V .f64 (floatOfInt .f64 n) / V .f64 4652007308841189376 = (n : Rat) / 1000 := by rw [hi.2, thou_val]
  have b1 : -1000000 ≤ (n : Rat) / 1000 := by grind
  have b2 : (n : Rat) / 1000 ≤ 1000000 := by grind
  obtain ⟨x, hx, hf, hn⟩ := div_fin .f64 hi.1 ht (by rw [thou_val]; decide) (by rw [hx0]; constructor <;> grind)
  rw [hx0] at hn
  have e1 := near_b64 hn b1 b2
  have es := e53_val
  have ets := t64_tiny
  have c1 : -1000001 ≤ V .f64 x := by grind
  have c2 : V .f64 x ≤ 1000001 := by grind
  have hp0 : V .f64 x * V .f64 4652007308841189376 = V .f64 x * 1000 := by rw [thou_val]
  obtain ⟨p, hp, pf, pn⟩ := mul_fin .f64 hf ht (by rw [hp0]; constructor <;> grind)
  rw [hp0] at pn
  have e2 := near_b64 (B := 1000001000) pn (by grind) (by grind)
  refine ⟨x, ?_, .inl ⟨rfl, p, ?_, pf, by grind, by grind, ?_⟩⟩
  · rw [fixF, if_pos h, fc_fnt hi.1, fc_fnt ht]; exact hx
  · rw [fixP, fc_fnt hf, fc_fnt ht]; exact hp
  · rcases Int.lt_trichotomy n 0 with hz | hz | hz
    · have : (n : Rat) ≤ ((-1 : Int) : Rat) := Rat.intCast_le_intCast.2 (by omega)
      push_cast at this
      exact .inr ⟨by grind, by grind, by grind, by omega⟩
    · subst hz
      have x0 : V .f64 x = 0 := nears_zero hn (by grind)
      have p0 : V .f64 p = 0 := nears_zero pn (by rw [x0]; grind)
      rw [p0]
      exact .inl ⟨by grind, by grind, by grind, by omega⟩
    · have : ((1 : Int) : Rat) ≤ n := Rat.intCast_le_intCast.2 (by omega)
      push_cast at this
      exact .inl ⟨by grind, by grind, by grind, by omega⟩

theorem fixed_none : TF (fixP 0) 0 true := by
  have hp : fixP 0 = some 0 := by decide
  have hv := zero_fnt
  exact .inl ⟨rfl, 0, hp, hv.1, by rw [hv.2]; grind, by rw [hv.2]; grind, by rw [hv.2]; exact .inl ⟨by grind, by grind, by grind, by omega⟩⟩

set_option maxRecDepth 100000 in
theorem lawToFixed (x : Nat) (hx : x < 2 ^ FloatKind.f64.format.width) (w : World) :
    Calls Try.prog 10 #[.float .f64 x] w fun e w' => e = .returned (.bool true) ∧ Below w.heap.size w w' := by
  have HX := hid hx
  clear hx
  go_enter Try.func10, Try.ntmps10
  go_wp2_with fail
  refine (sToFixed _ _).mono ?_
  rintro e w1 ⟨n1, o1, rfl, h1, m1, rfl⟩
  go_wp2_with fail
  refine (iToFixed _ HX.out _).mono ?_
  rintro e w1 ⟨n2, o2, rfl, h2, m2, rfl⟩
  obtain ⟨rfl, rfl⟩ := h1.same h2
  clear h1 h2
  go_wp2_with fail
  go_ret
  exact ⟨by simp, below_drewN (Below.refl _ _) _⟩

set_option maxRecDepth 100000 in
theorem lawFixedFloat (A : Option Addr) (n c : Nat) (w : World) (hr : RdB w A n) :
    Calls Try.prog 13 #[.slice A n c] w fun e w' => e = .returned (.bool true) ∧ Below w.heap.size w w' := by
  have hn := hr.1
  by_cases hbig : n > 1048576
  · clear hr
    go_enter Try.func13, Try.ntmps13
    go_wp2
    go_ret
    exact ⟨rfl, Below.refl _ _⟩
  · go_enter Try.func13, Try.ntmps13
    go_wp2_with (go_at_call 27; go_in)
    refine (dFromFixed _ hr (Below.refl _ _)).mono ?_
    clear hr
    rintro e w1 ⟨k, rfl, hk, hB⟩
    have HB := hid hB
    clear hB
    go_wp2_with fail
    refine (iFromFixed _ _).mono ?_
    rintro e w2 ⟨x, rfl, hx, m1, rfl⟩
    go_wp2_with fail
    refine (iToFixed _ (FIs.fit hx) _).mono ?_
    rintro e w2 ⟨r, ok, rfl, hT, m2, rfl⟩
    by_cases hin : -1000000000 ≤ k ∧ k ≤ 1000000000
    · obtain ⟨y, hy, hT2⟩ := fixed_again k hin
      obtain rfl := hx.some_eq hy
      obtain ⟨rfl, rfl⟩ := hT.same hT2
      obtain ⟨k1, k2⟩ := hin
      clear hT hT2 hy hx hk
      go_wp2_with fail
      go_ret
      exact ⟨by first | rfl | simp, below_drewN HB.out _⟩
    · have hy : fixF k = some 0 := if_neg hin
      obtain rfl := hx.some_eq hy
      obtain ⟨rfl, rfl⟩ := hT.same fixed_none
      clear hT hy hx hk
      by_cases k1 : k < -1000000000
      · clear hin
        go_wp2_with fail
        go_ret
        exact ⟨by first | rfl | simp, below_drewN HB.out _⟩
      · have k2 : k > 1000000000 := by omega
        clear hin
        go_wp2_with fail
        go_ret
        exact ⟨by first | rfl | simp, below_drewN HB.out _⟩
end Go.Proofs.Ytjllidnkndhgmaa
