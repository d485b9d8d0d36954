/- The law FnBearingTwice: its draw and its walk. -/
import Derived.Test.YtjllidnkndhgmaaSf
namespace Go.Proofs.Ytjllidnkndhgmaa
open Go.RowKit

section
variable {W w : World} {A : Option Addr} {n : Nat} (c : Nat) (hRD : RdB W A n) (hB : Below W.heap.size W w)
include hRD hB
set_option maxHeartbeats 2000000 in
set_option maxRecDepth 100000 in
theorem dBearing : Calls Try.prog 53 #[.slice A n c] w fun e w' => ∃ r q, e = .returned (.complex .f64 r q) ∧ Fit .f64 r ∧ Fit .f64 q ∧ Below W.heap.size W w' := by
  go_enter Try.func53, Try.ntmps53
  go_wp2_with (first | (go_at_call 70; refine (new_any W _ _ _ _ (by assumption) (by first | assumption | exact Below.refl _ _)).mono ?_; rintro e w1 ⟨g, rfl, hc0, _⟩; have hc := CG.start hc0; clear hc0) | (go_at_call 71; refine (below_g _ (by omega) (by repeat (first | assumption | apply CG.alloc | apply CG.drewN | apply CG.drew))).mono ?_; rintro e w1 ⟨r, rfl, hr, hc⟩) | (go_at_call 94; refine (dVectorOk _ hRD (CG.below (by repeat (first | assumption | apply CG.alloc | apply CG.drewN | apply CG.drew)))).mono ?_; rintro e w1 ⟨r, q, rfl, hr1, hq1, hb1⟩) | (go_at_call 24; refine (sTurn _ _).mono ?_; rintro e w1 ⟨r, q, rfl, hr1, hq1, m1, rfl⟩) | (go_at_call 95; refine (vector_g _ (by omega) (by repeat (first | assumption | apply CG.alloc | apply CG.drewN | apply CG.drew))).mono ?_; rintro e w1 ⟨r, q, rfl, hr, hq, hc⟩) | (refine wpList_farith rfl _ _ _ _ _ rfl rfl _ _ _ rfl rfl ?_; intro r n hr))
  all_goals (first | (go_ret; exact ⟨_, _, rfl, by assumption, by assumption, by assumption⟩) | (go_ret; exact ⟨_, _, rfl, (by first | first | assumption | exact FIs.fit (by assumption) | exact Cvt.fit (by assumption) | exact fit_ofInt _ _ | decide | (refine fit_neg ?_; first | assumption | exact FIs.fit (by assumption) | exact Cvt.fit (by assumption) | exact fit_ofInt _ _ | decide)), (by first | first | assumption | exact FIs.fit (by assumption) | exact Cvt.fit (by assumption) | exact fit_ofInt _ _ | decide | (refine fit_neg ?_; first | assumption | exact FIs.fit (by assumption) | exact Cvt.fit (by assumption) | exact fit_ofInt _ _ | decide)), CG.below (by repeat (first | assumption | apply CG.alloc | apply CG.drewN | apply CG.drew))⟩))
end

theorem bearC_bd' (a b : Nat) : bearC a b < 360 := by
  unfold bearC
  have := bearF_le a b 359
  split <;> omega

theorem mul_lt {x y r : Nat} (h : floatBits .mul .f64 x y = some r) : Fit .f64 r := by
  have h' : FloatKind.f64.format.mul x y = some r := h
  simp only [Ieee.Format.mul, Option.map_eq_some_iff] at h'
  obtain ⟨d, _, rfl⟩ := h'
  exact encode_lt .f64 d

theorem twice_of {a : Nat} (ha : Fnt .f64 a) (a1 : -100000000 ≤ V .f64 a) (a2 : V .f64 a ≤ 100000000) :
    ∃ r, (∀ t w, (binOp .mul t (.float .f64 4611686018427387904) (.float .f64 a)).run Try.prog w = .ok (.float .f64 r) w) ∧ Fit .f64 r ∧ Fnt .f64 r ∧ V .f64 r = 2 * V .f64 a := by
  have hbig := p2_mono (a := 40) (b := emax FloatKind.f64.format) (by decide)
  have h40 : p2 40 = 1099511627776 := by have := p2_nat 40; simpa using this
  rw [h40] at hbig
  have h2 := two_fnt
  have e : V .f64 4611686018427387904 * V .f64 a = 2 * V .f64 a := by rw [h2.2]
  obtain ⟨x, hx, xf, xn⟩ := mul_fin .f64 h2.1 ha (by rw [e]; constructor <;> grind)
  rw [e] at xn
  obtain ⟨s, c, t, f1, f2, f3⟩ := val_form ha
  have ex := xn.exact (s := s) (c := c) (t := t + 1) (by rw [f1, p2_succ]; grind) f2 (by omega)
  exact ⟨x, fun t w => run_float_arith (P := Try.prog) w .mul t _ _ _ _ hx, mul_lt hx, xf, ex⟩

set_option maxHeartbeats 2000000 in
set_option maxRecDepth 100000 in
theorem lawBearingTwice (A : Option Addr) (n c : Nat) (w : World) (hr : RdB w A n) :
    Calls Try.prog 16 #[.slice A n c] w fun e w' => e = .returned (.bool true) ∧ Below w.heap.size w w' := by
  have hn := hr.1
  by_cases hbig : n > 1048576
  · clear hr
    go_enter Try.func16, Try.ntmps16
    go_wp2
    go_ret
    exact ⟨rfl, Below.refl _ _⟩
  · go_enter Try.func16, Try.ntmps16
    go_wp2_with (go_at_call 27; go_in)
    refine (dBearing _ hr (Below.refl _ _)).mono ?_
    clear hr
    rintro e w1 ⟨a, b, rfl, fa, fb, hB⟩
    have HB := hid hB
    have FA := hid fa; have FB := hid fb
    clear hB fa fb
    go_wp2_with fail
    refine (sLength _ _ FA.out FB.out _).mono ?_
    rintro e w2 ⟨L, rfl, hL, m1, rfl⟩
    have hz := isZ_of hL
    clear hL
    cases hl : isZ (lenC a b)
    · rw [hl] at hz
      have HL := hid hl
      have hv := vec_fnt (len_big hl).1
      have HV := hid hv
      have HB1 := hid (below_drewN HB.out m1)
      clear hl hv
      obtain ⟨a2, ra, ga, fa2, va2⟩ := twice_of HV.out.1.1 HV.out.1.2.1 HV.out.1.2.2
      obtain ⟨b2, rb, gb, fb2, vb2⟩ := twice_of HV.out.2.1 HV.out.2.2.1 HV.out.2.2.2
      have GA := hid ga; have GB := hid gb
      have FV := hid (And.intro fa2 (And.intro va2 (And.intro fb2 vb2)))
      clear ga gb fa2 va2 fb2 vb2
      go_wp2_with fail
      refine (sVectorOk _ _ GA.out GB.out _).mono ?_
      rintro e w2 ⟨rfl, rfl⟩
      cases hv2 : vecOk a2 b2
      · go_wp2
        go_ret
        exact ⟨rfl, HB1.out⟩
      · obtain ⟨heq, h0⟩ := bear_twice HL.out FV.out.1 FV.out.2.2.1 FV.out.2.1 FV.out.2.2.2 hv2
        have hbd := bearC_bd' a b
        have HE := hid heq
        clear heq
        go_wp2_with fail
        refine (iBearing _ _ FA.out FB.out _).mono ?_
        rintro e w3 ⟨rfl, hB2⟩
        have HB2 := hid (HB1.out.trans (hB2.mono HB1.out.size))
        clear hB2
        go_wp2_with fail
        refine (sBearing _ _ FA.out FB.out _).mono ?_
        rintro e w4 ⟨rfl, m4, rfl⟩
        go_wp2_with fail
        refine (iBearing _ _ GA.out GB.out _).mono ?_
        rintro e w5 ⟨rfl, hB5⟩
        rw [HE.out]
        have HB5 := hid ((below_drewN HB2.out m4).trans (hB5.mono HB2.out.size))
        clear hB5
        go_wp2
        go_ret
        exact ⟨by simp, HB5.out⟩
    · rw [hl] at hz
      clear hl
      go_wp2
      go_ret
      exact ⟨rfl, below_drewN HB.out _⟩
end Go.Proofs.Ytjllidnkndhgmaa
