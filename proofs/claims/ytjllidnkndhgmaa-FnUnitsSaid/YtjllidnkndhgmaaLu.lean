/- The law of units: its walk. -/
import Derived.Test.YtjllidnkndhgmaaPu
namespace Go.Proofs.Ytjllidnkndhgmaa
open Go.RowKit

theorem FIs.eq {k : FloatKind} {r c : Nat} (h : FIs k r (some c)) : r = c := (fc_some h.1).1.symm

set_option maxHeartbeats 4000000 in
set_option maxRecDepth 100000 in
theorem lawUnits (A : Option Addr) (n c : Nat) (w : World) (hr : RdB w A n) :
    Calls Try.prog 15 #[.slice A n c] w fun e w' => e = .returned (.bool true) ∧ Below w.heap.size w w' := by
  have hn := hr.1
  by_cases hbig : n > 1048576
  · clear hr
    go_enter Try.func15, Try.ntmps15
    go_wp2
    go_ret
    exact ⟨rfl, Below.refl _ _⟩
  · go_enter Try.func15, Try.ntmps15
    go_wp2_with (go_at_call 27; go_in)
    refine (dUnit _ hr (Below.refl _ _)).mono ?_
    clear hr
    rintro e w1 ⟨a, b, rfl, ha, hb, hB⟩
    have HB := hid hB
    have HA := hid ha
    have HC := hid hb
    clear hB ha hb
    cases hz : isZ (lenC a b)
    · have HZ := hid hz
      clear hz
      obtain ⟨L, u, v, l, h1, h2, h3, h4, h5, h6, h7⟩ := unit_plain HZ.out
      have H1 := hid h1; have H3 := hid h3; have H4 := hid h4; have H5 := hid h5
      clear h1 h3 h4 h5
      go_wp2_with fail
      refine (iUnit _ _ HA.out HC.out _).mono ?_
      rintro e w2 ⟨x, y, rfl, hx, hy, m1, rfl⟩
      rw [HZ.out] at hx hy ⊢
      have ex : FIs .f64 x (some u) := by rw [← H3.out]; exact hx
      have ey : FIs .f64 y (some v) := by rw [← H4.out]; exact hy
      have fx : Fit .f64 x := ex.2
      have fy : Fit .f64 y := ey.2
      obtain rfl := ex.eq
      obtain rfl := ey.eq
      clear ex ey hx hy
      have FX := hid fx; have FY := hid fy
      clear fx fy
      go_wp2_with fail
      refine (iLength _ _ FX.out FY.out _).mono ?_
      rintro e w2 ⟨z, rfl, hz, m2, rfl⟩
      rw [H5.out] at hz
      obtain rfl := hz.eq
      clear hz
      go_wp2_with fail
      refine (sUnit _ _ HA.out HC.out _).mono ?_
      rintro e w2 ⟨x2, y2, rfl, m3, rfl⟩
      rw [HZ.out]
      go_wp2_with fail
      refine (iLength _ _ HA.out HC.out _).mono ?_
      rintro e w2 ⟨z2, rfl, hz2, m4, rfl⟩
      rw [H1.out] at hz2
      obtain rfl := hz2.eq
      clear hz2
      go_wp2
      go_ret
      exact ⟨rfl, below_drewN HB.out _⟩
    · have HZ := hid hz
      clear hz
      go_wp2_with fail
      refine (iUnit _ _ HA.out HC.out _).mono ?_
      rintro e w2 ⟨x, y, rfl, hx, hy, m1, rfl⟩
      rw [HZ.out] at hx hy ⊢
      simp only [if_true] at hx hy
      obtain rfl := hx.eq
      obtain rfl := hy.eq
      clear hx hy
      have f0 : Fit .f64 0 := by decide
      have F0 := hid f0
      clear f0
      go_wp2_with fail
      refine (iLength _ _ F0.out F0.out _).mono ?_
      rintro e w2 ⟨z, rfl, hz, m2, rfl⟩
      clear hz
      go_wp2_with fail
      refine (sUnit _ _ HA.out HC.out _).mono ?_
      rintro e w2 ⟨x2, y2, rfl, m3, rfl⟩
      rw [HZ.out]
      go_wp2_with fail
      refine (iLength _ _ HA.out HC.out _).mono ?_
      rintro e w2 ⟨z2, rfl, hz2, m4, rfl⟩
      have hzz := isZ_of hz2
      rw [HZ.out] at hzz
      clear hz2
      go_wp2
      go_ret
      exact ⟨by first | rfl | decide | simp, below_drewN HB.out _⟩

end Go.Proofs.Ytjllidnkndhgmaa
