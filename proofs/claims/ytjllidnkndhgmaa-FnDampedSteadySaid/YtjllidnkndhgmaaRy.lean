/- The law FnDampedSteady. -/
import Derived.Test.YtjllidnkndhgmaaRx
namespace Go.Proofs.Ytjllidnkndhgmaa
open Go.RowKit

theorem RunR.len {w : World} {v : Value} {xs : List (Nat × Nat)} {k : Nat} (h : RunR w v xs k) : (RunOk xs k ∧ ∃ A cap, v = .slice A xs.length cap) ∨ (¬ RunOk xs k ∧ ∃ A cap, v = .slice A 0 cap) := by
  rcases h with ⟨h, A, cap, hv, _⟩ | ⟨h, A, cap, hv, _⟩
  · exact .inl ⟨h, A, cap, by rw [hv, outL_len]⟩
  · exact .inr ⟨h, A, cap, by rw [hv]; rfl⟩

set_option maxHeartbeats 4000000 in
set_option maxRecDepth 100000 in
theorem lawDampedSteady (A : Option Addr) (n c : Nat) (w : World) (hr : RdB w A n) :
    Calls Try.prog 17 #[.slice A n c] w fun e w' => e = .returned (.bool true) ∧ Below w.heap.size w w' := by
  have hn := hr.1
  by_cases hbig : n > 1048576
  · clear hr
    go_enter Try.func17, Try.ntmps17
    go_wp2
    go_ret
    exact ⟨rfl, Below.refl _ _⟩
  · go_enter Try.func17, Try.ntmps17
    go_wp2_with (go_at_call 27; go_in)
    refine (dRunDamp _ hr (Below.refl _ _)).mono ?_
    clear hr
    rintro e w1 ⟨v, k, rfl, xs, HR, HF, fk, hl, hB⟩
    have HB := hid hB
    have FK := hid fk
    clear hB fk
    go_wp2_with fail
    refine (iRunDamp _ _ _ _ HR.out HF.out hl).mono ?_
    rintro e w2 ⟨v2, rfl, h2, hB2⟩
    have HR2 := hid (HR.out.below hB2)
    have HB2 := hid (HB.out.trans (hB2.mono HB.out.size))
    have H2 := hid h2
    have H2L := h2.len
    clear h2 hB2
    rcases H2L with ⟨hok, A2, c2, rfl⟩ | ⟨hno, A2, c2, rfl⟩
    · go_wp2_with fail
      refine (sRunDamp _ _ _ _ HR2.out HF.out hl).mono ?_
      rintro e w3 ⟨v3, rfl, h3, hB3⟩
      have h3l := h3.len
      have HB23 := hid hB3
      have HR3 := hid (HR2.out.below hB3)
      have HB3 := hid (HB2.out.trans (hB3.mono HB2.out.size))
      clear hB3 h3
      rcases h3l with ⟨_, A3, c3, rfl⟩ | ⟨hno, _⟩
      · by_cases h0 : xs.length = 0
        · go_wp2
          go_ret
          exact ⟨rfl, HB3.out⟩
        · have hpos : 0 < xs.length := by omega
          have HOK := hid hok
          clear hok
          go_wp2_with fail
          refine (iRunDamp _ _ _ _ HR3.out HF.out hl).mono ?_
          rintro e w4 ⟨v4, rfl, h4, hB4⟩
          have HR4 := hid (HR3.out.below hB4)
          have hR2 : RdC w2 (.slice A2 xs.length c2) (outL xs k xs.length) := by
            rcases H2.out with ⟨_, h⟩ | ⟨h, _⟩
            · exact h
            · exact absurd HOK.out h
          have HO4 := hid ((hR2.below HB23.out).below hB4)
          have HB4 := hid (HB3.out.trans (hB4.mono HB3.out.size))
          have h4' : RdC w4 v4 (outL xs 0 xs.length) := by
            rcases h4 with ⟨_, h⟩ | ⟨h, _⟩
            · exact h
            · exact absurd (run_none HOK.out.1 HOK.out.2.1) h
          clear h4 hR2 hB4
          obtain ⟨A4, c4, rfl, hc4⟩ := h4'
          rw [outL_len]
          have HC4 := hid hc4
          clear hc4
          have hone : ∃ b4, A4 = some ⟨b4, 0, none⟩ ∧ ∀ j (hj : j < xs.length), w4.cell? ⟨b4, j, none⟩ = some (.complex .f32 (sq xs 0 j).1 (sq xs 0 j).2) := by
            obtain ⟨b4, hA4, _⟩ := HC4.out 0 (by rw [outL_len]; exact hpos)
            refine ⟨b4, hA4, fun j hj => ?_⟩
            obtain ⟨b5, hA5, h5⟩ := HC4.out j (by rw [outL_len]; exact hj)
            rw [hA4] at hA5
            cases hA5
            rw [h5, outL_at _ _ _ _ hj]; rfl
          obtain ⟨b4, rfl, hone⟩ := hone
          have HONE := hid hone
          have hout : ∃ b2, A2 = some ⟨b2, 0, none⟩ ∧ w4.cell? ⟨b2, 0, none⟩ = some (.complex .f32 (xs[0]).1 (xs[0]).2) := by
            obtain ⟨A9, c9, he, hc9⟩ := HO4.out
            obtain ⟨b9, hA9, h9⟩ := hc9 0 (by rw [outL_len]; exact hpos)
            injection he with he1 he2 he3
            refine ⟨b9, by rw [he1, hA9], ?_⟩
            rw [h9, outL_at _ _ _ _ hpos]
            simp [sq, cv, List.getD, hpos]
          obtain ⟨b2, rfl, hcell2⟩ := hout
          obtain ⟨A1, c1, rfl, hc1⟩ := HR4.out
          obtain ⟨b1, hA1, hb1⟩ := hc1 0 hpos
          subst hA1
          have hcell1 : w4.cell? ⟨b1, 0, none⟩ = some (.complex .f32 (xs[0]).1 (xs[0]).2) := hb1
          have hv0 := vel_fnt (okAll_at HOK.out.1 hpos)
          have hs1 : (FloatKind.f32.format.order (xs[0]).1 (xs[0]).1 == some .eq) = true := by rw [order_eq_of hv0.1.1 hv0.1.1 rfl]; rfl
          have hs2 : (FloatKind.f32.format.order (xs[0]).2 (xs[0]).2 == some .eq) = true := by rw [order_eq_of hv0.2.1 hv0.2.1 rfl]; rfl
          have HEQ : Hid (∀ j (hj : j < xs.length), FloatKind.f32.format.order (sq xs 0 j).1 (xs[0]).1 = some .eq ∧ FloatKind.f32.format.order (sq xs 0 j).2 (xs[0]).2 = some .eq) := fun j hj => sq_none_eq HOK.out.1 j hj
          obtain ⟨p0, hp0⟩ : ∃ p0, p0 = xs[0] := ⟨_, rfl⟩
          rw [← hp0] at hcell1 hcell2 hs1 hs2 HEQ
          clear hc1 hb1 hone hp0 hv0
          go_wp2_with fail
          go_loopw [7] (fun i wr => ∃ j : Nat, j ≤ xs.length ∧ i = .int .i64 j ∧ ∃ m, wr = w4.drewN m) (fun i _ => 200 - (intOf i).toNat)
          case atStart => exact ⟨0, by omega, rfl, 0, rfl⟩
          case round =>
            obtain ⟨j, hj, rfl, m, rfl⟩ := hrel
            by_cases hlt : j < xs.length
            · have ho := HONE.out j hlt
              obtain ⟨q1, q2⟩ := HEQ.out j hlt
              have e1 : (FloatKind.f32.format.order (sq xs 0 j).1 p0.1 == some .eq) = true := by rw [q1]; rfl
              have e2 : (FloatKind.f32.format.order (sq xs 0 j).2 p0.2 == some .eq) = true := by rw [q2]; rfl
              clear q1 q2
              go_wp2
              go_quiet (fail)
              go_wp2
              go_roundw
              case rel => exact ⟨j + 1, by omega, by go_num, _, rfl⟩
              case measure => (simp [intOf]; try omega)
            · obtain rfl : j = xs.length := by omega
              have hposi : (0 : Int) < (xs.length : Int) := by omega
              have hbe : ((xs.length : Int) == (xs.length : Int)) = true := by simp
              go_wp2
              go_quiet (fail)
              go_wp2
              go_ret
              exact ⟨by first | rfl | simp, below_drewN (below_drewN HB4.out _) _⟩
      · exact absurd hok hno
    · go_wp2_with fail
      refine (sRunDamp _ _ _ _ HR2.out HF.out hl).mono ?_
      rintro e w3 ⟨v3, rfl, h3, hB3⟩
      have h3l := h3.len
      have HB3 := hid (HB2.out.trans (hB3.mono HB2.out.size))
      clear hB3 h3
      rcases h3l with ⟨hok, _⟩ | ⟨_, A3, c3, rfl⟩
      · exact absurd hok hno
      · clear hno
        go_wp2
        go_ret
        exact ⟨rfl, HB3.out⟩
end Go.Proofs.Ytjllidnkndhgmaa
