/- The laws of roots, of winds that come back, and of damped winds that stay: their walks. -/
import Derived.Test.YtjllidnkndhgmaaPr
import Derived.Test.YtjllidnkndhgmaaDp
namespace Go.Proofs.Ytjllidnkndhgmaa
open Go.RowKit

theorem FIs.eq {k : FloatKind} {r c : Nat} (h : FIs k r (some c)) : r = c := (fc_some h.1).1.symm

set_option maxHeartbeats 4000000 in
set_option maxRecDepth 100000 in
theorem lawRoots (A : Option Addr) (n c : Nat) (w : World) (hr : RdB w A n) :
    Calls Try.prog 6 #[.slice A n c] w fun e w' => e = .returned (.bool true) ∧ Below w.heap.size w w' := by
  have hn := hr.1
  by_cases hbig : n > 1048576
  · clear hr
    go_enter Try.func6, Try.ntmps6
    go_wp2
    go_ret
    exact ⟨rfl, Below.refl _ _⟩
  · go_enter Try.func6, Try.ntmps6
    go_wp2_with (go_at_call 27; go_in)
    refine (dPlaces _ hr (Below.refl _ _)).mono ?_
    clear hr
    rintro e w1 ⟨v, rfl, ⟨b, cp, rfl, hcp, hv⟩, hB⟩
    have HB := hid hB
    have HV := hid hv
    clear hB hv hcp
    go_wp2_with fail
    go_loopw [4] (fun i wr => ∃ k : Nat, k ≤ 12 ∧ i = .int .i64 k ∧ ∃ m, wr = w1.drewN m) (fun i _ => 12 - (intOf i).toNat)
    case atStart => exact ⟨0, by omega, rfl, 0, rfl⟩
    case round =>
      obtain ⟨k, hk, rfl, m, rfl⟩ := hrel
      by_cases hlt : k < 12
      · obtain ⟨u, hu, hu0, hu1⟩ := HV.out k hlt
        obtain ⟨N, rfl⟩ : ∃ N : Nat, u = N := ⟨u.toNat, by omega⟩
        obtain ⟨x, r, p1, p2, p3⟩ := roots_plain (n := N) (by omega)
        have P1 := hid p1; have P2 := hid p2
        have p3b : (FloatKind.f64.format.order r (floatOfInt .f64 (N : Int)) == some .eq) = true := by rw [p3]; rfl
        have p3c : (FloatKind.f64.format.order r (floatOfInt .f64 (N : Int)) != some .eq) = false := by rw [p3]; rfl
        clear p1 p2
        go_wp2_with (first | (refine wpList_farith rfl _ _ _ _ _ rfl rfl _ _ _ rfl rfl ?_; intro y n1 hy; rw [P1.out] at hy; obtain rfl := hy.eq; have HF := hid hy.2; clear hy) | (go_at_call 23; refine (iRoot _ HF.out _).mono ?_; rintro e w2 ⟨z, rfl, hz, m2, rfl⟩; rw [P2.out] at hz; obtain rfl := hz.eq; clear hz))
        go_roundw
        case rel => exact ⟨k + 1, by omega, by go_num, _, rfl⟩
        case measure => simp [intOf]; omega
      · obtain rfl : k = 12 := by omega
        go_wp2
        go_ret
        exact ⟨rfl, below_drewN HB.out _⟩

end Go.Proofs.Ytjllidnkndhgmaa
