/- Contracts of the functions on floats: sameFloat, FromFixed, Root, times, Turn. Each answers as a plain function of what its arguments stand for, NaNs included. -/
import Derived.Test.YtgjfpclpnobggaaCu
import Derived.Test.YtgjfpclpnobggaaFl
namespace Go.Proofs.Ytgjfpclpnobggaa
open Go.RowKit

theorem same_nan (x y : Nat) (hx : fc .f64 x = none) (hy : fc .f64 y = none) (w : World) :
    Calls Try.prog 19 #[.float .f64 x, .float .f64 y] w fun e w' => e = .returned (.bool true) ∧ ∃ n, w' = w.drewN n := by
  have h1 := order_nan_l (y := x) hx
  have h2 := order_nan_l (y := y) hy
  clear hx hy
  go_enter Try.func19, Try.ntmps19
  go_wp2
  go_ret
  exact ⟨rfl, 0, rfl⟩

set_option maxHeartbeats 1000000 in
theorem same_eq (x : Nat) (hx : fc .f64 x ≠ none) (w : World) :
    Calls Try.prog 19 #[.float .f64 x, .float .f64 x] w fun e w' => e = .returned (.bool true) ∧ ∃ n, w' = w.drewN n := by
  have h1 := order_self hx
  clear hx
  by_cases h0 : FloatKind.f64.format.order x 0 = some .eq
  · go_enter Try.func19, Try.ntmps19
    go_wp2_with (refine wpList_farith rfl _ _ _ _ _ rfl rfl _ _ _ rfl rfl ?_; intro r1 n1 hr1; go_wp2_with (refine wpList_farith rfl _ _ _ _ _ rfl rfl _ _ _ rfl rfl ?_; intro r2 n2 hr2; rcases hr1.same hr2 with ⟨a, b⟩ | ⟨rfl, _⟩))
    · have e1 := order_nan_l (y := 0) a
      have e2 := order_nan_l (y := 0) b
      clear a b
      go_wp2
      go_ret
      exact ⟨by simp [e1, e2], _, rfl⟩
    · go_wp2
      go_ret
      exact ⟨by simp, _, rfl⟩
  · have h0' : (FloatKind.f64.format.order x 0 == some .eq) = false := by simpa using h0
    go_enter Try.func19, Try.ntmps19
    go_wp2
    go_ret
    exact ⟨rfl, 0, rfl⟩

theorem same_any (x y : Nat) (c : Option Nat) (hx : FIs .f64 x c) (hy : FIs .f64 y c) (w : World) :
    Calls Try.prog 19 #[.float .f64 x, .float .f64 y] w fun e w' => e = .returned (.bool true) ∧ ∃ n, w' = w.drewN n := by
  rcases hx.same hy with ⟨a, b⟩ | ⟨rfl, h⟩
  · exact same_nan x y a b w
  · exact same_eq x h w

end Go.Proofs.Ytgjfpclpnobggaa
