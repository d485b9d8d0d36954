/- Contracts of the functions on floats: sameFloat, FromFixed, Root, times, Turn. Each answers as a plain function of what its arguments stand for, NaNs included. -/
import Derived.Test.YtjllidnkndhgmaaCu
import Derived.Test.YtjllidnkndhgmaaFl
namespace Go.Proofs.Ytjllidnkndhgmaa
open Go.RowKit

theorem ret_int {k : IntKind} {a b : Int} (h : a = b) : Ending.returned (.int k a) = .returned (.int k b) := by rw [h]
theorem tmod360 (n : Int) : (n.tmod 360 + 360) % 360 = n % 360 := by
  have h := Int.tmod_eq_emod (a := n) (b := 360)
  rw [h]
  split <;> simp <;> omega
theorem tmod360_bd (n : Int) : -360 < n.tmod 360 ∧ n.tmod 360 < 360 := by
  have h := Int.tmod_eq_emod (a := n) (b := 360)
  rw [h]; split <;> simp <;> omega

theorem mod_any (n : Int) (w : World) :
    Calls Try.prog 68 #[.int .i64 n] w fun e w' => e = .returned (.int .i64 (n % 360)) ∧ w = w' := by
  have hb := tmod360_bd n
  go_enter Try.func68, Try.ntmps68
  go_wp2
  go_ret
  exact ⟨ret_int (tmod360 n), rfl⟩
theorem lmod_any (n : Int) (w : World) :
    Calls Try.prog 65 #[.int .i64 n] w fun e w' => e = .returned (.int .i64 (n % 360)) ∧ w = w' := by
  have hb := tmod360_bd n
  go_enter Try.func65, Try.ntmps65
  go_wp2
  go_ret
  exact ⟨ret_int (tmod360 n), rfl⟩

theorem same_nan (x y : Nat) (hx : fc .f64 x = none) (hy : fc .f64 y = none) (w : World) :
    Calls Try.prog 21 #[.float .f64 x, .float .f64 y] w fun e w' => e = .returned (.bool true) ∧ ∃ n, w' = w.drewN n := by
  have h1 := order_nan_l (y := x) hx
  have h2 := order_nan_l (y := y) hy
  clear hx hy
  go_enter Try.func21, Try.ntmps21
  go_wp2
  go_ret
  exact ⟨rfl, 0, rfl⟩

set_option maxHeartbeats 1000000 in
theorem same_eq (x : Nat) (hx : fc .f64 x ≠ none) (w : World) :
    Calls Try.prog 21 #[.float .f64 x, .float .f64 x] w fun e w' => e = .returned (.bool true) ∧ ∃ n, w' = w.drewN n := by
  have h1 := order_self hx
  clear hx
  by_cases h0 : FloatKind.f64.format.order x 0 = some .eq
  · go_enter Try.func21, Try.ntmps21
    go_wp2_with (refine wpList_farith rfl _ _ _ _ _ rfl rfl _ _ _ rfl rfl ?_; intro r1 n1 hr1; go_wp2_with (refine wpList_farith rfl _ _ _ _ _ rfl rfl _ _ _ rfl rfl ?_; intro r2 n2 hr2; rcases hr1.same hr2 with ⟨a, b⟩ | ⟨rfl, _⟩))
    · have e1 := order_nan_l (y := 0) a
      have e2 := order_nan_l (y := 0) b
      clear a b
      go_wp2
      go_ret
      exact ⟨by simp [e1, e2], _, rfl⟩
    · go_wp2
      go_ret
      exact ⟨by simp, _, rfl⟩
  · have h0' : (FloatKind.f64.format.order x 0 == some .eq) = false := by simpa using h0
    go_enter Try.func21, Try.ntmps21
    go_wp2
    go_ret
    exact ⟨rfl, 0, rfl⟩

theorem same_any (x y : Nat) (c : Option Nat) (hx : FIs .f64 x c) (hy : FIs .f64 y c) (w : World) :
    Calls Try.prog 21 #[.float .f64 x, .float .f64 y] w fun e w' => e = .returned (.bool true) ∧ ∃ n, w' = w.drewN n := by
  rcases hx.same hy with ⟨a, b⟩ | ⟨rfl, h⟩
  · exact same_nan x y a b w
  · exact same_eq x h w

def fixF (n : Int) : Option Nat := if -1000000000 ≤ n ∧ n ≤ 1000000000 then fop .quo .f64 (fc .f64 (floatOfInt .f64 n)) (fc .f64 4652007308841189376) else some 0

theorem zero_FIs : FIs .f64 0 (some 0) := ⟨by decide, by decide⟩

theorem sFromFixed (n : Int) (w : World) :
    Calls Try.prog 19 #[.int .i64 n] w fun e w' => ∃ r, e = .returned (.float .f64 r) ∧ FIs .f64 r (fixF n) ∧ ∃ m, w' = w.drewN m := by
  by_cases h : -1000000000 ≤ n ∧ n ≤ 1000000000
  · have hf : fixF n = fop .quo .f64 (fc .f64 (floatOfInt .f64 n)) (fc .f64 4652007308841189376) := if_pos h
    have HF := hid hf
    obtain ⟨h1, h2⟩ := h
    clear hf
    go_enter Try.func19, Try.ntmps19
    go_wp2_with (first | go_in | (refine wpList_farith rfl _ _ _ _ _ rfl rfl _ _ _ rfl rfl ?_; intro r1 n1 hr1))
    go_ret
    exact ⟨_, rfl, by rw [HF.out]; assumption, _, rfl⟩
  · have hf : fixF n = some 0 := if_neg h
    have HF := hid hf
    clear hf
    by_cases h1 : -1000000000 ≤ n
    · have h2 : ¬ n ≤ 1000000000 := fun h2 => h ⟨h1, h2⟩
      clear h
      go_enter Try.func19, Try.ntmps19
      go_wp2
      go_ret
      exact ⟨_, rfl, by rw [HF.out]; exact zero_FIs, 0, rfl⟩
    · clear h
      go_enter Try.func19, Try.ntmps19
      go_wp2
      go_ret
      exact ⟨_, rfl, by rw [HF.out]; exact zero_FIs, 0, rfl⟩

theorem iFromFixed (n : Int) (w : World) :
    Calls Try.prog 20 #[.int .i64 n] w fun e w' => ∃ r, e = .returned (.float .f64 r) ∧ FIs .f64 r (fixF n) ∧ ∃ m, w' = w.drewN m := by
  by_cases h : -1000000000 ≤ n ∧ n ≤ 1000000000
  · have hf : fixF n = fop .quo .f64 (fc .f64 (floatOfInt .f64 n)) (fc .f64 4652007308841189376) := if_pos h
    have HF := hid hf
    obtain ⟨h1, h2⟩ := h
    clear hf
    go_enter Try.func20, Try.ntmps20
    go_wp2_with (first | go_in | (refine wpList_farith rfl _ _ _ _ _ rfl rfl _ _ _ rfl rfl ?_; intro r1 n1 hr1))
    go_ret
    exact ⟨_, rfl, by rw [HF.out]; assumption, _, rfl⟩
  · have hf : fixF n = some 0 := if_neg h
    have HF := hid hf
    clear hf
    by_cases h1 : -1000000000 ≤ n
    · have h2 : ¬ n ≤ 1000000000 := fun h2 => h ⟨h1, h2⟩
      clear h
      go_enter Try.func20, Try.ntmps20
      go_wp2
      go_ret
      exact ⟨_, rfl, by rw [HF.out]; exact zero_FIs, 0, rfl⟩
    · clear h
      go_enter Try.func20, Try.ntmps20
      go_wp2
      go_ret
      exact ⟨_, rfl, by rw [HF.out]; exact zero_FIs, 0, rfl⟩

theorem lawFromFixed (n : Int) (_ : -9223372036854775808 ≤ n ∧ n ≤ 9223372036854775807) (w : World) :
    Calls Try.prog 3 #[.int .i64 n] w fun e w' => e = .returned (.bool true) ∧ Below w.heap.size w w' := by
  go_enter Try.func3, Try.ntmps3
  go_wp2_with (first | (go_at_call 19; refine (sFromFixed _ _).mono ?_; rintro e w1 ⟨r1, rfl, hr1, m1, rfl⟩) | (go_at_call 20; refine (iFromFixed _ _).mono ?_; rintro e w1 ⟨r2, rfl, hr2, m2, rfl⟩) | (go_at_call 21; refine (same_any _ _ (fixF n) (by assumption) (by assumption) _).mono ?_; rintro e w1 ⟨rfl, m3, rfl⟩))
  go_ret
  exact ⟨rfl, below_drewN (Below.refl _ _) _⟩

end Go.Proofs.Ytjllidnkndhgmaa
