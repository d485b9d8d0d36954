/- The laws over whole numbers: clamped numbers; between and aside. Their walks. -/
import Derived.Test.YtjllidnkndhgmaaDw
import Derived.Test.YtjllidnkndhgmaaFw
namespace Go.Proofs.Ytjllidnkndhgmaa
open Go.RowKit

set_option maxHeartbeats 4000000 in
set_option maxRecDepth 100000 in
theorem lawClamped (A : Option Addr) (n c : Nat) (w : World) (hr : RdB w A n) :
    Calls Try.prog 7 #[.slice A n c] w fun e w' => e = .returned (.bool true) ∧ Below w.heap.size w w' := by
  have hn := hr.1
  by_cases hbig : n > 1048576
  · clear hr
    go_enter Try.func7, Try.ntmps7
    go_wp2
    go_ret
    exact ⟨rfl, Below.refl _ _⟩
  · go_enter Try.func7, Try.ntmps7
    go_wp2_with (first | (go_at_call 29; refine (dClamp _ hr (Below.refl _ _)).mono ?_; clear hr; rintro e w1 ⟨x, y, z, rfl, hb⟩; have HB := hid hb; clear hb; by_cases h1 : z < y; skip; by_cases h2 : x < y; skip; by_cases h3 : z < x) | go_in)
    all_goals (go_ret; exact ⟨by first | rfl | (simp; omega), HB.out⟩)

theorem gmod_any (n : Int) (w : World) :
    Calls Try.prog 37 #[.int .i64 n] w fun e w' => e = .returned (.int .i64 (n % 360)) ∧ w = w' := by
  have hb := tmod360_bd n
  go_enter Try.func37, Try.ntmps37
  go_wp2
  go_ret
  exact ⟨ret_int (tmod360 n), rfl⟩

def btw (a b : Int) : Int := min ((b % 360 - a % 360) % 360) ((-((b % 360 - a % 360) % 360)) % 360)
def asd (a b : Int) : Int := if (b % 360 - a % 360) % 360 > 180 then (b % 360 - a % 360) % 360 - 360 else (b % 360 - a % 360) % 360

theorem iBetween (a b v : Int) (h : btw a b = v) (w : World) :
    Calls Try.prog 36 #[.int .i64 a, .int .i64 b] w fun e w' => e = .returned (.int .i64 v) ∧ w = w' := by
  subst h
  go_enter Try.func36, Try.ntmps36
  go_wp2_with ((go_at_call 68; refine (mod_any _ _).mono ?_; rintro e w' ⟨rfl, rfl⟩))
  all_goals (go_ret; exact ⟨ret_int (by unfold btw; omega), rfl⟩)
theorem iAside (a b v : Int) (h : asd a b = v) (w : World) :
    Calls Try.prog 35 #[.int .i64 a, .int .i64 b] w fun e w' => e = .returned (.int .i64 v) ∧ w = w' := by
  subst h
  go_enter Try.func35, Try.ntmps35
  go_wp2_with ((go_at_call 68; refine (mod_any _ _).mono ?_; rintro e w' ⟨rfl, rfl⟩))
  all_goals (go_ret; exact ⟨ret_int (by unfold asd; split <;> omega), rfl⟩)

set_option maxHeartbeats 4000000 in
set_option maxRecDepth 100000 in
theorem lawBetweenAside (A : Option Addr) (n c : Nat) (w : World) (hr : RdB w A n) :
    Calls Try.prog 9 #[.slice A n c] w fun e w' => e = .returned (.bool true) ∧ Below w.heap.size w w' := by
  have hn := hr.1
  by_cases hbig : n > 1048576
  · clear hr
    go_enter Try.func9, Try.ntmps9
    go_wp2
    go_ret
    exact ⟨rfl, Below.refl _ _⟩
  · go_enter Try.func9, Try.ntmps9
    go_wp2_with (go_at_call 27; go_in)
    refine (dAside _ hr (Below.refl _ _)).mono ?_
    clear hr
    rintro e w1 ⟨x, y, rfl, hb⟩
    have HB := hid hb
    clear hb
    obtain ⟨D, hD⟩ : ∃ D : Int, D = (y % 360 - x % 360) % 360 := ⟨_, rfl⟩
    have hd0 : 0 ≤ D := by omega
    have hd1 : D < 360 := by omega
    have HD := hid hD
    clear hD
    by_cases h1 : D > 180
    · have a1 : Hid (asd x y = D - 360) := by have := HD.out; show asd x y = D - 360; unfold asd; omega
      have a2 : Hid (btw x y = 360 - D) := by have := HD.out; show btw x y = _; unfold btw; omega
      have a3 : Hid (btw y x = 360 - D) := by have := HD.out; show btw y x = _; unfold btw; omega
      go_wp2_with (first | (go_at_call 35; refine (iAside _ _ _ a1.out _).mono ?_; rintro e w2 ⟨rfl, rfl⟩) | (go_at_call 36; first | ((with_reducible refine (iBetween _ _ _ a2.out _).mono ?_); rintro e w2 ⟨rfl, rfl⟩) | ((with_reducible refine (iBetween _ _ _ a3.out _).mono ?_); rintro e w2 ⟨rfl, rfl⟩)) | (go_at_call 37; refine (gmod_any _ _).mono ?_; rintro e w2 ⟨rfl, rfl⟩))
      all_goals (go_ret; exact ⟨by first | rfl | (have := HD.out; simp; omega), HB.out⟩)
    · have a1 : Hid (asd x y = D) := by have := HD.out; show asd x y = D; unfold asd; omega
      have a2 : Hid (btw x y = D) := by have := HD.out; show btw x y = _; unfold btw; omega
      have a3 : Hid (btw y x = D) := by have := HD.out; show btw y x = _; unfold btw; omega
      go_wp2_with (first | (go_at_call 35; refine (iAside _ _ _ a1.out _).mono ?_; rintro e w2 ⟨rfl, rfl⟩) | (go_at_call 36; first | ((with_reducible refine (iBetween _ _ _ a2.out _).mono ?_); rintro e w2 ⟨rfl, rfl⟩) | ((with_reducible refine (iBetween _ _ _ a3.out _).mono ?_); rintro e w2 ⟨rfl, rfl⟩)) | (go_at_call 37; refine (gmod_any _ _).mono ?_; rintro e w2 ⟨rfl, rfl⟩))
      all_goals (go_ret; exact ⟨by first | rfl | (have := HD.out; simp; omega), HB.out⟩)

end Go.Proofs.Ytjllidnkndhgmaa
