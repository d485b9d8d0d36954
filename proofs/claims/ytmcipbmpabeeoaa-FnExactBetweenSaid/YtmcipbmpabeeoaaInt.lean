/- Contracts over the text: mod, Between, Aside, Clamp answer as plain functions of whole numbers. -/
import Derived.Test.YtmcipbmpabeeoaaRows
import Derived.WalkKit
namespace Go.Proofs.Ytmcipbmpabeeoaa
open Go.RowKit

theorem ret_int {k : IntKind} {a b : Int} (h : a = b) : Ending.returned (.int k a) = .returned (.int k b) := by rw [h]

theorem tmod360 (n : Int) : (n.tmod 360 + 360) % 360 = n % 360 := by
  have h := Int.tmod_eq_emod (a := n) (b := 360)
  rw [h]
  split <;> simp <;> omega

theorem tmod360_bd (n : Int) : -360 < n.tmod 360 ∧ n.tmod 360 < 360 := by
  have h := Int.tmod_eq_emod (a := n) (b := 360)
  rw [h]; split <;> simp <;> omega

theorem mod_any (n : Int) (w : World) :
    Calls Try.prog 25 #[.int .i64 n] w fun e w' => e = .returned (.int .i64 (n % 360)) ∧ w = w' := by
  have hb := tmod360_bd n
  go_enter Try.func25, Try.ntmps25
  go_wp2
  go_ret
  exact ⟨ret_int (tmod360 n), rfl⟩

theorem lmod_any (n : Int) (w : World) :
    Calls Try.prog 24 #[.int .i64 n] w fun e w' => e = .returned (.int .i64 (n % 360)) ∧ w = w' := by
  have hb := tmod360_bd n
  go_enter Try.func24, Try.ntmps24
  go_wp2
  go_ret
  exact ⟨ret_int (tmod360 n), rfl⟩

/-- the lesser way round -/
def btw (a b : Int) : Int := min ((b % 360 - a % 360) % 360) ((-((b % 360 - a % 360) % 360)) % 360)
def asd (a b : Int) : Int := if (b % 360 - a % 360) % 360 > 180 then (b % 360 - a % 360) % 360 - 360 else (b % 360 - a % 360) % 360

theorem iBetween (a b : Int) (w : World) :
    Calls Try.prog 11 #[.int .i64 a, .int .i64 b] w fun e w' => e = .returned (.int .i64 (btw a b)) ∧ w = w' := by
  go_enter Try.func11, Try.ntmps11
  go_wp2_with ((go_at_call 25; refine (mod_any _ _).mono ?_; rintro e w' ⟨rfl, rfl⟩))
  all_goals (go_ret; exact ⟨ret_int (by unfold btw; omega), rfl⟩)

theorem sBetween (a b : Int) (w : World) :
    Calls Try.prog 10 #[.int .i64 a, .int .i64 b] w fun e w' => e = .returned (.int .i64 (btw a b)) ∧ w = w' := by
  go_enter Try.func10, Try.ntmps10
  go_wp2_with ((go_at_call 24; refine (lmod_any _ _).mono ?_; rintro e w' ⟨rfl, rfl⟩))
  all_goals (go_ret; exact ⟨ret_int (by unfold btw; omega), rfl⟩)

theorem iAside (a b : Int) (w : World) :
    Calls Try.prog 15 #[.int .i64 a, .int .i64 b] w fun e w' => e = .returned (.int .i64 (asd a b)) ∧ w = w' := by
  go_enter Try.func15, Try.ntmps15
  go_wp2_with ((go_at_call 25; refine (mod_any _ _).mono ?_; rintro e w' ⟨rfl, rfl⟩))
  all_goals (go_ret; exact ⟨ret_int (by unfold asd; split <;> omega), rfl⟩)

theorem sAside (a b : Int) (w : World) :
    Calls Try.prog 14 #[.int .i64 a, .int .i64 b] w fun e w' => e = .returned (.int .i64 (asd a b)) ∧ w = w' := by
  go_enter Try.func14, Try.ntmps14
  go_wp2_with ((go_at_call 24; refine (lmod_any _ _).mono ?_; rintro e w' ⟨rfl, rfl⟩))
  all_goals (go_ret; exact ⟨ret_int (by unfold asd; split <;> omega), rfl⟩)

def clp (n lo hi : Int) : Int := if hi < lo ∨ n < lo then lo else min n hi

theorem iClamp (n lo hi : Int) (w : World) :
    Calls Try.prog 13 #[.int .i64 n, .int .i64 lo, .int .i64 hi] w fun e w' => e = .returned (.int .i64 (clp n lo hi)) ∧ w = w' := by
  go_enter Try.func13, Try.ntmps13
  go_wp2
  all_goals (go_ret; exact ⟨ret_int (by unfold clp; split <;> omega), rfl⟩)

theorem sClamp (n lo hi : Int) (w : World) :
    Calls Try.prog 12 #[.int .i64 n, .int .i64 lo, .int .i64 hi] w fun e w' => e = .returned (.int .i64 (clp n lo hi)) ∧ w = w' := by
  go_enter Try.func12, Try.ntmps12
  go_wp2
  all_goals (go_ret; exact ⟨ret_int (by unfold clp; split <;> omega), rfl⟩)
end Go.Proofs.Ytmcipbmpabeeoaa
