/- The law FnFixedParsed. -/
import Derived.Test.YtcafecpiijmkoaaDoorFy
namespace Go.Proofs.YtcafecpiijmkoaaDoor
open Go.RowKit

theorem fix50 : IsFix (-50) ⟨#[45, 48, 46, 48, 53, 48]⟩ := by
  refine ⟨by decide, by decide, ?_⟩
  show _ = 45 :: (Lib.decDigits 0 ++ 46 :: d3 50)
  rw [Lib.decDigits_one (by decide)]; rfl
theorem pf50 {m : Int} {ok : Bool} (h : PF ⟨#[45, 48, 46, 48, 53, 48]⟩ m ok) : m = -50 ∧ ok = true := by
  rcases h with ⟨h, rfl⟩ | ⟨h, rfl, rfl⟩
  · exact ⟨h.one fix50, rfl⟩
  · exact absurd fix50 (h _)
/-- what the law asks of an answer -/
theorem pf_again {s : ByteArray} {n : Int} {ok : Bool} (h : PF s n ok) : (ok = true ∧ fixB n = s ∧ (-1000000000 ≤ n ∧ n ≤ 1000000000) ∧ ¬ s.toList = []) ∨ (ok = false ∧ n = 0 ∧ (s.toList = [] ∨ ¬ s.toList = [] ∧ ¬ fixB n = s)) := by
  rcases h with ⟨h, rfl⟩ | ⟨h, rfl, rfl⟩
  · left
    exact ⟨rfl, h.fixB, ⟨h.1, h.2.1⟩, by rw [Go.ByteArray.toList_eq, h.2.2]; exact fixL_ne n⟩
  · right
    refine ⟨rfl, rfl, ?_⟩
    by_cases he : s.toList = []
    · exact .inl he
    · exact .inr ⟨he, fun e => h 0 (isFix_fixB 0 s (by rw [← Go.ByteArray.toList_eq]; exact he) e)⟩

set_option maxHeartbeats 2000000 in
set_option maxRecDepth 100000 in
theorem lawFixedParsed (A : Option Addr) (n c : Nat) (w : World) (hr : RdB w A n) (hT : Tab w) :
    Calls Tryd.prog 4 #[.slice A n c] w fun e w' => e = .returned (.bool true) ∧ Below w.heap.size w w' := by
  have hn := hr.1
  have HT := hid hT
  clear hT
  by_cases hbig : n > 1048576
  · clear hr
    go_enter Tryd.func4, Tryd.ntmps4
    go_wp2
    go_ret
    exact ⟨rfl, Below.refl _ _⟩
  · go_enter Tryd.func4, Tryd.ntmps4
    go_wp2_with (go_at_call 13; go_in)
    refine (dParseFixed _ hr (Below.refl _ _)).mono ?_
    clear hr
    rintro e w1 ⟨T, rfl, hsz, hb⟩
    have HB1 := hid hb
    clear hb
    go_wp2_with fail
    refine (iParseFixed T (by omega) HT.out HB1.out).mono ?_
    rintro e w2 ⟨⟨m, ok, rfl, hp⟩, hb⟩
    have HB2 := hid hb
    have HP := hid hp
    clear hb hp
    go_wp2_with fail
    refine (iParseFixed _ (by decide) HT.out HB2.out).mono ?_
    rintro e w3 ⟨⟨m2, ok2, rfl, hp⟩, hb⟩
    have HB3 := hid hb
    obtain ⟨rfl, rfl⟩ := pf50 hp
    clear hb hp
    rcases pf_again HP.out with ⟨rfl, he, ⟨h0, h1⟩, hne⟩ | ⟨rfl, rfl, he | ⟨hne, he⟩⟩
    · have HE := hid he
      clear he
      go_wp2_with fail
      refine (iFormatFixed m (by omega) (by omega) HT.out HB3.out).mono ?_
      rintro e w4 ⟨rfl, hb⟩
      have HB4 := hid hb
      clear hb
      rw [HE.out]
      go_wp2
      all_goals (go_ret; exact ⟨by first | rfl | (simp; omega), HB4.out⟩)
    · go_wp2
      all_goals (go_ret; exact ⟨by first | rfl | (simp; omega), HB3.out⟩)
    · have hq : ((fixB 0).toList == T.toList) = false := by rw [beq_ba]; exact decide_eq_false he
      clear he
      go_wp2_with fail
      refine (iFormatFixed 0 (by omega) (by omega) HT.out HB3.out).mono ?_
      rintro e w4 ⟨rfl, hb⟩
      have HB4 := hid hb
      clear hb
      go_wp2
      all_goals (go_ret; exact ⟨by first | rfl | (simp; omega), HB4.out⟩)
end Go.Proofs.YtcafecpiijmkoaaDoor
