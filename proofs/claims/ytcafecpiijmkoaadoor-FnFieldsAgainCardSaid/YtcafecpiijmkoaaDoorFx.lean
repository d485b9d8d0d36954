/- The law FnFixedText. -/
import Derived.Test.YtcafecpiijmkoaaDoorPf
import Derived.Test.YtcafecpiijmkoaaDoorDx
namespace Go.Proofs.YtcafecpiijmkoaaDoor
open Go.RowKit

theorem fixB_size (n : Int) : (fixB n).size ≤ 4000000000000000000 := by
  unfold fixB
  split
  · rename_i h
    have : (fixL n).length ≤ 12 := by
      unfold fixL
      split
      · have := fixU_len_le n.natAbs (by omega); simp; omega
      · have := fixU_len_le n.natAbs (by omega); omega
    simp [ByteArray.size]; omega
  · decide
/-- what ParseFixed says of the text of n -/
theorem pf_fixB {n m : Int} {ok : Bool} (h : PF (fixB n) m ok) : ((-1000000000 ≤ n ∧ n ≤ 1000000000) ∧ m = n ∧ ok = true ∧ ¬ (fixB n).toList = []) ∨ (¬ (-1000000000 ≤ n ∧ n ≤ 1000000000) ∧ ok = false ∧ (fixB n).toList = []) := by
  by_cases hn : -1000000000 ≤ n ∧ n ≤ 1000000000
  · left
    have hf : IsFix n (fixB n) := ⟨hn.1, hn.2, by rw [fixB, if_pos hn]⟩
    have hne : ¬ (fixB n).toList = [] := by rw [Go.ByteArray.toList_eq, hf.2.2]; exact fixL_ne n
    rcases h with ⟨h, rfl⟩ | ⟨h, rfl, rfl⟩
    · exact ⟨hn, h.one hf, rfl, hne⟩
    · exact absurd hf (h _)
  · right
    have he : fixB n = ⟨#[]⟩ := if_neg hn
    rw [he] at h ⊢
    rcases h with ⟨h, rfl⟩ | ⟨h, rfl, rfl⟩
    · exact absurd h.2.2.symm (fixL_ne m)
    · exact ⟨hn, rfl, by rw [Go.ByteArray.toList_eq]⟩

set_option maxHeartbeats 2000000 in
set_option maxRecDepth 100000 in
theorem lawFixedText (A : Option Addr) (n c : Nat) (w : World) (hr : RdB w A n) (hT : Tab w) :
    Calls Tryd.prog 10 #[.slice A n c] w fun e w' => e = .returned (.bool true) ∧ Below w.heap.size w w' := by
  have hn := hr.1
  have HT := hid hT
  clear hT
  by_cases hbig : n > 1048576
  · clear hr
    go_enter Tryd.func10, Tryd.ntmps10
    go_wp2
    go_ret
    exact ⟨rfl, Below.refl _ _⟩
  · go_enter Tryd.func10, Tryd.ntmps10
    go_wp2_with (go_at_call 13; go_in)
    refine (dFormatFixed _ hr (Below.refl _ _)).mono ?_
    clear hr
    rintro e w1 ⟨r, rfl, ⟨hi0, hi1⟩, hb⟩
    have HB1 := hid hb
    clear hb
    go_wp2_with fail
    refine (iFormatFixed r hi0 hi1 HT.out HB1.out).mono ?_
    rintro e w2 ⟨rfl, hb⟩
    have HB2 := hid hb
    clear hb
    go_wp2_with fail
    refine (iParseFixed _ (fixB_size r) HT.out HB2.out).mono ?_
    rintro e w3 ⟨⟨m, ok, rfl, hp⟩, hb⟩
    have HB3 := hid hb
    clear hb
    rcases pf_fixB hp with ⟨⟨h0, h1⟩, rfl, rfl, hne⟩ | ⟨h0, rfl, hne⟩
    · clear hp
      generalize fixB m = S at hne ⊢
      go_wp2
      all_goals (go_ret; exact ⟨by first | rfl | (simp; omega), HB3.out⟩)
    · clear hp
      by_cases h1 : -1000000000 ≤ r
      · have h2 : 1000000000 < r := by omega
        go_wp2
        all_goals (go_ret; exact ⟨by first | rfl | (simp; omega), HB3.out⟩)
      · go_wp2
        all_goals (go_ret; exact ⟨by first | rfl | (simp; omega), HB3.out⟩)
end Go.Proofs.YtcafecpiijmkoaaDoor
