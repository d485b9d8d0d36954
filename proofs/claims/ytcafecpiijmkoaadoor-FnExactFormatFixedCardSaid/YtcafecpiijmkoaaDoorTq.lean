/- The law FnExactFormatFixed. -/
import Derived.Test.YtcafecpiijmkoaaDoorTm
namespace Go.Proofs.YtcafecpiijmkoaaDoor
open Go.RowKit

set_option maxHeartbeats 1000000 in
theorem lawFormatFixed (n : Int) (b : -9223372036854775808 ≤ n ∧ n ≤ 9223372036854775807) (w : World) (hT : Tab w) :
    Calls Tryd.prog 7 #[.int .i64 n] w fun e w' => e = .returned (.bool true) ∧ Below w.heap.size w w' := by
  obtain ⟨h0, h1⟩ := b
  go_enter Tryd.func7, Tryd.ntmps7
  go_wp2_with fail
  refine (sFormatFixed n h0 h1 (Below.refl _ _)).mono ?_
  rintro e w1 ⟨rfl, hB1⟩
  have HB1 := hid hB1
  clear hB1
  go_wp2_with fail
  refine (iFormatFixed n h0 h1 hT HB1.out).mono ?_
  rintro e w2 ⟨rfl, hB2⟩
  have HB2 := hid hB2
  clear hB2
  go_wp2
  go_ret
  exact ⟨by simp, HB2.out⟩
end Go.Proofs.YtcafecpiijmkoaaDoor
