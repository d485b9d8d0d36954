/- The law FnExactParseFixed. -/
import Derived.Test.YtcafecpiijmkoaaDoorPg
namespace Go.Proofs.YtcafecpiijmkoaaDoor
open Go.RowKit

set_option maxHeartbeats 1000000 in
theorem lawParseFixed (s : ByteArray) (hs : s.size ≤ maxLen) (w : World) (hT : Tab w) :
    Calls Tryd.prog 12 #[.string s] w fun e w' => e = .returned (.bool true) ∧ Below w.heap.size w w' := by
  have hmx : s.size ≤ 9223372036854775807 := by unfold maxLen at hs; omega
  by_cases hbig : s.size > 1048576
  · go_enter Tryd.func12, Tryd.ntmps12
    go_wp2
    go_ret
    exact ⟨rfl, Below.refl _ _⟩
  · have hs' : s.size ≤ 4000000000000000000 := by omega
    go_enter Tryd.func12, Tryd.ntmps12
    go_wp2_with fail
    refine (sParseFixed s hs' (Below.refl _ _)).mono ?_
    rintro e w1 ⟨⟨n, ok, rfl, h1⟩, hB1⟩
    have HB1 := hid hB1
    clear hB1
    go_wp2_with fail
    refine (iParseFixed s hs' hT HB1.out).mono ?_
    rintro e w2 ⟨⟨m, ok2, rfl, h2⟩, hB2⟩
    have HB2 := hid hB2
    obtain ⟨rfl, rfl⟩ := h1.same h2
    clear hB2 h1 h2
    go_wp2
    go_ret
    exact ⟨by simp, HB2.out⟩
end Go.Proofs.YtcafecpiijmkoaaDoor
