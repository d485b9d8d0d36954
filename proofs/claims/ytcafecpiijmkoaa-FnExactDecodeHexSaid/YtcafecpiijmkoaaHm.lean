/- The law FnExactDecodeHex. -/
import Derived.Test.YtcafecpiijmkoaaHd
namespace Go.Proofs.Ytcafecpiijmkoaa
open Go.RowKit

set_option maxHeartbeats 1000000 in
theorem lawDecodeHex (s : ByteArray) (hs : s.size ≤ maxLen) (w : World) :
    Calls Try.prog 4 #[.string s] w fun e w' => e = .returned (.bool true) ∧ Below w.heap.size w w' := by
  have hs' : s.size ≤ 9223372036854775807 := by unfold maxLen at hs; omega
  by_cases hbig : s.size > 1048576
  · go_enter Try.func4, Try.ntmps4
    go_wp2
    go_ret
    exact ⟨rfl, Below.refl _ _⟩
  · go_enter Try.func4, Try.ntmps4
    go_wp2_with fail
    refine (sDecode s hs' _).mono ?_
    rintro e w1 ⟨T, ok, rfl, h1, hB1⟩
    have HB1 := hid hB1
    clear hB1
    go_wp2_with fail
    refine (iDecode s hs' _).mono ?_
    rintro e w2 ⟨U, ok2, rfl, h2, hB2⟩
    have HB2 := hid (HB1.out.trans (hB2.mono HB1.out.size))
    obtain ⟨rfl, rfl⟩ := h1.same h2
    clear hB2 h1 h2
    go_wp2
    go_ret
    exact ⟨by simp, HB2.out⟩
end Go.Proofs.Ytcafecpiijmkoaa
