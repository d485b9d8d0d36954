/- The law FnExactSplitFields: its walk. -/
import Derived.Test.YtcafecpiijmkoaaDoorSs
namespace Go.Proofs.YtcafecpiijmkoaaDoor
open Go.RowKit

theorem SF.len {s : ByteArray} {Ls : List ByteArray} {ok : Bool} (h : SF s Ls ok) : Ls.length ≤ 24 := by
  rcases h with ⟨h, _, e⟩ | ⟨_, _, rfl⟩
  · have := congrArg List.length e
    rw [toLs, List.length_map] at this
    omega
  · simp

set_option maxHeartbeats 4000000 in
set_option maxRecDepth 100000 in
theorem lawSplitFields (s : ByteArray) (hs : s.size ≤ maxLen) (w : World) (m : Int) (hm : w.cell? ⟨0, 0, none⟩ = some (.int .i64 m)) :
    Calls Tryd.prog 11 #[.string s] w fun e w' => e = .returned (.bool true) ∧ Below w.heap.size w w' := by
  have hmx : s.size ≤ 9223372036854775807 := by unfold maxLen at hs; omega
  have HM := hid hm
  clear hm
  by_cases hbig : s.size > 1048576
  · go_enter Tryd.func11, Tryd.ntmps11
    go_wp2
    go_ret
    exact ⟨rfl, Below.refl _ _⟩
  · have hs' : s.size ≤ 4000000000000000000 := by omega
    go_enter Tryd.func11, Tryd.ntmps11
    go_wp2_with fail
    refine (sSplit s hs' (Below.refl _ w)).mono ?_
    rintro e w1 ⟨⟨v1, ok, Ls, rfl, hsf, ht1⟩, hb⟩
    have HB1 := hid hb
    have HT1 := hid ht1
    clear hb ht1
    go_wp2_with fail
    have HM1 := hid ((HB1.out.cell (p := ⟨0, 0, none⟩) (World.block_lt_of_cell? w _ HM.out)).trans HM.out)
    refine (iSplit s hs' m HM1.out (Below.refl _ w1)).mono ?_
    rintro e w2 ⟨⟨v2, ok2, Ls2, rfl, hsf2, ht2⟩, hb⟩
    have HB2 := hid hb
    have HT2 := hid ht2
    have HT12 := hid (HT1.out.keep HB2.out)
    obtain ⟨rfl, rfl⟩ := hsf.same hsf2
    have HSF := hid hsf
    have hlen := hsf.len
    clear hb ht2 hsf hsf2
    go_wp2_with fail
    refine (eqTexts (by omega) (RdS.of HT2.out) (RdS.of HT12.out)).mono ?_
    rintro e w3 ⟨rfl, hb⟩
    have HT3 := hid (HT2.out.keep hb)
    have HB3 := hid (HB2.out.trans (hb.mono HB2.out.size))
    clear hb
    go_wp2_with fail
    refine (markS (B := w1.heap.size) 1 (by decide) (by decide) (by omega) HT3.out (Nat.le_refl _) HB3.out.size).mono ?_
    rintro e w4 ⟨rfl, ht4, hb⟩
    have HT4 := hid ht4
    have HB4 := hid (HB3.out.trans hb)
    clear ht4 hb
    go_wp2_with fail
    refine (heldS 1 Ls.length (by decide) (by decide) (by omega) HT4.out).mono ?_
    rintro e w5 ⟨rfl, hb⟩
    have HT5 := hid (HT4.out.keep hb)
    have HB5 := hid (HB4.out.trans (hb.mono HB4.out.size))
    clear hb
    go_wp2_with fail
    have HM5 := hid ((HB5.out.cell (p := ⟨0, 0, none⟩) (World.block_lt_of_cell? w1 _ HM1.out)).trans HM1.out)
    refine (iSplit s hs' m HM5.out (Below.refl _ w5)).mono ?_
    rintro e w6 ⟨⟨v6, ok6, Ls6, rfl, hsf6, ht6⟩, hb⟩
    have HT6 := hid ht6
    have HB6 := hid (HB5.out.trans (hb.mono HB5.out.size))
    have HT56 := hid (HT5.out.keep hb)
    obtain ⟨rfl, rfl⟩ := HSF.out.same hsf6
    clear hb ht6 hsf6
    go_wp2_with fail
    refine (eqTexts (by omega) (RdS.of HT6.out) (RdS.of (HT1.out.keep HB6.out))).mono ?_
    rintro e w7 ⟨rfl, hb⟩
    have HT7 := hid (HT56.out.keep hb)
    have HB7 := hid (HB6.out.trans (hb.mono HB6.out.size))
    clear hb
    go_wp2_with fail
    refine (heldS 1 Ls.length (by decide) (by decide) (by omega) HT7.out).mono ?_
    rintro e w8 ⟨rfl, hb⟩
    have HB8 := hid (HB7.out.trans (hb.mono HB7.out.size))
    clear hb
    go_wp2
    all_goals (go_ret; exact ⟨by first | rfl | (simp; omega), HB1.out.trans (HB8.out.mono HB1.out.size)⟩)
end Go.Proofs.YtcafecpiijmkoaaDoor
