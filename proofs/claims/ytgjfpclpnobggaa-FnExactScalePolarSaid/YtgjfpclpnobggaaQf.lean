/- SpeedAt of the first side. -/
import Derived.Test.YtgjfpclpnobggaaQe
import Derived.Test.YtgjfpclpnobggaaPw
namespace Go.Proofs.Ytgjfpclpnobggaa
open Go.Shelf Go.RowKit

/-- what SpeedAt asks of its arguments -/
def AllOk (ws : List Nat) (an : List Int) (ss : List (List Nat)) (wind : Nat) (angle : Int) : Prop := PolOk ws an ss ∧ WindIn wind ∧ 0 ≤ angle ∧ angle ≤ 180
def SpAns (p : Prop) (r x : Nat) (b : Bool) : Prop := (p ∧ x = r ∧ b = true) ∨ (¬ p ∧ x = 0 ∧ b = false)
theorem SpAns.same {p : Prop} {r x x' : Nat} {b b' : Bool} (h : SpAns p r x b) (g : SpAns p r x' b') : x = x' ∧ b = b' := by
  rcases h with ⟨h1, rfl, rfl⟩ | ⟨h1, rfl, rfl⟩ <;> rcases g with ⟨g1, rfl, rfl⟩ | ⟨g1, rfl, rfl⟩
  · exact ⟨rfl, rfl⟩
  · exact absurd h1 g1
  · exact absurd g1 h1
  · exact ⟨rfl, rfl⟩
theorem sp_no {p : Prop} {r : Nat} (h : ¬ p) : ∃ x b, (Ending.returned (.tuple #[.float .f32 0, .bool false])) = .returned (.tuple #[.float .f32 x, .bool b]) ∧ SpAns p r x b := ⟨0, false, rfl, .inr ⟨h, rfl, rfl⟩⟩
theorem sp_yes {p : Prop} {r : Nat} (h : p) : ∃ x b, (Ending.returned (.tuple #[.float .f32 r, .bool true])) = .returned (.tuple #[.float .f32 x, .bool b]) ∧ SpAns p r x b := ⟨r, true, rfl, .inl ⟨h, rfl, rfl⟩⟩

theorem iSpeedIn {w : World} {v : Value} {ws : List Nat} {an : List Int} {ss : List (List Nat)} {wind : Nat} {angle : Int} {r : Nat} (hA : AllOk ws an ss wind angle) (hr : SpR ws an ss wind angle r) (h : RdP w v ws an ss) :
    Calls Try.prog 46 #[v, .float .f32 wind, .int .i64 angle] w fun e w' => e = .returned (.float .f32 r) ∧ Below w.heap.size w w' := by
  obtain ⟨hP, hw, a0, a1⟩ := hA
  obtain ⟨n, hn, hs, hr⟩ := hr
  rcases hr with ⟨h1, q, k, s, h2, h3, h4⟩ | ⟨h1, h2, k, h3⟩ | ⟨h1, h2, i, hi, h3, h4, d1, d2, q, k1, s, k2, t, h5, h6, h7, h8, h9, h10⟩
  · exact iSpeedAt1 hP a0 a1 (by omega) (by omega) h1 h2 h3 h4 h
  · exact iSpeedAt2 hP a0 a1 (by omega) (by omega) hn (by omega) (by omega) h1 h2 h3 h
  · exact iSpeedAt3 hP a0 a1 (by omega) (by omega) hn (by omega) h1 h2 (by omega) (by omega) (by omega) hi h3 h4 h5 h6 h7 h8 h9 h10 h

set_option maxHeartbeats 1000000 in
set_option maxRecDepth 100000 in
theorem iSpeedAt {w : World} {v : Value} {ws : List Nat} {an : List Int} {ss : List (List Nat)} {wind : Nat} {angle : Int} {r : Nat} (hS : ∀ r ∈ ss, r.length ≤ 1048576) (hr : AllOk ws an ss wind angle → SpR ws an ss wind angle r) (h : RdP w v ws an ss) :
    Calls Try.prog 17 #[v, .float .f32 wind, .int .i64 angle] w fun e w' => (∃ x b, e = .returned (.tuple #[.float .f32 x, .bool b]) ∧ SpAns (AllOk ws an ss wind angle) r x b) ∧ Below w.heap.size w w' := by
  have H := hid h
  have HR := hid hr
  have HSm := hid hS
  clear hr hS
  obtain ⟨A1, c1, A2, c2, A3, c3, rfl⟩ := h.shape
  have hb := (Below.refl w.heap.size w).alloc (Nat.le_refl _) (.cells #[.slice A1 ws.length c1, .slice A2 an.length c2, .slice A3 ss.length c3] 29)
  have hT : Tri _ _ _ _ _ := heap_alloc_new w (.cells #[.slice A1 ws.length c1, .slice A2 an.length c2, .slice A3 ss.length c3] 29)
  have HT := hid hT
  have HB := hid hb
  have HP := hid (H.out.below hb)
  clear hb hT h
  go_enter Try.func17, Try.ntmps17
  go_wp2_with fail
  generalize w.alloc (.cells #[.slice A1 ws.length c1, .slice A2 an.length c2, .slice A3 ss.length c3] 29) = w1 at HT HB HP ⊢
  refine (iPolarOk HSm.out HP.out).mono ?_
  rintro e w2 ⟨⟨b, rfl, hbs⟩, hb2⟩
  have HBs := hid hbs
  have HT2 := hid (HT.out.keep hb2)
  have HB2 := hid (HB.out.trans (hb2.mono HB.out.size))
  have HP2 := hid (HP.out.below hb2)
  clear hbs hb2
  obtain ⟨⟨x1, x2, x3⟩, _⟩ := HT2.out.facts
  cases b
  · have HN := hid (show ¬ AllOk ws an ss wind angle from fun h => by have := HBs.out.2 h.1; cases this)
    go_wp2
    go_ret2
    exact ⟨sp_no HN.out, HB2.out⟩
  · obtain ⟨b2, hb2⟩ : ∃ b, geB wind 0 = b := ⟨_, rfl⟩
    obtain ⟨b3, hb3⟩ : ∃ b, leB wind 1120403456 = b := ⟨_, rfl⟩
    have HQ2 := hid hb2
    have HQ3 := hid hb3
    unfold geB at hb2
    unfold leB at hb3
    cases b2
    · have HN := hid (show ¬ AllOk ws an ss wind angle from fun h => by have := h.2.1.1; rw [HQ2.out] at this; cases this)
      go_wp2
      go_ret2
      exact ⟨sp_no HN.out, HB2.out⟩
    · cases b3
      · have HN := hid (show ¬ AllOk ws an ss wind angle from fun h => by have := h.2.1.2; rw [HQ3.out] at this; cases this)
        go_wp2
        go_ret2
        exact ⟨sp_no HN.out, HB2.out⟩
      · by_cases a0 : 0 ≤ angle
        · by_cases a1 : angle ≤ 180
          · have HY := hid (show AllOk ws an ss wind angle from ⟨HBs.out.1 rfl, ⟨HQ2.out, HQ3.out⟩, a0, a1⟩)
            go_wp2_with (first | (go_at_call 37; go_in) | fail)
            refine (iSpeedIn HY.out (HR.out HY.out) HP2.out).mono ?_
            rintro e w3 ⟨rfl, hb3⟩
            have HB3 := hid (HB2.out.trans (hb3.mono HB2.out.size))
            go_wp2
            go_ret2
            exact ⟨sp_yes HY.out, HB3.out⟩
          · have HN := hid (show ¬ AllOk ws an ss wind angle from fun h => a1 h.2.2.2)
            have hd : decide (angle ≤ 180) = false := decide_eq_false a1
            go_wp2_with (go_at_call 37; go_in)
            go_ret2
            exact ⟨sp_no HN.out, HB2.out⟩
        · have HN := hid (show ¬ AllOk ws an ss wind angle from fun h => a0 h.2.2.1)
          have hd : decide (0 ≤ angle) = false := decide_eq_false a0
          go_wp2_with (go_at_call 37; go_in)
          go_ret2
          exact ⟨sp_no HN.out, HB2.out⟩
end Go.Proofs.Ytgjfpclpnobggaa
