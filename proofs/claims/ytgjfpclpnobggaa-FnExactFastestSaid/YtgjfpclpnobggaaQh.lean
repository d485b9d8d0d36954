/- The law FnExactSpeedAt. -/
import Derived.Test.YtgjfpclpnobggaaQg
namespace Go.Proofs.Ytgjfpclpnobggaa
open Go.Shelf Go.RowKit

theorem Fnt.fc {x : Nat} (h : Fnt .f32 x) : fc .f32 x ≠ none := by
  obtain ⟨s, m, e, hr⟩ := h
  rw [fc_of_notNaN (by rw [hr]; rfl)]
  simp
theorem SpAns.fc {p : Prop} {r x : Nat} {b : Bool} (h : SpAns p r x b) (hr : Fnt .f32 r) : fc .f32 x ≠ none := by
  rcases h with ⟨_, rfl, _⟩ | ⟨_, rfl, _⟩
  · exact hr.fc
  · exact c_zero.1.fc
theorem sp_any (ws : List Nat) (an : List Int) (ss : List (List Nat)) (wind : Nat) (angle : Int) : ∃ r, (AllOk ws an ss wind angle → SpR ws an ss wind angle r) ∧ Fnt .f32 r := by
  by_cases h : AllOk ws an ss wind angle
  · obtain ⟨r, h1, h2⟩ := sp_ok h.1 h.2.1 h.2.2.1 h.2.2.2
    exact ⟨r, fun _ => h1, h2.1⟩
  · exact ⟨0, fun g => absurd g h, c_zero.1⟩

set_option maxHeartbeats 2000000 in
set_option maxRecDepth 100000 in
theorem lawSpeedAt (wind : Nat) (_ : wind < 2 ^ FloatKind.f32.format.width) (angle : Int) (_ : -9223372036854775808 ≤ angle ∧ angle ≤ 9223372036854775807) (w : World) {v : Value} {ws : List Nat} {an : List Int} {ss : List (List Nat)} (h : RdP w v ws an ss) :
    Calls Try.prog 5 #[v, .float .f32 wind, .int .i64 angle] w fun e w' => e = .returned (.bool true) ∧ Below w.heap.size w w' := by
  have h0 := h
  have H0 := hid h
  obtain ⟨a, b, c, rfl, h1, h2, h3⟩ := h0
  clear h1 h2 h3 h
  have hb0 := (Below.refl w.heap.size w).alloc (Nat.le_refl _) (.cells #[a, b, c] 26)
  have hz0 : Arg3 _ _ _ _ _ := heap_alloc_new w (.cells #[a, b, c] 26)
  obtain ⟨r, hr, hrf⟩ := sp_any ws an ss wind angle
  have HSp := hid hr
  have HRf := hid hrf
  clear hr hrf
  go_enter Try.func5, Try.ntmps5
  go_wp2_with fail
  have H0w := hid (H0.out.below hb0)
  refine (szP H0w.out).mono ?_
  rintro e w1 ⟨n, rfl, hn, hb1⟩
  have HZ1 := hid (hz0.keep hb1)
  have HB1 := hid (hb0.trans (hb1.mono hb0.size))
  have HR := hid hn
  have HP1 := hid (H0w.out.below hb1)
  obtain ⟨o1, o2, o3⟩ := HZ1.out.facts
  clear hb0 hz0 hb1 hn
  by_cases hr0 : n < 0
  · go_wp2
    go_ret
    exact ⟨rfl, HB1.out⟩
  · have hS : Small ws an ss := by
      rcases HR.out with h | h
      · exact absurd h hr0
      · exact h
    have HS := hid hS
    clear hS
    go_wp2_with fail
    refine (toP HS.out HP1.out).mono ?_
    rintro e w2 ⟨v2, rfl, hp2, hb2⟩
    have HP2 := hid hp2
    have HZ2 := hid (HZ1.out.keep hb2)
    have HB2 := hid (HB1.out.trans (hb2.mono HB1.out.size))
    have HQ2 := hid (HP1.out.below hb2)
    clear o1 o2 o3 hp2 hb2
    obtain ⟨o1, o2, o3⟩ := HZ2.out.facts
    go_wp2_with fail
    refine (sSpeedAt HSp.out HP2.out).mono ?_
    rintro e w3 ⟨⟨x, t, rfl, hx⟩, hb3⟩
    have HX := hid hx
    have HZ3 := hid (HZ2.out.keep hb3)
    have HB3 := hid (HB2.out.trans (hb3.mono HB2.out.size))
    have HQ3 := hid (HQ2.out.below hb3)
    clear o1 o2 o3 hx hb3
    obtain ⟨o1, o2, o3⟩ := HZ3.out.facts
    go_wp2_with fail
    refine (toP HS.out HQ3.out).mono ?_
    rintro e w4 ⟨v4, rfl, hp4, hb4⟩
    have hv4 := hp4
    obtain ⟨A1, c1, A2, c2, A3, c3, rfl⟩ := hv4.shape
    have HP4 := hid hp4
    have HZ4 := hid (HZ3.out.keep hb4)
    have HB4 := hid (HB3.out.trans (hb4.mono HB3.out.size))
    have HQ4 := hid (HQ3.out.below hb4)
    clear o1 o2 o3 hp4 hb4
    obtain ⟨o1, o2, o3⟩ := HZ4.out.facts
    go_wp2_with fail
    have hbn := (Below.refl w4.heap.size w4).alloc (Nat.le_refl _) (.cells #[.slice A1 ws.length c1, .slice A2 an.length c2, .slice A3 ss.length c3] 29)
    have hxn : Tri _ _ _ _ _ := heap_alloc_new w4 (.cells #[.slice A1 ws.length c1, .slice A2 an.length c2, .slice A3 ss.length c3] 29)
    have HP4n := hid (HP4.out.below hbn)
    refine (iSpeedAt HS.out.2.2.2 HSp.out HP4n.out).mono ?_
    rintro e w5 ⟨⟨x', t', rfl, hx'⟩, hb5⟩
    obtain ⟨rfl, rfl⟩ := HX.out.same hx'
    have HX5 := hid (hxn.keep hb5)
    have HZ5 := hid ((HZ4.out.keep hbn).keep hb5)
    have HB5 := hid ((HB4.out.trans (hbn.mono HB4.out.size)).trans (hb5.mono (HB4.out.trans (hbn.mono HB4.out.size)).size))
    have HP5 := hid (HP4n.out.below hb5)
    have HQ5 := hid ((HQ4.out.below hbn).below hb5)
    clear o1 o2 o3 hx' hb5 hbn hxn
    obtain ⟨o1, o2, o3⟩ := HZ5.out.facts
    obtain ⟨⟨t1, t2, t3⟩, _⟩ := HX5.out.facts
    obtain ⟨x6, hx6, _, hcv⟩ := conv_num (HX.out.fc HRf.out)
    have HX6 := hid hx6
    clear hx6
    generalize w4.heap.size = g4 at HX5 t1 t2 t3 ⊢
    go_wp2_with fail
    refine (same_eq x6 HX6.out w5).mono ?_
    rintro e w6 ⟨rfl, n6, hw6⟩
    have hb6 : Below w5.heap.size w5 w6 := hw6 ▸ below_drewN (Below.refl _ _) n6
    have HXn := hid (HX5.out.keep hb6)
    have HZn := hid (HZ5.out.keep hb6)
    have HBn := hid (HB5.out.trans (hb6.mono HB5.out.size))
    have HPn := hid (HP5.out.below hb6)
    have HQn := hid (HQ5.out.below hb6)
    clear o1 o2 o3 t1 t2 t3 hb6 hw6 hcv
    obtain ⟨o1, o2, o3⟩ := HZn.out.facts
    obtain ⟨⟨t1, t2, t3⟩, _⟩ := HXn.out.facts
    have hent1 : ∀ args w, (callFunc 12 args).run Try.prog w = .ok (.enter 12 args) w := enters_of Try.func12 (by kernel_rfl) rfl
    have hent2 : ∀ args w, (callFunc 14 args).run Try.prog w = .ok (.enter 14 args) w := enters_of Try.func14 (by kernel_rfl) rfl
    have hdr := hid ((Below.refl w6.heap.size w6).drew)
    cases t
    all_goals
      go_wp2_with fail
      go_region_law (first | (refine step_callE rfl 12 (.tmp 47) 26 rfl hent1 _ rfl _ (toP HS.out (HQn.out.below hdr.out)) ?_; intro v7 w7 hpb7; have hp7 := hpb7.1; have hb7 := hdr.out.trans hpb7.2; have HP57 := HPn.out.below hb7; have HX7 := hid (HXn.out.keep hb7); obtain ⟨⟨s1, s2, s3⟩, _⟩ := HX7.out.facts) | (refine step_call2 rfl 14 (.tmp 46) (.tmp 48) 29 rfl hent2 _ _ (.bool true) rfl rfl _ (eqP HS.out HP57 hp7) ?_; intro w8 hb8))
      all_goals
        have HB8 := hid ((HBn.out.trans (hb7.mono HBn.out.size)).trans (hb8.mono (HBn.out.trans (hb7.mono HBn.out.size)).size))
        clear hb8 hb7
        go_wp2
        go_ret
        exact ⟨rfl, HB8.out⟩
end Go.Proofs.Ytgjfpclpnobggaa
