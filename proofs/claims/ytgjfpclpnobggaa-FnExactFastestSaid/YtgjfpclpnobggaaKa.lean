/- The law FnExactFastest. -/
import Derived.Test.YtgjfpclpnobggaaQz
namespace Go.Proofs.Ytgjfpclpnobggaa
open Go.Shelf Go.RowKit

set_option maxHeartbeats 2000000 in
set_option maxRecDepth 100000 in
theorem lawFastest (wind : Nat) (_ : wind < 2 ^ FloatKind.f32.format.width) (w : World) {v : Value} {ws : List Nat} {an : List Int} {ss : List (List Nat)} (h : RdP w v ws an ss) :
    Calls Try.prog 9 #[v, .float .f32 wind] w fun e w' => e = .returned (.bool true) ∧ Below w.heap.size w w' := by
  have h0 := h
  have H0 := hid h
  obtain ⟨a, b, c, rfl, h1, h2, h3⟩ := h0
  clear h1 h2 h3 h
  have hb0 := (Below.refl w.heap.size w).alloc (Nat.le_refl _) (.cells #[a, b, c] 26)
  have hz0 : Arg3 _ _ _ _ _ := heap_alloc_new w (.cells #[a, b, c] 26)
  obtain ⟨F, hF⟩ := speeds_ok ws an ss wind
  have HF := hid hF
  clear hF
  go_enter Try.func9, Try.ntmps9
  go_wp2_with fail
  have H0w := hid (H0.out.below hb0)
  refine (szP H0w.out).mono ?_
  rintro e w1 ⟨n, rfl, hn, hb1⟩
  have HZ1 := hid (hz0.keep hb1)
  have HB1 := hid (hb0.trans (hb1.mono hb0.size))
  have HR := hid hn
  have HP1 := hid (H0w.out.below hb1)
  obtain ⟨o1, o2, o3⟩ := HZ1.out.facts
  clear hb0 hz0 hb1 hn
  by_cases hr0 : n < 0
  · go_wp2
    go_ret
    exact ⟨rfl, HB1.out⟩
  · have hS : Small ws an ss := by
      rcases HR.out with h | h
      · exact absurd h hr0
      · exact h
    have HS := hid hS
    clear hS
    go_wp2_with fail
    refine (toP HS.out HP1.out).mono ?_
    rintro e w2 ⟨v2, rfl, hp2, hb2⟩
    have HP2 := hid hp2
    have HZ2 := hid (HZ1.out.keep hb2)
    have HB2 := hid (HB1.out.trans (hb2.mono HB1.out.size))
    have HQ2 := hid (HP1.out.below hb2)
    clear o1 o2 o3 hp2 hb2
    obtain ⟨o1, o2, o3⟩ := HZ2.out.facts
    go_wp2_with fail
    refine (sFastest HF.out HP2.out).mono ?_
    rintro e w3 ⟨⟨x, t, rfl, hx⟩, hb3⟩
    have HX := hid hx
    have HZ3 := hid (HZ2.out.keep hb3)
    have HB3 := hid (HB2.out.trans (hb3.mono HB2.out.size))
    have HQ3 := hid (HQ2.out.below hb3)
    clear o1 o2 o3 hx hb3
    obtain ⟨o1, o2, o3⟩ := HZ3.out.facts
    go_wp2_with fail
    refine (toP HS.out HQ3.out).mono ?_
    rintro e w4 ⟨v4, rfl, hp4, hb4⟩
    have hv4 := hp4
    obtain ⟨A1, c1, A2, c2, A3, c3, rfl⟩ := hv4.shape
    have HP4 := hid hp4
    have HZ4 := hid (HZ3.out.keep hb4)
    have HB4 := hid (HB3.out.trans (hb4.mono HB3.out.size))
    have HQ4 := hid (HQ3.out.below hb4)
    clear o1 o2 o3 hp4 hb4
    obtain ⟨o1, o2, o3⟩ := HZ4.out.facts
    go_wp2_with fail
    have hbn := (Below.refl w4.heap.size w4).alloc (Nat.le_refl _) (.cells #[.slice A1 ws.length c1, .slice A2 an.length c2, .slice A3 ss.length c3] 29)
    have hxn : Tri _ _ _ _ _ := heap_alloc_new w4 (.cells #[.slice A1 ws.length c1, .slice A2 an.length c2, .slice A3 ss.length c3] 29)
    have HP4n := hid (HP4.out.below hbn)
    refine (iFastest HS.out.2.2.2 HF.out HP4n.out).mono ?_
    rintro e w5 ⟨⟨x', t', rfl, hx'⟩, hb5⟩
    obtain ⟨rfl, rfl⟩ := HX.out.same hx'
    have HX5 := hid (hxn.keep hb5)
    have HZ5 := hid ((HZ4.out.keep hbn).keep hb5)
    have HB5 := hid ((HB4.out.trans (hbn.mono HB4.out.size)).trans (hb5.mono (HB4.out.trans (hbn.mono HB4.out.size)).size))
    have HP5 := hid (HP4n.out.below hb5)
    have HQ5 := hid ((HQ4.out.below hbn).below hb5)
    clear o1 o2 o3 hx' hb5 hbn hxn
    obtain ⟨o1, o2, o3⟩ := HZ5.out.facts
    obtain ⟨⟨t1, t2, t3⟩, _⟩ := HX5.out.facts
    generalize w4.heap.size = g4 at HX5 t1 t2 t3 ⊢
    have hent1 : ∀ args w, (callFunc 12 args).run Try.prog w = .ok (.enter 12 args) w := enters_of Try.func12 (by kernel_rfl) rfl
    have hent2 : ∀ args w, (callFunc 14 args).run Try.prog w = .ok (.enter 14 args) w := enters_of Try.func14 (by kernel_rfl) rfl
    have hdr := hid ((Below.refl w5.heap.size w5).drew)
    cases t
    all_goals
      go_wp2_with fail
      go_region_law (first | (refine step_callE rfl 12 (.tmp 40) 26 rfl hent1 _ rfl _ (toP HS.out (HQ5.out.below hdr.out)) ?_; intro v7 w7 hpb7; have hp7 := hpb7.1; have hb7 := hdr.out.trans hpb7.2; have HP57 := HP5.out.below hb7; have HX7 := hid (HX5.out.keep hb7); obtain ⟨⟨s1, s2, s3⟩, _⟩ := HX7.out.facts) | (refine step_call2 rfl 14 (.tmp 39) (.tmp 41) 29 rfl hent2 _ _ (.bool true) rfl rfl _ (eqP HS.out HP57 hp7) ?_; intro w8 hb8))
      all_goals
        have HB8 := hid ((HB5.out.trans (hb7.mono HB5.out.size)).trans (hb8.mono (HB5.out.trans (hb7.mono HB5.out.size)).size))
        clear hb8 hb7
        go_wp2
        go_ret
        exact ⟨rfl, HB8.out⟩
end Go.Proofs.Ytgjfpclpnobggaa
