/- The law FnExactPolarOk. -/
import Derived.Test.YtgjfpclpnobggaaPz
namespace Go.Proofs.Ytgjfpclpnobggaa
open Go.Shelf Go.RowKit

theorem RdP.shape {w : World} {v : Value} {ws : List Nat} {an : List Int} {ss : List (List Nat)} (h : RdP w v ws an ss) : ∃ A1 c1 A2 c2 A3 c3, v = .agg #[.slice A1 ws.length c1, .slice A2 an.length c2, .slice A3 ss.length c3] := by
  obtain ⟨a, b, c, rfl, h1, h2, h3⟩ := h
  obtain ⟨_, A1, c1, rfl, _⟩ := h1
  obtain ⟨_, A2, c2, rfl, _⟩ := h2
  obtain ⟨_, A3, c3, rfl, _⟩ := h3
  exact ⟨A1, c1, A2, c2, A3, c3, rfl⟩
theorem step_callE {P : Program} {ops : Array Oper} {o : Oper} {a : Act} {w : World} {K : Act → World → Prop} {Q : Exit → Act → World → Prop} {E : Prop}
    (hg : o.guard = none) (f : Nat) (x : Operand) (t : TypeId) (hop : o.op = Op.call { callee := Callee.value (Operand.func f), args := #[x], argTypes := #[t] })
    (hent : ∀ args w, (callFunc f args).run P w = .ok (.enter f args) w) (u : Value) (hx : a.eval x = u) (R : Value → World → Prop)
    (hc : Calls P f #[u] w fun e w' => ∃ v, e = .returned v ∧ R v w') (hK : ∀ v w', R v w' → K (a.put o.dst v) w') :
    if Region.wanted o (yielded ops a.tmps) = true then Oper.wp P o a w K Q else E := by
  have hw : Region.wanted o (yielded ops a.tmps) = true := by simp [Region.wanted, hg]
  rw [if_pos hw]
  have hrun : (execOp a.eval o).run P w = .ok (.enter f #[a.eval x]) w := by simp [go_sem, execOp, hop, resolve, invoke, hent, Deferred.ofValue]
  unfold Oper.wp
  rw [hrun, hx]
  refine hc.mono ?_
  rintro e w' ⟨v, rfl, hr⟩
  exact hK _ _ hr
theorem bool_same {p : Prop} {a b : Bool} (h : a = true ↔ p) (g : b = true ↔ p) : a = b := by
  cases a <;> cases b <;> simp_all

set_option maxHeartbeats 2000000 in
set_option maxRecDepth 100000 in
theorem lawPolarOk (w : World) {v : Value} {ws : List Nat} {an : List Int} {ss : List (List Nat)} (h : RdP w v ws an ss) :
    Calls Try.prog 3 #[v] w fun e w' => e = .returned (.bool true) ∧ Below w.heap.size w w' := by
  have h0 := h
  have H0 := hid h
  obtain ⟨a, b, c, rfl, h1, h2, h3⟩ := h0
  clear h1 h2 h3 h
  have hb0 := (Below.refl w.heap.size w).alloc (Nat.le_refl _) (.cells #[a, b, c] 26)
  have hz0 : Arg3 _ _ _ _ _ := heap_alloc_new w (.cells #[a, b, c] 26)
  go_enter Try.func3, Try.ntmps3
  go_wp2_with fail
  have H0w := hid (H0.out.below hb0)
  refine (szP H0w.out).mono ?_
  rintro e w1 ⟨r, rfl, hr, hb1⟩
  have HZ1 := hid (hz0.keep hb1)
  have HB1 := hid (hb0.trans (hb1.mono hb0.size))
  have HR := hid hr
  have HP1 := hid (H0w.out.below hb1)
  obtain ⟨o1, o2, o3⟩ := HZ1.out.facts
  clear hb0 hz0 hb1 hr
  by_cases hr0 : r < 0
  · go_wp2
    go_ret
    exact ⟨rfl, HB1.out⟩
  · have hS : Small ws an ss := by
      rcases HR.out with h | h
      · exact absurd h hr0
      · exact h
    have HS := hid hS
    clear hS
    go_wp2_with fail
    refine (toP HS.out HP1.out).mono ?_
    rintro e w2 ⟨v2, rfl, hp2, hb2⟩
    have hv2 := hp2
    obtain ⟨a2, b2, d2, rfl, _⟩ := hv2
    have HP2 := hid hp2
    have HZ2 := hid (HZ1.out.keep hb2)
    have HB2 := hid (HB1.out.trans (hb2.mono HB1.out.size))
    have HQ2 := hid (HP1.out.below hb2)
    clear o1 o2 o3 hp2 hb2
    obtain ⟨o1, o2, o3⟩ := HZ2.out.facts
    go_wp2_with fail
    refine (sPolarOk HP2.out).mono ?_
    rintro e w3 ⟨⟨bs, rfl, hbs⟩, hb3⟩
    have HBs := hid hbs
    have HZ3 := hid (HZ2.out.keep hb3)
    have HB3 := hid (HB2.out.trans (hb3.mono HB2.out.size))
    have HQ3 := hid (HQ2.out.below hb3)
    clear o1 o2 o3 hbs hb3
    obtain ⟨o1, o2, o3⟩ := HZ3.out.facts
    go_wp2_with fail
    refine (toP HS.out HQ3.out).mono ?_
    rintro e w4 ⟨v4, rfl, hp4, hb4⟩
    have hv4 := hp4
    obtain ⟨A1, c1, A2, c2, A3, c3, rfl⟩ := hv4.shape
    have HP4 := hid hp4
    have HZ4 := hid (HZ3.out.keep hb4)
    have HB4 := hid (HB3.out.trans (hb4.mono HB3.out.size))
    have HQ4 := hid (HQ3.out.below hb4)
    clear o1 o2 o3 hp4 hb4
    obtain ⟨o1, o2, o3⟩ := HZ4.out.facts
    go_wp2_with fail
    have hbn := (Below.refl w4.heap.size w4).alloc (Nat.le_refl _) (.cells #[.slice A1 ws.length c1, .slice A2 an.length c2, .slice A3 ss.length c3] 29)
    have hxn : Tri _ _ _ _ _ := heap_alloc_new w4 (.cells #[.slice A1 ws.length c1, .slice A2 an.length c2, .slice A3 ss.length c3] 29)
    have HP4n := hid (HP4.out.below hbn)
    refine (iPolarOk HS.out.2.2.2 HP4n.out).mono ?_
    rintro e w5 ⟨⟨bi, rfl, hbi⟩, hb5⟩
    obtain rfl := bool_same HBs.out hbi
    have HX5 := hid (hxn.keep hb5)
    have HZ5 := hid ((HZ4.out.keep hbn).keep hb5)
    have HB5 := hid ((HB4.out.trans (hbn.mono HB4.out.size)).trans (hb5.mono (HB4.out.trans (hbn.mono HB4.out.size)).size))
    have HP5 := hid (HP4n.out.below hb5)
    have HQ5 := hid ((HQ4.out.below hbn).below hb5)
    clear o1 o2 o3 hbi hb5 hbn hxn
    obtain ⟨o1, o2, o3⟩ := HZ5.out.facts
    obtain ⟨⟨t1, t2, t3⟩, _⟩ := HX5.out.facts
    generalize w4.heap.size = g4 at HX5 t1 t2 t3 ⊢
    go_wp2_with fail
    have hent1 : ∀ args w, (callFunc 12 args).run Try.prog w = .ok (.enter 12 args) w := enters_of Try.func12 (by kernel_rfl) rfl
    have hent2 : ∀ args w, (callFunc 14 args).run Try.prog w = .ok (.enter 14 args) w := enters_of Try.func14 (by kernel_rfl) rfl
    have hdr := hid ((Below.refl w5.heap.size w5).drew)
    go_region_law (first | (refine step_callE rfl 12 (.tmp 23) 26 rfl hent1 _ rfl _ (toP HS.out (HQ5.out.below hdr.out)) ?_; intro v6 w6 hpb6; have hp6 := hpb6.1; have hb6 := hdr.out.trans hpb6.2; have HP56 := HP5.out.below hb6; have HX6 := hid (HX5.out.keep hb6); obtain ⟨⟨s1, s2, s3⟩, _⟩ := HX6.out.facts) | (refine step_call2 rfl 14 (.tmp 22) (.tmp 24) 29 rfl hent2 _ _ (.bool true) rfl rfl _ (eqP HS.out HP56 hp6) ?_; intro w7 hb7))
    all_goals
      have HB7 := hid ((HB5.out.trans (hb6.mono HB5.out.size)).trans (hb7.mono (HB5.out.trans (hb6.mono HB5.out.size)).size))
      clear hb7 hb6
      go_wp2
      go_ret
      exact ⟨rfl, HB7.out⟩
end Go.Proofs.Ytgjfpclpnobggaa
