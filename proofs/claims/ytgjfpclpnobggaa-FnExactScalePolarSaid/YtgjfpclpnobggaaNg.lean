/- The law FnExactScalePolar. -/
import Derived.Test.YtgjfpclpnobggaaNf
import Derived.Deep.CutBlock
import Derived.Deep.DeepCutAuto
namespace Go.Proofs.Ytgjfpclpnobggaa
open Go.Shelf Go.RowKit

/-- what a scaled polar holds, and whether there is one -/
def Ans (ws : List Nat) (an : List Int) (ss : List (List Nat)) (k : Nat) (F : List Nat) (Z : List Int) (S : List (List Nat)) (b : Bool) : Prop :=
  (b = true ∧ F = ws ∧ Z = an ∧ Scaled k ss S ∧ PolOk ws an ss ∧ PolOk ws an S) ∨ (b = false ∧ F = [] ∧ Z = [] ∧ S = [] ∧ (¬ PolOk ws an ss ∨ ∃ T, Scaled k ss T ∧ ¬ PolOk ws an T))
theorem Ans.one {ws : List Nat} {an : List Int} {ss : List (List Nat)} {k : Nat} {F F' : List Nat} {Z Z' : List Int} {S S' : List (List Nat)} {b b' : Bool} (h : Ans ws an ss k F Z S b) (g : Ans ws an ss k F' Z' S' b') : F = F' ∧ Z = Z' ∧ S = S' ∧ b = b' := by
  rcases h with ⟨rfl, rfl, rfl, h1, h2, h3⟩ | ⟨rfl, rfl, rfl, rfl, h1⟩ <;> rcases g with ⟨rfl, rfl, rfl, g1, g2, g3⟩ | ⟨rfl, rfl, rfl, rfl, g1⟩
  · exact ⟨rfl, rfl, h1.one g1 h3, rfl⟩
  · rcases g1 with g1 | ⟨T, g1, g2⟩
    · exact absurd h2 g1
    · rw [← h1.one g1 h3] at g2; exact absurd h3 g2
  · rcases h1 with h1 | ⟨T, h1, h2⟩
    · exact absurd g2 h1
    · rw [← g1.one h1 g3] at h2; exact absurd g3 h2
  · exact ⟨rfl, rfl, rfl, rfl⟩
theorem Ans.small {ws : List Nat} {an : List Int} {ss : List (List Nat)} {k : Nat} {F : List Nat} {Z : List Int} {S : List (List Nat)} {b : Bool} (h : Ans ws an ss k F Z S b) : Small F Z S := by
  rcases h with ⟨rfl, rfl, rfl, h1, h2, h3⟩ | ⟨rfl, rfl, rfl, rfl, h1⟩
  · have := h3.w12; have := h3.a24; have := h3.sl
    refine ⟨by omega, by omega, by omega, fun r hr => ?_⟩
    obtain ⟨j, hj, rfl⟩ := List.getElem_of_mem hr
    rw [h3.row j hj]; omega
  · exact ⟨by decide, by decide, by decide, fun r hr => by cases hr⟩
theorem ScAns.all {w w' : World} {e : Ending} {ws : List Nat} {an : List Int} {ss : List (List Nat)} {k : Nat} (h : ScAns w w' e ws an ss k) : ∃ A1 c1 A2 c2 A3 c3 R F Z S b, e = .returned (.tuple #[.agg #[.slice A1 F.length c1, .slice A2 Z.length c2, .slice A3 R.length c3], .bool b]) ∧ MP w.heap.size w' (.slice A1 F.length c1) (.slice A2 Z.length c2) (.slice A3 R.length c3) F Z R S ∧ Ans ws an ss k F Z S b ∧ Below w.heap.size w w' := by
  obtain ⟨h, hb⟩ := h
  rcases h with ⟨S, h1, h2, h3, v1, v2, v3, R, rfl, hm⟩ | ⟨h1, rfl⟩
  · obtain ⟨A1, c1, rfl⟩ := own_shape hm.o1
    obtain ⟨A2, c2, rfl⟩ := own_shape hm.o2
    obtain ⟨A3, c3, rfl⟩ := own_shape hm.o3
    exact ⟨A1, c1, A2, c2, A3, c3, R, ws, an, S, true, rfl, hm, .inl ⟨rfl, rfl, rfl, h1, h2, h3⟩, hb⟩
  · exact ⟨none, 0, none, 0, none, 0, [], [], [], [], false, rfl, ⟨own_nil _ _ _ _ rfl, own_nil _ _ _ _ rfl, own_nil _ _ _ _ rfl, rfl, (fun j r s h => by simp at h), (fun r h => by cases h), (fun i j r r' h => by simp at h)⟩, .inr ⟨rfl, rfl, rfl, rfl, h1⟩, hb⟩
theorem MP.rdS {B : Nat} {w : World} {v1 v2 v3 : Value} {F : List Nat} {Z : List Int} {R : List Value} {S : List (List Nat)} (h : MP B w v1 v2 v3 F Z R S) : RdP w (.agg #[v1, v2, v3]) F Z S := h.rd

set_option maxHeartbeats 4000000 in
set_option maxRecDepth 100000 in
theorem lawScalePolar (k : Nat) (_ : k < 2 ^ FloatKind.f32.format.width) (w : World) {v : Value} {ws : List Nat} {an : List Int} {ss : List (List Nat)} (h : RdP w v ws an ss) :
    Calls Try.prog 7 #[v, .float .f32 k] w fun e w' => e = .returned (.bool true) ∧ Below w.heap.size w w' := by
  have h0 := h
  have H0 := hid h
  obtain ⟨a, b, c, rfl, h1, h2, h3⟩ := h0
  clear h1 h2 h3 h
  have hb0 := (Below.refl w.heap.size w).alloc (Nat.le_refl _) (.cells #[a, b, c] 26)
  have hz0 : Arg3 _ _ _ _ _ := heap_alloc_new w (.cells #[a, b, c] 26)
  go_enter Try.func7, Try.ntmps7
  go_wp2_with fail
  have H0w := hid (H0.out.below hb0)
  refine (szP H0w.out).mono ?_
  rintro e w1 ⟨n, rfl, hn, hb1⟩
  have HZ1 := hid (hz0.keep hb1)
  have HB1 := hid (hb0.trans (hb1.mono hb0.size))
  have HR := hid hn
  have HP1 := hid (H0w.out.below hb1)
  clear hb0 hz0 hb1 hn
  generalize w.heap.size = gz at HZ1 ⊢
  obtain ⟨o1, o2, o3⟩ := HZ1.out.facts
  by_cases hr0 : n < 0
  · go_wp2
    go_ret
    exact ⟨rfl, HB1.out⟩
  · have hS : Small ws an ss := by
      rcases HR.out with h | h
      · exact absurd h hr0
      · exact h
    have HS := hid hS
    clear hS
    go_wp2_with fail
    refine (toP HS.out HP1.out).mono ?_
    rintro e w2 ⟨v2, rfl, hp2, hb2⟩
    have HZ2 := hid (HZ1.out.keep hb2)
    have HB2 := hid (HB1.out.trans (hb2.mono HB1.out.size))
    have HQ2 := hid (HP1.out.below hb2)
    have HP2 := hid hp2
    clear hp2 hb2 o1 o2 o3
    obtain ⟨o1, o2, o3⟩ := HZ2.out.facts
    go_wp2_with fail
    refine (sScale k HP2.out).mono ?_
    intro e w3 hans
    obtain ⟨A1, c1, A2, c2, A3, c3, R, F, Z, S, ok, he, hm, hA, hb3⟩ := hans.all
    subst he
    have HAn := hid hA
    have HSm := hid hA.small
    have hk3 := (Below.refl w3.heap.size w3).alloc (Nat.le_refl _) (.cells #[.slice A1 F.length c1, .slice A2 Z.length c2, .slice A3 R.length c3] 29)
    have T6 := hid (Tri.born w3 (.slice A1 F.length c1) (.slice A2 Z.length c2) (.slice A3 R.length c3))
    have HP0 := hid (hm.rd.below hk3)
    have hb30 := hb3.trans (hk3.mono hb3.size)
    have HZ0 := hid (HZ2.out.keep hb30)
    have HBw := hid (HB2.out.trans (hb30.mono HB2.out.size))
    have HQ0 := hid (HQ2.out.below hb30)
    clear hans hA hm hb3 hk3 hb30 o1 o2 o3 HZ1 HZ2 HB1 HB2 HP1 HP2 HQ2 H0w
    obtain ⟨o1, o2, o3⟩ := HZ0.out.facts
    go_wp2_with fail
    generalize w3.alloc (.cells #[.slice A1 F.length c1, .slice A2 Z.length c2, .slice A3 R.length c3] 29) = W0 at T6 HP0 HZ0 HBw HQ0 o1 o2 o3 ⊢
    generalize w3.heap.size = g6 at T6 ⊢
    refine (toPo HS.out HQ0.out).mono ?_
    rintro e wX ⟨x1, x2, x3, Rx, rfl, hmX, hbX⟩
    obtain ⟨X1, d1, rfl⟩ := own_shape hmX.o1
    obtain ⟨X2, d2, rfl⟩ := own_shape hmX.o2
    obtain ⟨X3, d3, rfl⟩ := own_shape hmX.o3
    have HMX := hid hmX
    have HBX := hid hbX
    have hk := (Below.refl wX.heap.size wX).alloc (Nat.le_refl _) (.cells #[.slice X1 ws.length d1, .slice X2 an.length d2, .slice X3 Rx.length d3] 29)
    have T8 := hid (Tri.born wX (.slice X1 ws.length d1) (.slice X2 an.length d2) (.slice X3 Rx.length d3))
    have HKX := hid hk
    have HPX := hid (hmX.rd.below hk)
    clear hmX hbX hk o1 o2 o3
    obtain ⟨⟨y1, y2, y3⟩, _⟩ := T8.out.facts
    go_wp2_with fail
    generalize hY : wX.alloc (.cells #[.slice X1 ws.length d1, .slice X2 an.length d2, .slice X3 Rx.length d3] 29) = wY at T8 HKX HPX y1 y2 y3 ⊢
    clear hY
    have hg8 : wX.heap.size ≤ wX.heap.size := Nat.le_refl _
    obtain ⟨g8, hgx⟩ : ∃ g, wX.heap.size = g := ⟨_, rfl⟩
    have HG8 := hid hgx
    rw [hgx] at T8 y1 y2 y3 ⊢
    clear hgx hg8
    refine (iScale k HS.out.2.2.2 HPX.out).mono ?_
    intro e wG hans
    obtain ⟨E1, f1, E2, f2, E3, f3, Rq, F', Z', S', ok', he, hm, hA, hbG⟩ := hans.all
    obtain ⟨rfl, rfl, rfl, rfl⟩ := HAn.out.one hA
    subst he
    have hk := (Below.refl wG.heap.size wG).alloc (Nat.le_refl _) (.cells #[.slice E1 F.length f1, .slice E2 Z.length f2, .slice E3 Rq.length f3] 29)
    have T9 := hid (Tri.born wG (.slice E1 F.length f1) (.slice E2 Z.length f2) (.slice E3 Rq.length f3))
    have hbK := hbG.trans (hk.mono hbG.size)
    have HMQ := hid (hm.below hk)
    have HBX2 := hid (below_step HKX.out hbK)
    have HB0 := hid (below_step HBX.out HBX2.out)
    have T8' := hid (T8.out.keep hbK)
    have hYX := hid (HKX.out.size)
    have SZ4 := hid hbK.size
    clear hans hA hm hbG hk hbK T8 HPX y1 y2 y3
    have HMX1 := hid (HMX.out.below HBX2.out)
    have HLX := hid HMX.out.lt
    obtain ⟨⟨y1, y2, y3⟩, _⟩ := T8'.out.facts
    obtain ⟨⟨z1, z2, z3⟩, _⟩ := T9.out.facts
    obtain ⟨⟨r1, r2, r3⟩, _⟩ := (T6.out.keep HB0.out).facts
    obtain ⟨o1, o2, o3⟩ := (HZ0.out.keep HB0.out).facts
    go_wp2_with fail
    generalize wG.alloc (.cells #[.slice E1 F.length f1, .slice E2 Z.length f2, .slice E3 Rq.length f3] 29) = w4 at HMQ HBX2 HB0 T8' T9 HMX1 SZ4 y1 y2 y3 z1 z2 z3 r1 r2 r3 o1 o2 o3 ⊢
    generalize wG.heap.size = g9 at T9 z1 z2 z3 ⊢
    refine (eqP HSm.out HMQ.out.rd (HP0.out.below HB0.out)).mono ?_
    rintro e w5 ⟨rfl, hb5⟩
    have T85 := hid (T8'.out.keep hb5)
    have T95 := hid (T9.out.keep hb5)
    have HB5 := hid (below_step HB0.out hb5)
    have HMQ5 := hid (HMQ.out.below hb5)
    have HMX5 := hid (HMX1.out.below hb5)
    have SZ5 := hid (Nat.le_trans SZ4.out hb5.size)
    clear hb5 SZ4 T8' T9 HB0 HMQ HMX1 y1 y2 y3 z1 z2 z3 r1 r2 r3 o1 o2 o3 HBX2
    obtain ⟨⟨y1, y2, y3⟩, _⟩ := T85.out.facts
    obtain ⟨⟨z1, z2, z3⟩, _⟩ := T95.out.facts
    obtain ⟨⟨r1, r2, r3⟩, _⟩ := (T6.out.keep HB5.out).facts
    obtain ⟨o1, o2, o3⟩ := (HZ0.out.keep HB5.out).facts
    have hent1 : ∀ args w, (callFunc 12 args).run Try.prog w = .ok (.enter 12 args) w := enters_of Try.func12 (by kernel_rfl) rfl
    have hent2 : ∀ args w, (callFunc 14 args).run Try.prog w = .ok (.enter 14 args) w := enters_of Try.func14 (by kernel_rfl) rfl
    have hdr := hid ((Below.refl w5.heap.size w5).drew)
    go_upto_region 10 with fail
    go_cut [49] (fun bv wx => bv = .bool false ∧ Hid (Below w5.heap.size w5 wx))
    case first =>
      go_region_law (first | (refine step_callE rfl 12 (.tmp 46) 26 rfl hent1 _ rfl _ (toP HS.out ((HQ0.out.below HB5.out).below hdr.out)) ?_; intro v7 w7 hpb7; have hp7 := hpb7.1; have hb7 := hdr.out.trans hpb7.2; have HX7 := hid (T85.out.keep hb7); have HM7 := hid (HMX5.out.below hb7); obtain ⟨⟨s1, s2, s3⟩, _⟩ := HX7.out.facts) | (refine step_call2 rfl 14 (.tmp 45) (.tmp 47) 29 rfl hent2 _ _ (.bool true) rfl rfl _ (eqP HS.out HM7.out.rd hp7) ?_; intro w8 hb8))
      all_goals
        have HB8 := hid (below_step hb7 hb8)
        clear hb7 hb8
        go_wp2
        go_meet
        exact ⟨rfl, HB8.out⟩
    case rest =>
      obtain ⟨rfl, HBc⟩ := hcut
      have T8c := hid (T85.out.keep HBc.out)
      have T9c := hid (T95.out.keep HBc.out)
      have HBk := hid (below_step HB5.out HBc.out)
      have HMQc := hid (HMQ5.out.below HBc.out)
      have HMXc := hid (HMX5.out.below HBc.out)
      have SZc := hid (Nat.le_trans SZ5.out HBc.out.size)
      clear SZ5 T85 T95 HB5 HMQ5 HMX5 HBc y1 y2 y3 z1 z2 z3 r1 r2 r3 o1 o2 o3 hdr hent1 hent2
      obtain ⟨⟨y1, y2, y3⟩, _⟩ := T8c.out.facts
      go_wp2_with fail
      refine (markPC (hi := wX.heap.size) HBk.out.size HLX.out HS.out HMXc.out).mono ?_
      rintro e w7 ⟨rfl, _, hk7⟩
      have nK : decide (1 + (ws.length : Int) + (an.length : Int) + ((tot ss : Nat) : Int) < 0) = false := decide_eq_false (by omega)
      have T97 := hid (hk7.tri _ _ _ _ T9c.out)
      have HB7 := hid (HBk.out.trans hk7.bel)
      have HMQ7 := hid (HMQc.out.same (fun b h1 h2 => hk7.up b (Nat.le_trans hYX h1) h2))
      have SZ7 := hid (Nat.le_trans SZc.out hk7.bel.size)
      clear hk7 y1 y2 y3 T8c T9c HBk HMQc HMXc SZc
      obtain ⟨⟨z1, z2, z3⟩, _⟩ := T97.out.facts
      obtain ⟨⟨r1, r2, r3⟩, _⟩ := (T6.out.keep HB7.out).facts
      go_wp2_with fail
      refine (eqP HSm.out HMQ7.out.rd (HP0.out.below HB7.out)).mono ?_
      rintro e w8 ⟨rfl, hb8⟩
      have T98 := hid (T97.out.keep hb8)
      have HB8 := hid (below_step HB7.out hb8)
      have HMQ8 := hid (HMQ7.out.below hb8)
      have SZ8 := hid (Nat.le_trans SZ7.out hb8.size)
      clear SZ7 hb8 T97 HB7 HMQ7 z1 z2 z3 r1 r2 r3
      obtain ⟨⟨z1, z2, z3⟩, _⟩ := T98.out.facts
      go_wp2_with fail
      refine (markPC (hi := w8.heap.size) SZ8.out HMQ8.out.lt HSm.out HMQ8.out).mono ?_
      rintro e w9 ⟨rfl, hm9, hk9⟩
      have T99 := hid (hk9.tri _ _ _ _ T98.out)
      have HB9 := hid (HB8.out.trans (hk9.bel.mono (Nat.le_trans HBX.out.size hYX.out)))
      have HM9 := hid hm9
      have nL : decide (1 + (F.length : Int) + (Z.length : Int) + ((tot S : Nat) : Int) < 0) = false := decide_eq_false (by omega)
      clear hm9 hk9 z1 z2 z3 T98 HB8 HMQ8 SZ8
      obtain ⟨⟨z1, z2, z3⟩, _⟩ := T99.out.facts
      obtain ⟨m1, m2, m3, m4⟩ := HSm.out
      have HM4 := hid m4
      clear m4
      go_wp2_with fail
      refine (heldPC m1 m2 m3 HM4.out HM9.out.rd).mono ?_
      rintro e w10 ⟨rfl, hb10⟩
      have T910 := hid (T99.out.keep hb10)
      have HB10 := hid (below_step HB9.out hb10)
      have HM10 := hid (HM9.out.below hb10)
      clear hb10 z1 z2 z3 T99 HB9 HM9
      obtain ⟨o1, o2, o3⟩ := (HZ0.out.keep HB10.out).facts
      go_wp2_with fail
      refine (toP HS.out (HQ0.out.below HB10.out)).mono ?_
      rintro e w11 ⟨v11, rfl, hp11, hb11⟩
      have T911 := hid (T910.out.keep hb11)
      have HB11 := hid (below_step HB10.out hb11)
      have HM11 := hid (HM10.out.below hb11)
      have HP11 := hid hp11
      clear hp11 hb11 o1 o2 o3 T910 HB10 HM10
      go_wp2_with fail
      refine (iScale k HS.out.2.2.2 HP11.out).mono ?_
      intro e w12 hans
      obtain ⟨G1, h1, G2, h2, G3, h3, Rh, F', Z', S', ok', he, hm, hA, hb12⟩ := hans.all
      obtain ⟨rfl, rfl, rfl, rfl⟩ := HAn.out.one hA
      subst he
      have hk := (Below.refl w12.heap.size w12).alloc (Nat.le_refl _) (.cells #[.slice G1 F.length h1, .slice G2 Z.length h2, .slice G3 Rh.length h3] 29)
      have T14 := hid (Tri.born w12 (.slice G1 F.length h1) (.slice G2 Z.length h2) (.slice G3 Rh.length h3))
      have hbK := hb12.trans (hk.mono hb12.size)
      have HMH := hid (hm.below hk)
      have T913 := hid (T911.out.keep hbK)
      have HB13 := hid (below_step HB11.out hbK)
      have HM13 := hid (HM11.out.below hbK)
      clear hans hA hm hb12 hk hbK T911 HB11 HM11
      obtain ⟨⟨y1, y2, y3⟩, _⟩ := T14.out.facts
      obtain ⟨⟨r1, r2, r3⟩, _⟩ := (T6.out.keep HB13.out).facts
      go_wp2_with fail
      generalize w12.alloc (.cells #[.slice G1 F.length h1, .slice G2 Z.length h2, .slice G3 Rh.length h3] 29) = w13 at T14 HMH T913 HB13 HM13 y1 y2 y3 r1 r2 r3 ⊢
      refine (eqP HSm.out HMH.out.rd (HP0.out.below HB13.out)).mono ?_
      rintro e w14 ⟨rfl, hb14⟩
      have T914 := hid (T913.out.keep hb14)
      have HB14 := hid (below_step HB13.out hb14)
      have HM14 := hid (HM13.out.below hb14)
      clear hb14 y1 y2 y3 r1 r2 r3 T913 HB13 HM13
      obtain ⟨⟨z1, z2, z3⟩, _⟩ := T914.out.facts
      go_wp2_with fail
      refine (heldPC m1 m2 m3 HM4.out HM14.out.rd).mono ?_
      rintro e w15 ⟨rfl, hb15⟩
      have HB15 := hid (HBw.out.trans ((below_step HB14.out hb15).mono HBw.out.size))
      clear hb15
      go_wp2
      go_ret
      exact ⟨rfl, HB15.out⟩
end Go.Proofs.Ytgjfpclpnobggaa
