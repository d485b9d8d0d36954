/- The law FnScaleOne. -/
import Derived.Test.YtgjfpclpnobggaaMh
import Derived.Test.YtgjfpclpnobggaaMi
namespace Go.Proofs.Ytgjfpclpnobggaa
open Go.Shelf Go.RowKit

theorem one_same {ws : List Nat} {an : List Int} {ss S : List (List Nat)} (h : PolOk ws an ss) (g : Scaled 1065353216 ss S) : ∀ i (h : i < ss.length) (h' : i < S.length) j (g : j < ss[i].length) (g' : j < S[i].length), SameD ss[i][j] S[i][j] := fun i h1 h2 j g1 g2 => by
  have e := (g.2.2 i j).1 (.inl h1) (by rw [getD_of (List.getElem?_eq_getElem h1)]; exact g1)
  rw [at2_get h2 g2, at2_get h1 g1] at e
  obtain ⟨b1, b2, b3⟩ := (h.boat i h1 j g1).val
  exact times_one b1 (by grind) (by grind) e
theorem boat_same {x y : Nat} (h : SameD x y) (hb : BoatOk x) : BoatOk y := by
  have e : ∀ c, FloatKind.f32.format.order y c = FloatKind.f32.format.order x c := fun c => by
    have hd : FloatKind.f32.format.read x = FloatKind.f32.format.read y := h.2
    unfold Ieee.Format.order
    rw [hd]
  unfold BoatOk
  rw [e 0, e 1112014848]
  exact hb
theorem one_ok {ws : List Nat} {an : List Int} {ss S : List (List Nat)} (h : PolOk ws an ss) (g : Scaled 1065353216 ss S) : PolOk ws an S where
  w1 := h.w1
  w12 := h.w12
  a2 := h.a2
  a24 := h.a24
  sl := g.1.trans h.sl
  wind := h.wind
  incr := h.incr
  row := fun j hj => by
    have h1 : j < ss.length := by have := g.1; omega
    rw [row_len g hj h1]; exact h.row j h1
  boat := fun j hj k hk => by
    have h1 : j < ss.length := by have := g.1; omega
    have h2 : k < ss[j].length := by rw [← row_len g hj h1]; exact hk
    exact boat_same (one_same h g j h1 hj k h2 hk) (h.boat j h1 k h2)
  ang := h.ang
  first := h.first
  last := h.last

set_option maxHeartbeats 4000000 in
set_option maxRecDepth 100000 in
theorem lawScaleOne (A : Option Addr) (n c : Nat) (w : World) (hr : RdB w A n) :
    Calls Try.prog 6 #[.slice A n c] w fun e w' => e = .returned (.bool true) ∧ Below w.heap.size w w' := by
  have hn := hr.1
  by_cases hbig : n > 1048576
  · clear hr
    go_enter Try.func6, Try.ntmps6
    go_wp2
    go_ret
    exact ⟨rfl, Below.refl _ _⟩
  · go_enter Try.func6, Try.ntmps6
    go_wp2_with (go_at_call 15; go_in)
    refine (dScale _ hr (Below.refl _ _)).mono ?_
    clear hr
    rintro e w1 ⟨v, k, rfl, ws, an, ss, hp, hS, hB⟩
    obtain ⟨A1, c1, A2, c2, A3, c3, rfl⟩ := hp.shape
    have hb0 := (Below.refl w1.heap.size w1).alloc (Nat.le_refl _) (.cells #[.slice A1 ws.length c1, .slice A2 an.length c2, .slice A3 ss.length c3] 29)
    have hT : Tri _ _ _ _ _ := heap_alloc_new w1 (.cells #[.slice A1 ws.length c1, .slice A2 an.length c2, .slice A3 ss.length c3] 29)
    have HT := hid hT
    have HB := hid (hB.trans (hb0.mono hB.size))
    have HP := hid (hp.below hb0)
    have HS := hid hS
    clear hB hb0 hT hp hS
    obtain ⟨⟨x1, x2, x3⟩, y1, y2, y3⟩ := HT.out.facts
    go_wp2_with fail
    generalize w1.alloc (.cells #[.slice A1 ws.length c1, .slice A2 an.length c2, .slice A3 ss.length c3] 29) = w2 at HT HB HP x1 x2 x3 y1 y2 y3 ⊢
    generalize w1.heap.size = gp at HT x1 x2 x3 y1 y2 y3 ⊢
    refine (iScale _ HS.out.2.2.2 HP.out).mono ?_
    rintro e w3 ⟨hans, hB3⟩
    have HT3 := hid (HT.out.keep hB3)
    have HP3 := hid (HP.out.below hB3)
    have HB3 := hid (HB.out.trans (hB3.mono HB.out.size))
    clear hB3 x1 x2 x3 y1 y2 y3
    rcases hans with ⟨S, hsc, hok, hok2, v1, v2, v3, R, rfl, hm⟩ | ⟨hno, rfl⟩
    · have hq := hm.rd
      obtain ⟨B1, d1, B2, d2, B3, d3, hv⟩ := hq.shape
      injection hv with hv
      injection hv with hv
      injection hv with e1 hv
      injection hv with e2 hv
      injection hv with e3 hv
      subst e1; subst e2; subst e3
      have hSl := hsc.1
      have hb0 := (Below.refl w3.heap.size w3).alloc (Nat.le_refl _) (.cells #[.slice B1 ws.length d1, .slice B2 an.length d2, .slice B3 S.length d3] 29)
      have hT : Tri _ _ _ _ _ := heap_alloc_new w3 (.cells #[.slice B1 ws.length d1, .slice B2 an.length d2, .slice B3 S.length d3] 29)
      have HQ := hid (hq.below hb0)
      have HT4 := hid (HT3.out.keep hb0)
      have HU4 := hid hT
      have HP4 := hid (HP3.out.below hb0)
      have HB4 := hid (HB3.out.trans (hb0.mono HB3.out.size))
      have HOK := hid hok
      have HSC := hid hsc
      clear hb0 hT hq hm hok hsc hSl hok2
      obtain ⟨⟨x1, x2, x3⟩, _⟩ := HT4.out.facts
      obtain ⟨⟨y1, y2, y3⟩, _⟩ := HU4.out.facts
      go_wp2_with fail
      have l1 := HOK.out.w12
      have l2 := HOK.out.a24
      have l3 := HOK.out.sl
      refine (samePolarC (by omega) (by omega) (by omega) HSC.out.1 (fun j h h' => ⟨row_len HSC.out h' h, by rw [HOK.out.row j h]; omega⟩) (fun j h => (HOK.out.wind j h).val.1) (one_same HOK.out HSC.out) HP4.out HQ.out).mono ?_
      rintro e w5 ⟨rfl, hb5⟩
      have HB5 := hid (HB4.out.trans (hb5.mono HB4.out.size))
      clear hb5 l3
      go_wp2
      go_ret
      exact ⟨rfl, HB5.out⟩
    · have HNo := hid (show ¬ PolOk ws an ss from fun h => by
        rcases hno with hno | ⟨S, hsc, hno⟩
        · exact hno h
        · exact hno (one_ok h hsc))
      clear hno
      have hb0 := (Below.refl w3.heap.size w3).alloc (Nat.le_refl _) (.cells #[.slice none 0 0, .slice none 0 0, .slice none 0 0] 29)
      have hT : Tri _ _ _ _ _ := heap_alloc_new w3 (.cells #[.slice none 0 0, .slice none 0 0, .slice none 0 0] 29)
      have HT4 := hid (HT3.out.keep hb0)
      have HU4 := hid hT
      have HP4 := hid (HP3.out.below hb0)
      have HB4 := hid (HB3.out.trans (hb0.mono HB3.out.size))
      clear hb0 hT
      obtain ⟨⟨x1, x2, x3⟩, _⟩ := HT4.out.facts
      unfold zeroP
      go_wp2_with fail
      refine (sPolarOk HP4.out).mono ?_
      rintro e w5 ⟨⟨b, rfl, hb⟩, hB5⟩
      obtain rfl : b = false := by
        cases b
        · rfl
        · exact absurd (hb.1 rfl) HNo.out
      have HU5 := hid (HU4.out.keep hB5)
      have HB5 := hid (HB4.out.trans (hB5.mono HB4.out.size))
      clear hb hB5 x1 x2 x3
      obtain ⟨⟨y1, y2, y3⟩, _⟩ := HU5.out.facts
      go_wp2
      go_ret
      exact ⟨rfl, HB5.out⟩
end Go.Proofs.Ytgjfpclpnobggaa
