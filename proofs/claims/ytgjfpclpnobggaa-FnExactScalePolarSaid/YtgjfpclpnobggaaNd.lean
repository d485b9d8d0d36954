/- The whole copy of a law's polar, owned. -/
import Derived.Test.YtgjfpclpnobggaaNc
namespace Go.Proofs.Ytgjfpclpnobggaa
open Go.Shelf Go.RowKit

theorem own_tri {w : World} {B q i n : Nat} {e : TypeId} {v x y z u : Value} {xs : List Value} (h : w.ownsRow B e 1 v n xs) (ht : Tri w q x y z) (he : e ≠ 29) : (w.setCell ⟨q, i, none⟩ u).ownsRow B e 1 v n xs := h.kept (grown_set w q i u) (.inr (tri_ne_own ht h he))

set_option maxHeartbeats 1000000 in
set_option maxRecDepth 100000 in
theorem toPo {w : World} {v : Value} {ws : List Nat} {an : List Int} {ss : List (List Nat)} (hS : Small ws an ss) (h : RdP w v ws an ss) :
    Calls Try.prog 12 #[v] w fun e w' => ∃ v1 v2 v3 R, e = .returned (.agg #[v1, v2, v3]) ∧ MP w.heap.size w' v1 v2 v3 ws an R ss ∧ Below w.heap.size w w' := by
  obtain ⟨a, b, c, rfl, h1, h2, h3⟩ := h
  obtain ⟨s1, s2, s3, s4⟩ := hS
  have HN := hid s4
  have H1 := hid h1
  have H2 := hid h2
  have H3 := hid h3
  clear h1 h2 h3 s4
  go_enter Try.func12, Try.ntmps12
  go_wp2_with fail
  have hb0 := below3 w (.cells #[a, b, c] 26) (.cells #[.slice none 0 0, .slice none 0 0, .slice none 0 0] 29) (.cells #[.slice none 0 0, .slice none 0 0, .slice none 0 0] 29)
  have hy : Tri _ _ _ _ _ := blk3 w (.cells #[a, b, c] 26) (.cells #[.slice none 0 0, .slice none 0 0, .slice none 0 0] 29) (.cells #[.slice none 0 0, .slice none 0 0, .slice none 0 0] 29)
  have hx : Tri _ _ _ _ _ := blk2 w (.cells #[a, b, c] 26) (.cells #[.slice none 0 0, .slice none 0 0, .slice none 0 0] 29) (.cells #[.slice none 0 0, .slice none 0 0, .slice none 0 0] 29)
  have hz : Arg3 _ _ _ _ _ := blk1 w (.cells #[a, b, c] 26) (.cells #[.slice none 0 0, .slice none 0 0, .slice none 0 0] 29) (.cells #[.slice none 0 0, .slice none 0 0, .slice none 0 0] 29)
  refine (toFo s1 (H1.out.below hb0)).mono ?_
  rintro e w1 ⟨v1, rfl, ho1, hb1⟩
  obtain ⟨A1, c1, rfl⟩ := own_shape ho1
  have hy1 := hid (hy.keep hb1)
  have hz1 := hid (hz.keep hb1)
  have hx1 := hid (hx.keep hb1)
  have HB1 := hid (hb0.trans (hb1.mono hb0.size))
  have O1 := hid (own_base ho1 hb0.size)
  obtain ⟨⟨p1, p2, p3⟩, q1, q2, q3⟩ := hy1.out.facts
  obtain ⟨o1, o2, o3⟩ := hz1.out.facts
  have hg1 := lt_of_block hy1.out
  have hne1 : w.heap.size ≠ w.heap.size + 1 + 1 := by omega
  have hge1 : w.heap.size ≤ w.heap.size + 1 + 1 := by omega
  have hnh : w.heap.size + 1 ≠ w.heap.size + 1 + 1 := by omega
  have hgeh : w.heap.size ≤ w.heap.size + 1 := by omega
  clear hb1 hy hz hx hb0 ho1
  generalize w.heap.size + 1 + 1 = g at hy1 hg1 hne1 hge1 hnh p1 p2 p3 q1 q2 q3 ⊢
  generalize w.heap.size + 1 = h at hx1 hnh hgeh ⊢
  go_wp2_with fail
  have hy := hy1.out.set0 (x' := .slice A1 ws.length c1)
  have hx := hx1.out.setO (i := 0) (u := .slice A1 ws.length c1) hnh
  have hz := hz1.out.set (i := 0) (u := .slice A1 ws.length c1) hne1
  have hb0 : Below w.heap.size w _ := HB1.out.setCell (p := ⟨g, 0, none⟩) hge1 (.slice A1 ws.length c1)
  have ho1 := own_tri (i := 0) (u := .slice A1 ws.length c1) O1.out hy1.out (by decide)
  refine (toIo s2 (H2.out.below hb0)).mono ?_
  rintro e w2 ⟨v2, rfl, ho2, hb2⟩
  obtain ⟨A2, c2, rfl⟩ := own_shape ho2
  have hy2 := hid (hy.keep hb2)
  have hz2 := hid (hz.keep hb2)
  have hx2 := hid (hx.keep hb2)
  have HB2 := hid (hb0.trans (hb2.mono hb0.size))
  have O12 := hid (own_rd ho1 hb2)
  have O2 := hid (own_base ho2 hb0.size)
  clear p1 p2 p3 q1 q2 q3 o1 o2 o3
  obtain ⟨⟨p1, p2, p3⟩, q1, q2, q3⟩ := hy2.out.facts
  obtain ⟨o1, o2, o3⟩ := hz2.out.facts
  clear hy hz hx hb0 ho1 hb2 ho2
  go_wp2_with fail
  have hy := hy2.out.set1 (y' := .slice A2 an.length c2)
  have hx := hx2.out.setO (i := 1) (u := .slice A2 an.length c2) hnh
  have hz := hz2.out.set (i := 1) (u := .slice A2 an.length c2) hne1
  have hb0 : Below w.heap.size w _ := HB2.out.setCell (p := ⟨g, 1, none⟩) hge1 (.slice A2 an.length c2)
  have ho1 := own_tri (i := 1) (u := .slice A2 an.length c2) O12.out hy2.out (by decide)
  have ho2 := own_tri (i := 1) (u := .slice A2 an.length c2) O2.out hy2.out (by decide)
  refine (toGo s3 HN.out (H3.out.below hb0)).mono ?_
  rintro e w3 ⟨v3, R, rfl, ho3, hrl, hro, har, hb3⟩
  obtain ⟨A3, c3, rfl⟩ := own_shape ho3
  have hgl := lt_of_block hy
  have hhl := lt_of_block hx
  have hx3 := hid (hx.keep hb3)
  have hy3 := hid (hy.keep hb3)
  have HB3 := hid (hb0.trans (hb3.mono hb0.size))
  have hm : MP w.heap.size w3 (.slice A1 ws.length c1) (.slice A2 an.length c2) (.slice A3 R.length c3) ws an R ss := by
    refine ⟨own_rd ho1 hb3, own_rd ho2 hb3, own_base ho3 hb0.size, hrl, fun j r s hr hs => own_base (hro j r s hr hs) hb0.size, fun r hr => ?_, har⟩
    obtain ⟨j, hj, rfl⟩ := List.getElem_of_mem hr
    exact (own_apart ho1 (hro j _ _ (List.getElem?_eq_getElem hj) (List.getElem?_eq_getElem (show j < ss.length by omega)))).2
  have HM := hid hm
  clear p1 p2 p3 q1 q2 q3 o1 o2 o3
  obtain ⟨⟨p1, p2, p3⟩, q1, q2, q3⟩ := hy3.out.facts
  obtain ⟨⟨s1, s2, s3⟩, t1, t2, t3⟩ := hx3.out.facts
  clear hy hz hx hb0 ho1 ho2 hb3 ho3 hro har hm hrl
  go_wp2
  have ta := hx3.out.setO (i := 2) (u := .slice A3 R.length c3) hnh
  have tb := ta.set0 (x' := .slice A1 ws.length c1)
  have tc := tb.set1 (y' := .slice A2 an.length c2)
  have td := tc.set2 (z' := .slice A3 R.length c3)
  obtain ⟨⟨e1, e2, e3⟩, _⟩ := td.facts
  (try simp only [Exit.inBlock, Exit.then])
  refine bodyPost_ret_by (v := .agg #[.slice A1 ws.length c1, .slice A2 an.length c2, .slice A3 R.length c3]) ?_ rfl ?_
  · simp [go_sem, results, loadVar, e1, e2, e3]
    done
  refine ⟨_, _, _, R, rfl, (((HM.out.tri hy3.out).tri ta).tri tb).tri tc, ?_⟩
  exact (((HB3.out.setCell (p := ⟨g, 2, none⟩) hge1 _).setCell (p := ⟨h, 0, none⟩) hgeh _).setCell (p := ⟨h, 1, none⟩) hgeh _).setCell (p := ⟨h, 2, none⟩) hgeh _
end Go.Proofs.Ytgjfpclpnobggaa
