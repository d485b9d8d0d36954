/- Polars that are the same; the draw of a polar with a factor. -/
import Derived.Test.YtgjfpclpnobggaaMg
namespace Go.Proofs.Ytgjfpclpnobggaa
open Go.Shelf Go.RowKit

set_option maxHeartbeats 2000000 in
set_option maxRecDepth 100000 in
theorem samePolarC {w : World} {v v' : Value} {ws : List Nat} {an : List Int} {ss S : List (List Nat)} (hw : ws.length ≤ 1000) (ha : an.length ≤ 1000) (hs : ss.length ≤ 1000) (hS : S.length = ss.length) (hrl : ∀ j (h : j < ss.length) (h' : j < S.length), S[j].length = ss[j].length ∧ ss[j].length ≤ 1000)
    (hwf : ∀ j (h : j < ws.length), Fnt .f32 ws[j]) (hsd : ∀ i (h : i < ss.length) (h' : i < S.length) j (g : j < ss[i].length) (g' : j < S[i].length), SameD ss[i][j] S[i][j]) (h : RdP w v ws an ss) (h' : RdP w v' ws an S) :
    Calls Try.prog 22 #[v, v'] w fun e w' => e = .returned (.bool true) ∧ Below w.heap.size w w' := by
  have H := hid h
  have H' := hid h'
  obtain ⟨A1, c1, A2, c2, A3, c3, rfl⟩ := h.shape
  obtain ⟨B1, d1, B2, d2, B3, d3, rfl⟩ := h'.shape
  rw [hS] at H' ⊢
  have HL := hid hS
  have HRL := hid hrl
  have HSD := hid hsd
  have HWF := hid (show ∀ j (h : j < ws.length) (h' : j < ws.length), SameD ws[j] ws[j] from fun j h _ => SameD.refl (hwf j h))
  clear h h' hS hrl hsd hwf
  have hb0 := below2 w (.cells #[.slice A1 ws.length c1, .slice A2 an.length c2, .slice A3 ss.length c3] 29) (.cells #[.slice B1 ws.length d1, .slice B2 an.length d2, .slice B3 ss.length d3] 29)
  have hx : Tri _ _ _ _ _ := blkA w (.cells #[.slice A1 ws.length c1, .slice A2 an.length c2, .slice A3 ss.length c3] 29) (.cells #[.slice B1 ws.length d1, .slice B2 an.length d2, .slice B3 ss.length d3] 29)
  have hy : Tri _ _ _ _ _ := blkB w (.cells #[.slice A1 ws.length c1, .slice A2 an.length c2, .slice A3 ss.length c3] 29) (.cells #[.slice B1 ws.length d1, .slice B2 an.length d2, .slice B3 ss.length d3] 29)
  have HX := hid hx
  have HY := hid hy
  have HB := hid hb0
  clear hb0 hx hy
  go_enter Try.func22, Try.ntmps22
  go_wp2_with fail
  generalize (w.alloc (.cells #[.slice A1 ws.length c1, .slice A2 an.length c2, .slice A3 ss.length c3] 29)).alloc (.cells #[.slice B1 ws.length d1, .slice B2 an.length d2, .slice B3 ss.length d3] 29) = w1 at HX HY HB ⊢
  generalize w.heap.size + 1 = g2 at HY ⊢
  obtain ⟨g1, hg1⟩ : ∃ g, w.heap.size = g := ⟨_, rfl⟩
  have HG := hid hg1
  rw [hg1] at HX ⊢
  clear hg1
  refine (singlesC hw rfl HWF.out (H.out.below HB.out).parts.1 (H'.out.below HB.out).parts.1).mono ?_
  rintro e w2 ⟨rfl, hb2⟩
  have HX2 := hid (HX.out.keep hb2)
  have HY2 := hid (HY.out.keep hb2)
  have HB2 := hid (HB.out.trans (hb2.mono HB.out.size))
  clear hb2 HX HY HB
  obtain ⟨⟨x1, x2, x3⟩, _⟩ := HX2.out.facts
  obtain ⟨⟨y1, y2, y3⟩, _⟩ := HY2.out.facts
  go_wp2_with fail
  refine (intsC ha (H.out.below HB2.out).parts.2.1 (H'.out.below HB2.out).parts.2.1).mono ?_
  rintro e w3 ⟨rfl, hb3⟩
  have HX3 := hid (HX2.out.keep hb3)
  have HY3 := hid (HY2.out.keep hb3)
  have HB3 := hid (HB2.out.trans (hb3.mono HB2.out.size))
  clear hb3 HX2 HY2 HB2 x1 x2 x3 y1 y2 y3
  obtain ⟨⟨x1, x2, x3⟩, _⟩ := HX3.out.facts
  obtain ⟨⟨y1, y2, y3⟩, _⟩ := HY3.out.facts
  go_wp2_with fail
  go_loopw [5] (fun iv wr => ∃ i : Nat, iv = .int .i64 i ∧ i ≤ ss.length ∧ Hid (Tri wr g1 (.slice A1 ws.length c1) (.slice A2 an.length c2) (.slice A3 ss.length c3)) ∧ Hid (Tri wr g2 (.slice B1 ws.length d1) (.slice B2 an.length d2) (.slice B3 ss.length d3)) ∧ Hid (Below w.heap.size w wr)) (fun iv _ => 2000 - (intOf iv).toNat)
  case atStart => exact ⟨0, rfl, by omega, HX3.out, HY3.out, HB3.out⟩
  case round =>
    obtain ⟨i, rfl, hi, HX, HY, HB⟩ := hrel
    clear x1 x2 x3 y1 y2 y3 HX3 HY3 HB3
    obtain ⟨⟨x1, x2, x3⟩, _⟩ := HX.out.facts
    obtain ⟨⟨y1, y2, y3⟩, _⟩ := HY.out.facts
    by_cases hlt : i < ss.length
    · have hlt' : i < S.length := by have := HL.out; omega
      have HPx := hid (H.out.below HB.out)
      have HPy := hid (H'.out.below HB.out)
      obtain ⟨ad1, u, rfl, q1, q2⟩ := HPx.out.cell3 hlt
      obtain ⟨ad2, u', rfl, q3, q4⟩ := HPy.out.cell3 hlt'
      have hsub := HRL.out i hlt hlt'
      have HSub := hid hsub
      have HSDi := hid (fun j g g' => HSD.out i hlt hlt' j g g')
      have hz2 := q2
      obtain ⟨_, A4, c4, rfl, _⟩ := hz2
      have hz4 := q4
      obtain ⟨_, B4, d4, rfl, _⟩ := hz4
      have Q2 := hid q2
      have Q4 := hid q4
      have g3 : (i : Int) < (ss.length : Int) := by omega
      clear q2 q4 hsub
      generalize hs1 : ss[i] = s at q1 Q2 HSub HSDi
      generalize hs2 : S[i] = t at q3 Q4 HSub HSDi
      clear hs1 hs2
      have L1 : ∀ m : Later wr.heap.size wr, m.val.cell? ⟨g1, 2, none⟩ = some (.slice (some ad1) ss.length c3) := fun m => (HX.out.keep m.below).facts.1.2.2
      have L2 : ∀ m : Later wr.heap.size wr, m.val.cell? ⟨g2, 2, none⟩ = some (.slice (some ad2) ss.length d3) := fun m => (HY.out.keep m.below).facts.1.2.2
      have L3 : ∀ m : Later wr.heap.size wr, m.val.cell? (ad1.add i) = some _ := fun m => (m.below.cell (World.block_lt_of_cell? wr _ q1)).trans q1
      have L4 : ∀ m : Later wr.heap.size wr, m.val.cell? (ad2.add i) = some _ := fun m => (m.below.cell (World.block_lt_of_cell? wr _ q3)).trans q3
      clear q1 q3 x1 x2 y1 y2
      go_wp2_with fail
      refine wp_region_later wr.heap.size (by kernel_rfl) (by kernel_rfl) ?_
      repeat (quiet_step ((rename_i m; exact (singlesC HSub.out.2 HSub.out.1 HSDi.out (Q2.out.below m.below) (Q4.out.below m.below)).mono fun e w' h => m.on h)))
      refine wpQuiet_nil ?_
      intro mq
      have HXq := hid (HX.out.keep mq.below)
      have HYq := hid (HY.out.keep mq.below)
      have HBq := hid (HB.out.trans (mq.below.mono HB.out.size))
      go_wp2
      go_roundw
      case rel => exact ⟨i + 1, by go_num, by omega, HXq.out, HYq.out, HBq.out⟩
      case measure => (simp [intOf]; try omega)
    · obtain rfl : i = ss.length := by omega
      go_wp2
      go_ret
      exact ⟨rfl, HB.out⟩
end Go.Proofs.Ytgjfpclpnobggaa
