/- ScalePolar of the first side. -/
import Derived.Test.YtgjfpclpnobggaaMd
namespace Go.Proofs.Ytgjfpclpnobggaa
open Go.Shelf Go.RowKit

theorem CB.of {w0 w2 w3 : World} {ib rs : Nat} {a b c v1 v2 v3 : Value} {F : List Nat} {Z : List Int} {R : List Value} {S : List (List Nat)} (hm : MP w2.heap.size w3 v1 v2 v3 F Z R S) (h02 : Below w0.heap.size w0 w2) (hb : Below w2.heap.size w2 w3) (hi : Tri w2 ib a b c) (hr : Tri w2 rs (.slice none 0 0) (.slice none 0 0) (.slice none 0 0)) (i0 : w0.heap.size ≤ ib) (r0 : w0.heap.size ≤ rs) (nri : rs ≠ ib) :
    CB w0 (w3.alloc (.cells #[v1, v2, v3] 29)) ib w3.heap.size rs a b c v1 v2 v3 v1 v2 v3 F Z R S := by
  have h3 := h02.trans (hb.mono h02.size)
  have hk := (Below.refl w3.heap.size w3).alloc (Nat.le_refl _) (.cells #[v1, v2, v3] 29)
  have hi3 := hi.keep hb
  have hr3 := hr.keep hb
  have l1 := lt_of_block hi3
  have l2 := lt_of_block hr3
  have hm0 : MP w0.heap.size w3 v1 v2 v3 F Z R S := ⟨own_base hm.o1 h02.size, own_base hm.o2 h02.size, own_base hm.o3 h02.size, hm.rl, (fun j r s hr hs => own_base (hm.ro j r s hr hs) h02.size), hm.a1, hm.ar⟩
  exact ⟨h3.trans (hk.mono h3.size), hi3.keep hk, heap_alloc_new w3 _, hr3.keep hk, i0, h3.size, r0, by omega, by omega, nri, hm0.below hk⟩
def zeroP : Value := .agg #[.slice none 0 0, .slice none 0 0, .slice none 0 0]
/-- what ScalePolar answers -/
def ScAns (w w' : World) (e : Ending) (ws : List Nat) (an : List Int) (ss : List (List Nat)) (k : Nat) : Prop :=
  ((∃ S, Scaled k ss S ∧ PolOk ws an ss ∧ PolOk ws an S ∧ ∃ v1 v2 v3 R, e = .returned (.tuple #[.agg #[v1, v2, v3], .bool true]) ∧ MP w.heap.size w' v1 v2 v3 ws an R S) ∨
   ((¬ PolOk ws an ss ∨ ∃ S, Scaled k ss S ∧ ¬ PolOk ws an S) ∧ e = .returned (.tuple #[zeroP, .bool false]))) ∧ Below w.heap.size w w'
theorem CB.row {w0 w : World} {ib bp rs i : Nat} {a b c t1 t2 t3 v1 v2 v3 : Value} {F : List Nat} {Z : List Int} {R : List Value} {S : List (List Nat)} (h : CB w0 w ib bp rs a b c t1 t2 t3 v1 v2 v3 F Z R S) (hi : i < S.length) (hm : 0 < S[i].length) : ∃ br cr, R[i]? = some (.slice (some ⟨br, 0, none⟩) S[i].length cr) ∧ S[i].length ≤ cr := by
  have hR : i < R.length := by have := h.mp.rl; omega
  have ho := h.mp.ro i _ _ (List.getElem?_eq_getElem hR) (List.getElem?_eq_getElem hi)
  obtain ⟨A, cr, e⟩ := own_shape ho
  rw [e] at ho
  obtain ⟨⟨br, rfl⟩, hc⟩ := own_some ho hm
  exact ⟨br, cr, by rw [List.getElem?_eq_getElem hR, e], hc⟩
theorem CB.rowcell {w0 w : World} {ib bp rs i b3 c3 : Nat} {r a b c t1 t2 t3 v1 v2 : Value} {F : List Nat} {Z : List Int} {R : List Value} {S : List (List Nat)} (h : CB w0 w ib bp rs a b c t1 t2 t3 v1 v2 (.slice (some ⟨b3, 0, none⟩) R.length c3) F Z R S) (hr : R[i]? = some r) : w.cell? ⟨b3, i, none⟩ = some r := by
  obtain ⟨hi, _⟩ := List.getElem?_eq_some_iff.1 hr
  rw [h.mp.o3.cellAt i (by omega)]; exact hr
theorem CB.num {w0 w : World} {ib bp rs i j br cr : Nat} {a b c t1 t2 t3 v1 v2 v3 : Value} {F : List Nat} {Z : List Int} {R : List Value} {S : List (List Nat)} {s : List Nat} (h : CB w0 w ib bp rs a b c t1 t2 t3 v1 v2 v3 F Z R S) (hr : R[i]? = some (.slice (some ⟨br, 0, none⟩) s.length cr)) (hs : S[i]? = some s) (hj : j < s.length) : w.cell? ⟨br, j, none⟩ = some (.float .f32 s[j]) ∧ w.frozen? ⟨br, j, none⟩ = false := by
  have ho := h.mp.ro i _ _ hr hs
  obtain ⟨_, h1, h2, h3⟩ := own_set (u := .bool true) ho hj
  exact ⟨by rw [h1]; simp [fcells, List.getElem?_eq_getElem hj], h2⟩

set_option maxHeartbeats 4000000 in
set_option maxRecDepth 100000 in
theorem iScale {w : World} {v : Value} {ws : List Nat} {an : List Int} {ss : List (List Nat)} (k : Nat) (hS : ∀ r ∈ ss, r.length ≤ 1048576) (h : RdP w v ws an ss) :
    Calls Try.prog 21 #[v, .float .f32 k] w fun e w' => ScAns w w' e ws an ss k := by
  have H := hid h
  have HSm := hid hS
  obtain ⟨A1, c1, A2, c2, A3, c3, rfl⟩ := h.shape
  clear h hS
  have hsf := fun (a : Addr) (n : Nat) (w : World) => run_store Try.prog w a (.float .f32 n) .plain rfl
  have hb0 := below2 w (.cells #[.slice A1 ws.length c1, .slice A2 an.length c2, .slice A3 ss.length c3] 29) (.cells #[.slice none 0 0, .slice none 0 0, .slice none 0 0] 29)
  have hx : Tri _ _ _ _ _ := blkA w (.cells #[.slice A1 ws.length c1, .slice A2 an.length c2, .slice A3 ss.length c3] 29) (.cells #[.slice none 0 0, .slice none 0 0, .slice none 0 0] 29)
  have hy : Tri _ _ _ _ _ := blkB w (.cells #[.slice A1 ws.length c1, .slice A2 an.length c2, .slice A3 ss.length c3] 29) (.cells #[.slice none 0 0, .slice none 0 0, .slice none 0 0] 29)
  have HI := hid hx
  have HY := hid hy
  have HB := hid hb0
  have HP := hid (H.out.below hb0)
  clear hb0 hx hy
  go_enter Try.func21, Try.ntmps21
  go_wp2_with fail
  have g0 : w.heap.size ≤ w.heap.size := Nat.le_refl _
  have g1 : w.heap.size ≤ w.heap.size + 1 := by omega
  have g2 : w.heap.size + 1 ≠ w.heap.size := by omega
  generalize (w.alloc (.cells #[.slice A1 ws.length c1, .slice A2 an.length c2, .slice A3 ss.length c3] 29)).alloc (.cells #[.slice none 0 0, .slice none 0 0, .slice none 0 0] 29) = w1 at HI HY HB HP ⊢
  generalize hrs : w.heap.size + 1 = rs at HY g1 g2 ⊢
  clear hrs
  obtain ⟨ib, hgi⟩ : ∃ ib, w.heap.size = ib := ⟨_, rfl⟩
  have HG := hid hgi
  rw [hgi] at g0 g1 g2 HI ⊢
  clear hgi
  refine (iPolarOk HSm.out HP.out).mono ?_
  rintro e w2 ⟨⟨b, rfl, hb⟩, hB2⟩
  have HI2 := hid (HI.out.keep hB2)
  have HY2 := hid (HY.out.keep hB2)
  have HB2 := hid (HB.out.trans (hB2.mono HB.out.size))
  have HP2 := hid (HP.out.below hB2)
  have Hb := hid hb
  clear hb hB2 HI HY HB HP
  obtain ⟨⟨x1, x2, x3⟩, _⟩ := HI2.out.facts
  obtain ⟨⟨p1, p2, p3⟩, q1, q2, q3⟩ := HY2.out.facts
  cases b
  · have hno : ¬ PolOk ws an ss := fun h => by have := Hb.out.2 h; cases this
    have HNo := hid hno
    clear hno
    go_wp2
    obtain ⟨⟨e1, e2, e3⟩, _⟩ := (((HY2.out.set0 (x' := .slice none 0 0)).set1 (y' := .slice none 0 0)).set2 (z' := .slice none 0 0)).facts
    (try simp only [Exit.inBlock, Exit.then])
    refine bodyPost_ret_by (v := .tuple #[.agg #[.slice none 0 0, .slice none 0 0, .slice none 0 0], .bool false]) ?_ rfl ?_
    · simp [go_sem, results, loadVar, e1, e2, e3]
      done
    refine ⟨.inr ⟨.inl HNo.out, rfl⟩, ?_⟩
    have hr : w.heap.size ≤ rs := by have := HG.out; omega
    exact ((HB2.out.setCell (p := ⟨rs, 0, none⟩) hr _).setCell (p := ⟨rs, 1, none⟩) hr _).setCell (p := ⟨rs, 2, none⟩) hr _
  · have hP := Hb.out.1 rfl
    have l1 := hP.w1
    have l2 := hP.w12
    have l3 := hP.a2
    have l4 := hP.a24
    have L5 := hid hP.sl
    have PO := hid hP
    clear hP
    go_wp2_with fail
    refine (iCopy PO.out HP2.out).mono ?_
    rintro e w3 ⟨v1, v2, v3, R, rfl, hm, hB3⟩
    have i0 : w.heap.size ≤ ib := by have := HG.out; omega
    have r0 : w.heap.size ≤ rs := by have := HG.out; omega
    have HC := hid (CB.of (w0 := w) hm.out HB2.out hB3 HI2.out HY2.out i0 r0 g2)
    have hRl := hm.out.rl
    obtain ⟨B1, d1, rfl⟩ := own_shape hm.out.o1
    obtain ⟨B2, d2, rfl⟩ := own_shape hm.out.o2
    obtain ⟨B3, d3, rfl⟩ := own_shape hm.out.o3
    obtain ⟨⟨b3, rfl⟩, _⟩ := own_some hm.out.o3 (by have := L5.out; omega)
    have HRl := hid hRl
    clear hm hB3 hRl x1 x2 x3 p1 p2 p3 q1 q2 q3
    obtain ⟨⟨x1, x2, x3⟩, y1, y2, y3⟩ := HC.out.tri.facts
    go_wp2_with fail
    have hRn : R.length ≤ 12 := by have := HRl.out; have := L5.out; omega
    go_loopw [18] (fun iv wr => ∃ (i : Nat) (S : List (List Nat)), iv = .int .i64 i ∧ i ≤ R.length ∧ Hid (Part k ss S i 0) ∧ Hid (CB w wr ib w3.heap.size rs (.slice A1 ws.length c1) (.slice A2 an.length c2) (.slice A3 ss.length c3) (.slice B1 ws.length d1) (.slice B2 an.length d2) (.slice (some ⟨b3, 0, none⟩) R.length d3) (.slice B1 ws.length d1) (.slice B2 an.length d2) (.slice (some ⟨b3, 0, none⟩) R.length d3) ws an R S)) (fun iv _ => 100 - (intOf iv).toNat)
    case atStart => exact ⟨0, ss, rfl, by omega, Part.start k ss, HC.out⟩
    case round =>
      obtain ⟨i, S, rfl, hi, HPa, HC⟩ := hrel
      clear x1 x2 x3 y1 y2 y3
      obtain ⟨⟨x1, x2, x3⟩, y1, y2, y3⟩ := HC.out.tri.facts
      by_cases hlt : i < R.length
      · have hSl : S.length = R.length := HC.out.mp.rl
        have hsl : S.length = ss.length := HPa.out.1
        have hi1 : i < S.length := by omega
        have hi2 : i < ss.length := by omega
        have hrow := row_len HPa.out hi1 hi2
        have hrow2 := PO.out.row i hi2
        obtain ⟨br, cr, hr, hcr⟩ := HC.out.row hi1 (by omega)
        have hcell := HC.out.rowcell hr
        obtain ⟨m, hm⟩ : ∃ m, S[i].length = m := ⟨_, rfl⟩
        rw [hm] at hr hcell hcr hrow
        have hm24 : m ≤ 24 := by omega
        have HR := hid hr
        have HMm := hid (show (ss.getD i []).length = m from by rw [getD_of (List.getElem?_eq_getElem hi2)]; exact hrow.symm)
        clear hrow hrow2 hm hr hSl hsl hi1 hi2
        go_wp2_with fail
        go_loopw [27] (fun jv wr => ∃ (j : Nat) (S : List (List Nat)), jv = .int .i64 j ∧ j ≤ m ∧ Hid (Part k ss S i j) ∧ Hid (CB w wr ib w3.heap.size rs (.slice A1 ws.length c1) (.slice A2 an.length c2) (.slice A3 ss.length c3) (.slice B1 ws.length d1) (.slice B2 an.length d2) (.slice (some ⟨b3, 0, none⟩) R.length d3) (.slice B1 ws.length d1) (.slice B2 an.length d2) (.slice (some ⟨b3, 0, none⟩) R.length d3) ws an R S)) (fun jv _ => 100 - (intOf jv).toNat)
        case atStart => exact ⟨0, S, rfl, by omega, HPa.out, HC.out⟩
        case round =>
          obtain ⟨j, S, rfl, hj, HPa, HC⟩ := hrel
          clear x1 x2 x3 y1 y2 y3 hcell
          obtain ⟨⟨x1, x2, x3⟩, y1, y2, y3⟩ := HC.out.tri.facts
          have hcell := HC.out.rowcell HR.out
          by_cases hjt : j < m
          · have hSl : S.length = R.length := HC.out.mp.rl
            have hi1 : i < S.length := by omega
            have hsm : S[i].length = m := by
              have := HPa.out.2.1 i
              rw [HMm.out, getD_of (List.getElem?_eq_getElem hi1)] at this
              exact this
            obtain ⟨s, hs⟩ : ∃ s, S[i] = s := ⟨_, rfl⟩
            rw [hs] at hsm
            have HSi := hid (show S[i]? = some s from by rw [List.getElem?_eq_getElem hi1, hs])
            subst hsm
            have hnum := HC.out.num HR.out HSi.out hjt
            obtain ⟨n1, n2⟩ := hnum
            have hat : at2 ss i j = s[j] := by
              rw [← (HPa.out.2.2 i j).2 (by omega)]
              unfold at2
              rw [getD_of HSi.out, List.getD_eq_getElem?_getD, List.getElem?_eq_getElem hjt]; rfl
            have HAt := hid hat
            obtain ⟨y, hy⟩ : ∃ y, s[j] = y := ⟨_, rfl⟩
            rw [hy] at n1 HAt
            clear hat hy hSl hi1 hs
            go_wp2_with (refine wpList_farith rfl _ _ _ _ _ rfl rfl _ _ _ rfl rfl ?_; intro q nq hq)
            go_roundw
            case rel => exact ⟨j + 1, S.set i (s.set j q), by go_num, by omega, hid (HPa.out.next HSi.out hjt (by rw [HAt.out]; exact hq)), hid ((HC.out.drewN nq).cell HR.out HSi.out hjt)⟩
            case measure => (simp [intOf]; try omega)
          · obtain rfl : j = m := by omega
            have HPn := hid (HPa.out.row (Nat.le_of_eq HMm.out))
            go_wp2
            go_roundw
            case rel => exact ⟨i + 1, S, by go_num, by omega, HPn.out, HC.out⟩
            case measure => (simp [intOf]; try omega)
      · obtain rfl : i = R.length := by omega
        have HSc := hid (show Scaled k ss S from by
          have h1 := HC.out.mp.rl
          have h2 := HPa.out
          unfold Scaled
          rw [show ss.length = R.length by have := h2.1; omega]
          exact h2)
        have HRd := hid HC.out.mp.rd
        have hS2 : ∀ r ∈ S, r.length ≤ 1048576 := fun r hr => by
          obtain ⟨a, ha, rfl⟩ := List.getElem_of_mem hr
          have h1 := HSc.out.1
          rw [row_len HSc.out ha (by omega), PO.out.row a (by omega)]
          omega
        have HS2 := hid hS2
        clear hS2
        go_wp2_with fail
        refine (iPolarOk HS2.out HRd.out).mono ?_
        rintro e w4 ⟨⟨b, rfl, hb⟩, hB4⟩
        have HC4 := hid (HC.out.below hB4)
        have Hb2 := hid hb
        clear hb hB4 x1 x2 x3 y1 y2 y3 HRd
        obtain ⟨⟨x1, x2, x3⟩, y1, y2, y3⟩ := HC4.out.tri.facts
        obtain ⟨⟨p1, p2, p3⟩, q1, q2, q3⟩ := HC4.out.res.facts
        cases b
        · have HNo := hid (show ¬ PolOk ws an S from fun h => by have := Hb2.out.2 h; cases this)
          go_wp2
          obtain ⟨⟨e1, e2, e3⟩, _⟩ := (((HC4.out.res.set0 (x' := .slice none 0 0)).set1 (y' := .slice none 0 0)).set2 (z' := .slice none 0 0)).facts
          (try simp only [Exit.inBlock, Exit.then])
          refine bodyPost_ret_by (v := .tuple #[.agg #[.slice none 0 0, .slice none 0 0, .slice none 0 0], .bool false]) ?_ rfl ?_
          · simp [go_sem, results, loadVar, e1, e2, e3]
            done
          exact ⟨.inr ⟨.inr ⟨S, HSc.out, HNo.out⟩, rfl⟩, (HC4.out.end_ _ _ _).2⟩
        · have HYes := hid (Hb2.out.1 rfl)
          go_wp2
          obtain ⟨⟨e1, e2, e3⟩, _⟩ := (((HC4.out.res.set0 (x' := .slice B1 ws.length d1)).set1 (y' := .slice B2 an.length d2)).set2 (z' := .slice (some ⟨b3, 0, none⟩) R.length d3)).facts
          (try simp only [Exit.inBlock, Exit.then])
          refine bodyPost_ret_by (v := .tuple #[.agg #[.slice B1 ws.length d1, .slice B2 an.length d2, .slice (some ⟨b3, 0, none⟩) R.length d3], .bool true]) ?_ rfl ?_
          · simp [go_sem, results, loadVar, e1, e2, e3]
            done
          obtain ⟨hm, hb⟩ := HC4.out.end_ (.slice B1 ws.length d1) (.slice B2 an.length d2) (.slice (some ⟨b3, 0, none⟩) R.length d3)
          exact ⟨.inl ⟨S, HSc.out, PO.out, HYes.out, _, _, _, R, rfl, hm⟩, hb⟩
end Go.Proofs.Ytgjfpclpnobggaa
