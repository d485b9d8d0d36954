/- ScalePolar of the second side. -/
import Derived.Test.YtgjfpclpnobggaaNa
namespace Go.Proofs.Ytgjfpclpnobggaa
open Go.Shelf Go.RowKit

set_option maxHeartbeats 4000000 in
set_option maxRecDepth 100000 in
theorem sScale {w : World} {v : Value} {ws : List Nat} {an : List Int} {ss : List (List Nat)} (k : Nat) (h : RdP w v ws an ss) :
    Calls Try.prog 23 #[v, .float .f32 k] w fun e w' => ScAns w w' e ws an ss k := by
  have H := hid h
  obtain ⟨A1, c1, A2, c2, A3, c3, rfl⟩ := h.shape
  clear h
  obtain ⟨i0, hi0, hi1, hi2, hi3⟩ := info_parts info_f32
  obtain ⟨k0, hk0, hk1, hk2, hk3⟩ := info_parts info_int
  obtain ⟨r0, hr0, hr1, hr2, hr3⟩ := info_parts info_row
  have hb0 := below2 w (.cells #[.slice A1 ws.length c1, .slice A2 an.length c2, .slice A3 ss.length c3] 29) (.cells #[.slice none 0 0, .slice none 0 0, .slice none 0 0] 29)
  have hx : Tri _ _ _ _ _ := blkA w (.cells #[.slice A1 ws.length c1, .slice A2 an.length c2, .slice A3 ss.length c3] 29) (.cells #[.slice none 0 0, .slice none 0 0, .slice none 0 0] 29)
  have hy : Tri _ _ _ _ _ := blkB w (.cells #[.slice A1 ws.length c1, .slice A2 an.length c2, .slice A3 ss.length c3] 29) (.cells #[.slice none 0 0, .slice none 0 0, .slice none 0 0] 29)
  have HI := hid hx
  have HY := hid hy
  have HB := hid hb0
  have HP := hid (H.out.below hb0)
  clear hb0 hx hy
  go_enter Try.func23, Try.ntmps23
  go_wp2_with fail
  have g0 : w.heap.size ≤ w.heap.size := Nat.le_refl _
  have g1 : w.heap.size ≤ w.heap.size + 1 := by omega
  have g2 : w.heap.size + 1 ≠ w.heap.size := by omega
  generalize (w.alloc (.cells #[.slice A1 ws.length c1, .slice A2 an.length c2, .slice A3 ss.length c3] 29)).alloc (.cells #[.slice none 0 0, .slice none 0 0, .slice none 0 0] 29) = w1 at HI HY HB HP ⊢
  generalize hrs : w.heap.size + 1 = rs at HY g1 g2 ⊢
  clear hrs
  obtain ⟨ib, hgi⟩ : ∃ ib, w.heap.size = ib := ⟨_, rfl⟩
  have HG := hid hgi
  rw [hgi] at g0 g1 g2 HI ⊢
  clear hgi
  refine (sPolarOk HP.out).mono ?_
  rintro e w2 ⟨⟨b, rfl, hb⟩, hB2⟩
  have HI2 := hid (HI.out.keep hB2)
  have HY2 := hid (HY.out.keep hB2)
  have HB2 := hid (HB.out.trans (hB2.mono HB.out.size))
  have HP2 := hid (HP.out.below hB2)
  have Hb := hid hb
  clear hb hB2 HI HY HB HP
  obtain ⟨⟨x1, x2, x3⟩, _⟩ := HI2.out.facts
  obtain ⟨⟨p1, p2, p3⟩, q1, q2, q3⟩ := HY2.out.facts
  cases b
  · have hno : ¬ PolOk ws an ss := fun h => by have := Hb.out.2 h; cases this
    have HNo := hid hno
    clear hno
    go_wp2
    obtain ⟨⟨e1, e2, e3⟩, _⟩ := (((HY2.out.set0 (x' := .slice none 0 0)).set1 (y' := .slice none 0 0)).set2 (z' := .slice none 0 0)).facts
    (try simp only [Exit.inBlock, Exit.then])
    refine bodyPost_ret_by (v := .tuple #[.agg #[.slice none 0 0, .slice none 0 0, .slice none 0 0], .bool false]) ?_ rfl ?_
    · simp [go_sem, results, loadVar, e1, e2, e3]
      done
    refine ⟨.inr ⟨.inl HNo.out, rfl⟩, ?_⟩
    have hr : w.heap.size ≤ rs := by have := HG.out; omega
    exact ((HB2.out.setCell (p := ⟨rs, 0, none⟩) hr _).setCell (p := ⟨rs, 1, none⟩) hr _).setCell (p := ⟨rs, 2, none⟩) hr _
  · have hP := Hb.out.1 rfl
    have l1 := hP.w1
    have l2 := hP.w12
    have l3 := hP.a2
    have l4 := hP.a24
    have L5 := hid hP.sl
    have PO := hid hP
    clear hP x1 x2 x3 p1 p2 p3 q1 q2 q3
    have i0' : w.heap.size ≤ ib := by have := HG.out; omega
    have r0' : w.heap.size ≤ rs := by have := HG.out; omega
    obtain ⟨ad1, rfl, _⟩ := HP2.out.cell1 (i := 0) (by omega)
    obtain ⟨ad2, rfl, _⟩ := HP2.out.cell2 (i := 0) (by omega)
    have SF := hid (srcF HP2.out.parts.1)
    have SI := hid (srcI HP2.out.parts.2.1)
    have OF := hid (cells1F ws)
    have OI := hid (cells1I an)
    have LF := hid (show (fcells ws).length = ws.length * 1 by simp [fcells])
    have LI := hid (show (icells an).length = an.length * 1 by simp [icells])
    have b1 : 0 + ws.length ≤ maxLen := by unfold maxLen; omega
    have b2 : (0 + ws.length) * 4 ≤ 140737488355328 := by omega
    have b3 : 0 + an.length ≤ maxLen := by unfold maxLen; omega
    have b4 : (0 + an.length) * 8 ≤ 140737488355328 := by omega
    have nFI : (36 : TypeId) ≠ 3 := by decide
    have nIF : (3 : TypeId) ≠ 36 := by decide
    have nFP : (36 : TypeId) ≠ 29 := by decide
    have nIP : (3 : TypeId) ≠ 29 := by decide
    go_upto_region 3 with fail
    go_cut [6] (fun pv wx => ∃ bp v1 v2, pv = .pointer (some ⟨bp, 0, none⟩) ∧ Hid (CB w wx ib bp rs (.slice (some ad1) ws.length c1) (.slice (some ad2) an.length c2) (.slice A3 ss.length c3) v1 v2 (.slice none 0 0) v1 v2 (.slice none 0 0) ws an [] []))
    case first =>
      obtain ⟨⟨x1, x2, x3⟩, _⟩ := HI2.out.facts
      go_region_held3 (fun w' => w'.cell? ⟨ib, 0, none⟩ = some (.slice (some ad1) ws.length c1) ∧ w'.cell? ⟨ib, 1, none⟩ = some (.slice (some ad2) an.length c2))
        (((refine held2 HI2.out ?_); (repeat (first | with_reducible exact Below.refl _ _ | omega | with_reducible refine bel_set ?_ ?_ | with_reducible apply Below.drewS | with_reducible apply Below.allocS | with_reducible refine bel_over hgr7 hc7 ?_ | with_reducible refine bel_over hgr9 hc9 ?_))))
        (first | (refine step_own_c (w1 := w2) rfl (.tmp 14) (.tmp 16) 22 rfl 36 i0 (.float .f32 0) 4 Try.underlying22 hi0 hi1 hi2 hi3 rfl (.slice (some ⟨_, 0, none⟩) 0 0) 0 [] rfl ad1 ws.length c1 (fcells ws) rfl LF.out SF.out OF.out b1 b2 ?_ ?_ ?_; (focus (repeat (first | with_reducible exact Below.refl _ _ | omega | with_reducible refine bel_set ?_ ?_ | with_reducible apply Below.drewS | with_reducible apply Below.allocS | with_reducible refine bel_over hgr7 hc7 ?_ | with_reducible refine bel_over hgr9 hc9 ?_))); (focus (repeat (first | with_reducible exact Below.refl _ _ | with_reducible apply own_drew | with_reducible refine own_lit ?_ ?_ | with_reducible rfl | exact size_alloc _ _ | (simp only [size_alloc]; done) | (simp only [size_alloc]; exact rfl) | (rw [size_alloc, size_alloc]) | exact rfl | with_reducible apply World.ownsRow.alloc | with_reducible refine own_over hgr9 hc9 nFI ?_ | with_reducible apply Below.drewS | with_reducible apply Below.allocS | with_reducible refine bel_over hgr7 hc7 ?_ | with_reducible refine bel_over hgr9 hc9 ?_))); intro v7 w7 hc7 hown7 hgr7; replace hown7 := own_zero hown7; obtain ⟨A7, d7, rfl⟩ := own_shape hown7; (have hs7 : w2.heap.size ≤ w7.heap.size := by (refine Below.size (w := w2) (B := w2.heap.size) (bel_over hgr7 hc7 ?_); (repeat (first | with_reducible exact Below.refl _ _ | omega | with_reducible refine bel_set ?_ ?_ | with_reducible apply Below.drewS | with_reducible apply Below.allocS | with_reducible refine bel_over hgr7 hc7 ?_ | with_reducible refine bel_over hgr9 hc9 ?_)))); (first | with_reducible replace Tb := hid (tri_over hgr7 hc7 nFP Tb.out) | with_reducible replace Tb := hid (tri_over hgr7 hc7 nFP (Tb.out.alloc _)) | with_reducible replace Tb := hid (tri_over hgr7 hc7 nFP ((Tb.out.alloc _).alloc _)) | with_reducible replace Tb := hid (tri_over hgr7 hc7 nFP (Tb.out.drew)) | with_reducible replace Tb := hid (tri_over hgr7 hc7 nFP ((Tb.out.alloc _).drew)) | with_reducible have Tb := hid (tri_over hgr7 hc7 nFP (Tri.born _ _ _ _)) | with_reducible have Tb := hid (tri_over hgr7 hc7 nFP ((Tri.born _ _ _ _).alloc _)) | with_reducible have Tb := hid (tri_over hgr7 hc7 nFP (((Tri.born _ _ _ _).alloc _).alloc _)) | with_reducible have Tb := hid (tri_over hgr7 hc7 nFP ((Tri.born _ _ _ _).drew)) | with_reducible have Tb := hid (tri_over hgr7 hc7 nFP (((Tri.born _ _ _ _).alloc _).drew)) | with_reducible have Tb := hid (tri_over hgr7 hc7 nFP ((((Tri.born _ _ _ _).alloc _).alloc _).drew)) | skip); (try simp only [size_alloc] at Tb); (try (obtain ⟨⟨s1, s2, s3⟩, u1, u2, u3⟩ := Tb.out.facts))) | (refine step_own_c (w1 := w2) rfl (.tmp 18) (.tmp 20) 23 rfl 3 k0 (.int .i64 0) 8 Try.underlying23 hk0 hk1 hk2 hk3 rfl (.slice (some ⟨_, 0, none⟩) 0 0) 0 [] rfl ad2 an.length c2 (icells an) rfl LI.out SI.out OI.out b3 b4 ?_ ?_ ?_; (focus (repeat (first | with_reducible exact Below.refl _ _ | omega | with_reducible refine bel_set ?_ ?_ | with_reducible apply Below.drewS | with_reducible apply Below.allocS | with_reducible refine bel_over hgr7 hc7 ?_ | with_reducible refine bel_over hgr9 hc9 ?_))); (focus (repeat (first | with_reducible exact Below.refl _ _ | with_reducible apply own_drew | with_reducible refine own_lit ?_ ?_ | with_reducible rfl | exact size_alloc _ _ | (simp only [size_alloc]; done) | (simp only [size_alloc]; exact rfl) | (rw [size_alloc, size_alloc]) | exact rfl | with_reducible apply World.ownsRow.alloc | with_reducible refine own_over hgr7 hc7 nIF ?_ | with_reducible apply Below.drewS | with_reducible apply Below.allocS | with_reducible refine bel_over hgr7 hc7 ?_ | with_reducible refine bel_over hgr9 hc9 ?_))); intro v9 w9 hc9 hown9 hgr9; replace hown9 := own_zero hown9; obtain ⟨A9, d9, rfl⟩ := own_shape hown9; (have hs9 : w2.heap.size ≤ w9.heap.size := by (refine Below.size (w := w2) (B := w2.heap.size) (bel_over hgr9 hc9 ?_); (repeat (first | with_reducible exact Below.refl _ _ | omega | with_reducible refine bel_set ?_ ?_ | with_reducible apply Below.drewS | with_reducible apply Below.allocS | with_reducible refine bel_over hgr7 hc7 ?_ | with_reducible refine bel_over hgr9 hc9 ?_)))); (first | with_reducible replace Tb := hid (tri_over hgr9 hc9 nIP Tb.out) | with_reducible replace Tb := hid (tri_over hgr9 hc9 nIP (Tb.out.alloc _)) | with_reducible replace Tb := hid (tri_over hgr9 hc9 nIP ((Tb.out.alloc _).alloc _)) | with_reducible replace Tb := hid (tri_over hgr9 hc9 nIP (Tb.out.drew)) | with_reducible replace Tb := hid (tri_over hgr9 hc9 nIP ((Tb.out.alloc _).drew)) | with_reducible have Tb := hid (tri_over hgr9 hc9 nIP (Tri.born _ _ _ _)) | with_reducible have Tb := hid (tri_over hgr9 hc9 nIP ((Tri.born _ _ _ _).alloc _)) | with_reducible have Tb := hid (tri_over hgr9 hc9 nIP (((Tri.born _ _ _ _).alloc _).alloc _)) | with_reducible have Tb := hid (tri_over hgr9 hc9 nIP ((Tri.born _ _ _ _).drew)) | with_reducible have Tb := hid (tri_over hgr9 hc9 nIP (((Tri.born _ _ _ _).alloc _).drew)) | with_reducible have Tb := hid (tri_over hgr9 hc9 nIP ((((Tri.born _ _ _ _).alloc _).alloc _).drew)) | skip); (try simp only [size_alloc] at Tb); (try (obtain ⟨⟨s1, s2, s3⟩, u1, u2, u3⟩ := Tb.out.facts))))
      all_goals
        have O7 : Hid (w9.ownsRow w.heap.size 36 1 (.slice A7 ws.length d7) ws.length (fcells ws)) := by
          refine hid (own_base (b1 := w2.heap.size) (own_over hgr9 hc9 nFI ?_) HB2.out.size)
          repeat (first | exact hown7 | with_reducible apply own_drew | with_reducible apply World.ownsRow.alloc)
        have O9 := hid (own_base hown9 HB2.out.size)
        have HBz : Hid (Below w2.heap.size w2 w9) := by
          refine hid ?_
          (repeat (first | with_reducible exact Below.refl _ _ | omega | with_reducible refine bel_set ?_ ?_ | with_reducible apply Below.drewS | with_reducible apply Below.allocS | with_reducible refine bel_over hgr7 hc7 ?_ | with_reducible refine bel_over hgr9 hc9 ?_))
        have hbz := hid (show w2.heap.size ≤ w2.heap.size + 1 + 1 ∧ w2.heap.size ≤ w2.heap.size + 1 by omega)
        clear hc7 hc9 hgr7 hgr9 hown7 hown9
        (try clear s1 s2 s3 u1 u2 u3)
        go_wp2
        go_meet
        first
          | exact ⟨_, _, _, rfl, hid (CB.start (w0 := w) O7.out O9.out (HI2.out.keep HBz.out) (HY2.out.keep HBz.out) i0' r0' g2 (HB2.out.trans (HBz.out.mono HB2.out.size)))⟩
          | exact ⟨_, _, _, rfl, hid (CB.born (w0 := w) O7.out O9.out HI2.out HY2.out Tb.out HBz.out HB2.out (by omega) i0' r0' g2)⟩
    case rest =>
      obtain ⟨bp, v1, v2, rfl, HC⟩ := hcut
      clear SF SI OF OI LF LI b1 b2 b3 b4 HI2 HY2 HB2 HP2 nFI nIF nFP nIP
      obtain ⟨B1, d1, rfl⟩ := own_shape HC.out.mp.o1
      obtain ⟨B2, d2, rfl⟩ := own_shape HC.out.mp.o2
      have hs12 : ss.length ≤ 12 := by have := L5.out; omega
      go_wp2_with fail
      go_loopw [7] (fun iv wr => ∃ (i : Nat) (R : List Value) (S : List (List Nat)) (A : Option Addr) (d : Nat), iv = .int .i64 i ∧ i ≤ ss.length ∧ Hid (R.length = i) ∧ Hid (Pre k ss S i) ∧ Hid (CB w wr ib bp rs (.slice (some ad1) ws.length c1) (.slice (some ad2) an.length c2) (.slice A3 ss.length c3) (.slice B1 ws.length d1) (.slice B2 an.length d2) (.slice A R.length d) (.slice B1 ws.length d1) (.slice B2 an.length d2) (.slice A R.length d) ws an R S)) (fun iv _ => 100 - (intOf iv).toNat)
      case atStart => exact ⟨0, [], [], none, 0, rfl, by omega, rfl, ⟨rfl, fun a h => by omega⟩, HC.out⟩
      case round =>
        obtain ⟨i, R, S, A, d, rfl, hi, HRl, HPr, HC⟩ := hrel
        obtain ⟨⟨x1, x2, x3⟩, _⟩ := HC.out.inp.facts
        by_cases hlt : i < ss.length
        · have HPw := hid (H.out.below HC.out.bel)
          obtain ⟨ad3, u, rfl, z1, z2⟩ := HPw.out.cell3 hlt
          have hrl := PO.out.row i hlt
          obtain ⟨_, A4, c4, rfl, _⟩ := z2
          obtain ⟨m, hm⟩ : ∃ m, ss[i].length = m := ⟨_, rfl⟩
          have HMm := hid hm
          rw [hm] at z1 hrl
          have hm24 : m ≤ 24 := by omega
          clear hm hrl
          have HQ0 := hid (show RB w _ _ _ _ _ ∧ CB w _ ib bp rs _ _ _ _ _ _ _ _ _ _ _ _ _ from ⟨RB.start HC.out, HC.out.alloc (.cells #[] 36)⟩)
          go_wp2_with fail
          go_loopw [8, 9] (fun vv jv wx => ∃ (xs : List Nat), jv = .int .i64 xs.length ∧ xs.length ≤ m ∧ Hid (PreR k ss i xs) ∧ Hid (RB w wx (.slice B1 ws.length d1) R vv xs ∧ CB w wx ib bp rs (.slice (some ad1) ws.length c1) (.slice (some ad2) an.length c2) (.slice (some ad3) ss.length c3) (.slice B1 ws.length d1) (.slice B2 an.length d2) (.slice A R.length d) (.slice B1 ws.length d1) (.slice B2 an.length d2) (.slice A R.length d) ws an R S)) (fun _ jv _ => 100 - (intOf jv).toNat)
          case atStart => exact ⟨[], rfl, by simp, (fun b h => by simp at h), HQ0.out⟩
          case round =>
            obtain ⟨xs, rfl, hj, HPR, HQ⟩ := hrel
            clear HQ0 HPw x1 x2 x3 z1
            obtain ⟨⟨x1, x2, x3⟩, _⟩ := HQ.out.2.inp.facts
            have HPx := hid (H.out.below HQ.out.2.bel)
            obtain ⟨ad3', u, he3, z1, z2⟩ := HPx.out.cell3 hlt
            obtain rfl : ad3 = ad3' := Option.some.inj he3
            obtain ⟨_, A5, c5, rfl, z3⟩ := z2
            rw [HMm.out] at z1
            clear he3
            by_cases hjt : xs.length < m
            · obtain ⟨ad4, rfl, n1⟩ := z3 xs.length (by rw [HMm.out]; exact hjt)
              have hat : at2 ss i xs.length = ss[i][xs.length]'(by rw [HMm.out]; exact hjt) := at2_get hlt (by rw [HMm.out]; exact hjt)
              have HAt := hid hat
              obtain ⟨y, hy⟩ : ∃ y, ss[i][xs.length]'(by rw [HMm.out]; exact hjt) = y := ⟨_, rfl⟩
              rw [hy] at n1 HAt
              have hB := len_bound (n := xs.length) (by omega)
              obtain ⟨b1, b2, b3, b4⟩ := hB
              clear hat hy z3
              go_wp2_with (first | (refine wpList_farith rfl _ _ _ _ _ rfl rfl _ _ _ rfl rfl ?_; intro q nq hq; have HF := hid hq; clear hq) | (at_builtin; refine wpList_append_own_at _ rfl _ _ 22 rfl w.heap.size 36 i0 (.float .f32 0) 1 4 Try.underlying22 hi0 hi1 hi2 hi3 rfl (by decide) _ _ _ rfl (World.ownsRow.alloc (own_rd HQ.out.1.own (below_drewN (Below.refl _ _) _)) _) ⟨_, 0, none⟩ 1 1 [.float .f32 _] rfl rfl (cell_one_new _ _ _) (one_cell_f _) b1 b2 ((HQ.out.2.drewN _).alloc _).bel.size ?_; intro v8 w8 hown8 hgr8 _ hat8; have HN := hid (RB.app (HQ.out.1.below ((below_drewN (Below.refl _ _) _).alloc (Nat.le_refl _) _)) ((HQ.out.2.drewN _).alloc _) hgr8 hown8 hat8); clear hown8 hgr8 hat8))
              go_roundw
              case rel => exact ⟨xs ++ [_], by simp, by simp; omega, hid (HPR.out.next (by rw [HAt.out]; exact HF.out)), hid HN.out⟩
              case measure => (simp [intOf]; try omega)
            · obtain rfl : xs.length = m := by omega
              clear z3
              obtain ⟨A8, d8, rfl⟩ := own_shape HQ.out.1.own
              obtain ⟨⟨y1, y2, y3⟩, f1, f2, f3⟩ := HQ.out.2.tri.facts
              have hB := len_bound (n := R.length) (by have := HRl.out; omega)
              obtain ⟨b1, b2, b3, b4⟩ := hB
              go_wp2_with (at_builtin; refine wpList_append_own_at _ rfl _ _ 24 rfl w.heap.size 22 r0 (.slice none 0 0) 1 24 Try.underlying24 hr0 hr1 hr2 hr3 rfl (by decide) _ _ _ rfl (HQ.out.2.alloc _).mp.o3 ⟨_, 0, none⟩ 1 1 [.slice A8 xs.length d8] rfl rfl (cell_one_new _ _ _) (one_cell_s _ _ _) b1 b4 (HQ.out.2.alloc _).bel.size ?_; intro v9 w9 hown9 hgr9 _ _; obtain ⟨A9, d9, rfl⟩ := own_shape hown9; have HN := hid ((HQ.out.2.alloc _).app3 hgr9 hown9 (HQ.out.1.own.alloc _) HQ.out.1.one (fun r hr => ⟨(HQ.out.1.rows r hr).2, (HQ.out.1.rows r hr).1⟩)); clear hown9 hgr9 y1 y2 y3 f1 f2 f3 x1 x2 x3 z1; obtain ⟨⟨y1, y2, y3⟩, f1, f2, f3⟩ := HN.out.tri.facts)
              have HS := hid (HN.out.set2 (.slice A9 (R.length + 1) d9))
              have HPn := hid (HPr.out.next (by rw [getD_of (List.getElem?_eq_getElem hlt), HMm.out]) HPR.out)
              go_roundw
              case rel => exact ⟨i + 1, R ++ [.slice A8 xs.length d8], S ++ [xs], A9, d9, by go_num, by omega, hid (by simp [HRl.out]), HPn.out, hid (by simpa using HS.out)⟩
              case measure => (simp [intOf]; try omega)
        · obtain rfl : i = ss.length := by omega
          have HSc := hid HPr.out.done
          have HRd := hid HC.out.mp.rd
          obtain ⟨⟨y1, y2, y3⟩, f1, f2, f3⟩ := HC.out.tri.facts
          go_wp2_with fail
          refine (sPolarOk HRd.out).mono ?_
          rintro e w4 ⟨⟨b, rfl, hb⟩, hB4⟩
          have HC4 := hid (HC.out.below hB4)
          have Hb2 := hid hb
          clear hb hB4 y1 y2 y3 f1 f2 f3 x1 x2 x3
          obtain ⟨⟨x1, x2, x3⟩, _⟩ := HC4.out.tri.facts
          obtain ⟨⟨p1, p2, p3⟩, q1, q2, q3⟩ := HC4.out.res.facts
          cases b
          · have HNo := hid (show ¬ PolOk ws an S from fun h => by have := Hb2.out.2 h; cases this)
            go_wp2
            obtain ⟨⟨e1, e2, e3⟩, _⟩ := (((HC4.out.res.set0 (x' := .slice none 0 0)).set1 (y' := .slice none 0 0)).set2 (z' := .slice none 0 0)).facts
            (try simp only [Exit.inBlock, Exit.then])
            refine bodyPost_ret_by (v := .tuple #[.agg #[.slice none 0 0, .slice none 0 0, .slice none 0 0], .bool false]) ?_ rfl ?_
            · simp [go_sem, results, loadVar, e1, e2, e3]
              done
            exact ⟨.inr ⟨.inr ⟨S, HSc.out, HNo.out⟩, rfl⟩, (HC4.out.end_ _ _ _).2⟩
          · have HYes := hid (Hb2.out.1 rfl)
            go_wp2
            obtain ⟨⟨e1, e2, e3⟩, _⟩ := (((HC4.out.res.set0 (x' := .slice B1 ws.length d1)).set1 (y' := .slice B2 an.length d2)).set2 (z' := .slice A R.length d)).facts
            (try simp only [Exit.inBlock, Exit.then])
            refine bodyPost_ret_by (v := .tuple #[.agg #[.slice B1 ws.length d1, .slice B2 an.length d2, .slice A R.length d], .bool true]) ?_ rfl ?_
            · simp [go_sem, results, loadVar, e1, e2, e3]
              done
            obtain ⟨hm, hb⟩ := HC4.out.end_ (.slice B1 ws.length d1) (.slice B2 an.length d2) (.slice A R.length d)
            exact ⟨.inl ⟨S, HSc.out, PO.out, HYes.out, _, _, _, R, rfl, hm⟩, hb⟩
end Go.Proofs.Ytgjfpclpnobggaa
