/- SpeedAt of the second side. -/
import Derived.Test.YtgjfpclpnobggaaQf
namespace Go.Proofs.Ytgjfpclpnobggaa
open Go.Shelf Go.RowKit

set_option maxHeartbeats 2000000 in
set_option maxRecDepth 100000 in
theorem sSpeedNo {w : World} {v : Value} {ws : List Nat} {an : List Int} {ss : List (List Nat)} {wind : Nat} {angle : Int} (hN : ¬ AllOk ws an ss wind angle) (h : RdP w v ws an ss) :
    Calls Try.prog 18 #[v, .float .f32 wind, .int .i64 angle] w fun e w' => e = .returned (.tuple #[.float .f32 0, .bool false]) ∧ Below w.heap.size w w' := by
  have H := hid h
  have HNo := hid hN
  clear hN
  obtain ⟨A1, c1, A2, c2, A3, c3, rfl⟩ := h.shape
  have hb := (Below.refl w.heap.size w).alloc (Nat.le_refl _) (.cells #[.slice A1 ws.length c1, .slice A2 an.length c2, .slice A3 ss.length c3] 29)
  have hT : Tri _ _ _ _ _ := heap_alloc_new w (.cells #[.slice A1 ws.length c1, .slice A2 an.length c2, .slice A3 ss.length c3] 29)
  have HT := hid hT
  have HB := hid hb
  have HP := hid (H.out.below hb)
  clear hb hT h
  go_enter Try.func18, Try.ntmps18
  go_wp2_with fail
  generalize w.alloc (.cells #[.slice A1 ws.length c1, .slice A2 an.length c2, .slice A3 ss.length c3] 29) = w1 at HT HB HP ⊢
  refine (sPolarOk HP.out).mono ?_
  rintro e w2 ⟨⟨b, rfl, hbs⟩, hb2⟩
  have HBs := hid hbs
  have HT2 := hid (HT.out.keep hb2)
  have HB2 := hid (HB.out.trans (hb2.mono HB.out.size))
  have HP2 := hid (HP.out.below hb2)
  clear hbs hb2
  obtain ⟨⟨x1, x2, x3⟩, _⟩ := HT2.out.facts
  cases b
  · go_wp2
    go_ret2
    exact ⟨rfl, HB2.out⟩
  · obtain ⟨b2, hb2⟩ : ∃ b, geB wind 0 = b := ⟨_, rfl⟩
    obtain ⟨b3, hb3⟩ : ∃ b, leB wind 1120403456 = b := ⟨_, rfl⟩
    have HQ2 := hid hb2
    have HQ3 := hid hb3
    unfold geB at hb2
    unfold leB at hb3
    cases b2
    · go_wp2
      go_ret2
      exact ⟨rfl, HB2.out⟩
    · cases b3
      · go_wp2
        go_ret2
        exact ⟨rfl, HB2.out⟩
      · by_cases a0 : 0 ≤ angle
        · by_cases a1 : angle ≤ 180
          · exact absurd (show AllOk ws an ss wind angle from ⟨HBs.out.1 rfl, ⟨HQ2.out, HQ3.out⟩, a0, a1⟩) HNo.out
          · have hd : decide (angle ≤ 180) = false := decide_eq_false a1
            go_wp2_with (go_at_call 33; go_in)
            go_ret2
            exact ⟨rfl, HB2.out⟩
        · have hd : decide (0 ≤ angle) = false := decide_eq_false a0
          go_wp2_with (go_at_call 33; go_in)
          go_ret2
          exact ⟨rfl, HB2.out⟩
set_option maxHeartbeats 2000000 in
set_option maxRecDepth 100000 in
theorem sSpeed1 {w : World} {v : Value} {ws : List Nat} {an : List Int} {ss : List (List Nat)} {wind : Nat} {angle : Int} {q k s r : Nat} (hA : AllOk ws an ss wind angle) (h0 : 0 < ws.length) (hs0 : 0 < ss.length)
    (hle : leB wind ws[0] = true) (hq : floatBits .quo .f32 wind ws[0] = some q) (hk : RowR an ss[0] angle k s) (hr : floatBits .mul .f32 q s = some r) (h : RdP w v ws an ss) :
    Calls Try.prog 18 #[v, .float .f32 wind, .int .i64 angle] w fun e w' => e = .returned (.tuple #[.float .f32 r, .bool true]) ∧ Below w.heap.size w w' := by
  have H := hid h
  have h' := h
  obtain ⟨a, b, c, rfl, h1, h2, h3⟩ := h'
  obtain ⟨_, A1, c1, rfl, r1⟩ := h1
  obtain ⟨_, A2, c2, rfl, r2⟩ := h2
  obtain ⟨_, A3, c3, rfl, r3⟩ := h3
  have HAll := hid hA
  obtain ⟨hP, hw, a0, a1⟩ := hA
  have PO := hid hP
  have R1 := hid r1
  have R3 := hid r3
  have AR := hid (an_range PO.out)
  have h24 := PO.out.a24
  have h12 := PO.out.w12
  have hb2 := hw.1
  have hb3 := hw.2
  unfold geB at hb2
  unfold leB at hb3
  clear r1 r2 r3 hP hw
  obtain ⟨ad1, rfl, hw0⟩ := R1.out 0 h0
  obtain ⟨ad3, u0, rfl, hrow, hru⟩ := R3.out 0 hs0
  obtain ⟨x0, hx0⟩ : ∃ x, ws[0] = x := ⟨_, rfl⟩
  have h0' : (0 : Int) < (ws.length : Int) := by omega
  have hs0' : (0 : Int) < (ss.length : Int) := by omega
  rw [hx0] at hw0 hle
  rw [show ad1.add 0 = ad1 by unfold Addr.add; simp] at hw0
  rw [show ad3.add 0 = ad3 by unfold Addr.add; simp] at hrow
  unfold leB at hle
  rw [hx0] at hq
  have e1 := run_fop (t := 36) hq
  have e2 := run_fop (t := 36) hr
  have HK := hid hk
  have HRu := hid hru
  have HW0 := hid hw0
  have HRow := hid hrow
  clear hq hr hk hru hx0 hw0 hrow
  have hb := (Below.refl w.heap.size w).alloc (Nat.le_refl _) (.cells #[.slice (some ad1) ws.length c1, .slice A2 an.length c2, .slice (some ad3) ss.length c3] 29)
  have hT : Tri _ _ _ _ _ := heap_alloc_new w (.cells #[.slice (some ad1) ws.length c1, .slice A2 an.length c2, .slice (some ad3) ss.length c3] 29)
  have HT := hid hT
  have HB := hid hb
  have HP := hid (H.out.below hb)
  clear hb hT h
  go_enter Try.func18, Try.ntmps18
  go_wp2_with fail
  generalize w.alloc (.cells #[.slice (some ad1) ws.length c1, .slice A2 an.length c2, .slice (some ad3) ss.length c3] 29) = w1 at HT HB HP ⊢
  refine (sPolarOk HP.out).mono ?_
  rintro e w2 ⟨⟨b, rfl, hbs⟩, hb2⟩
  have HBs := hid hbs
  have HT2 := hid (HT.out.keep hb2)
  have HB2 := hid (HB.out.trans (hb2.mono HB.out.size))
  have HP2 := hid (HP.out.below hb2)
  clear hbs hb2
  obtain ⟨⟨x1, x2, x3⟩, _⟩ := HT2.out.facts
  obtain rfl : b = true := HBs.out.2 PO.out
  have HBw := hid (show ∀ (ad : Addr) (u : Value), w.cell? ad = some u → w2.cell? ad = some u from fun ad u hc => (HB2.out.cell (World.block_lt_of_cell? w _ hc)).trans hc)
  have HF := hid (show ∀ (u : Value) (xs : List Nat), RdF w u xs → RdF w2 u xs from fun u xs hc => hc.below HB2.out)
  have L1 : ∀ m : Later w2.heap.size w2, m.val.cell? ⟨w.heap.size, 0, none⟩ = some (.slice (some ad1) ws.length c1) := fun m => (HT2.out.keep m.below).facts.1.1
  have L2 : ∀ m : Later w2.heap.size w2, m.val.cell? ⟨w.heap.size, 1, none⟩ = some (.slice A2 an.length c2) := fun m => (HT2.out.keep m.below).facts.1.2.1
  have L3 : ∀ m : Later w2.heap.size w2, m.val.cell? ⟨w.heap.size, 2, none⟩ = some (.slice (some ad3) ss.length c3) := fun m => (HT2.out.keep m.below).facts.1.2.2
  have HI := hid (show RdI w2 (.slice A2 an.length c2) an from by
    obtain ⟨_, _, _, he, _, h2, _⟩ := HP2.out
    obtain ⟨_, rfl, _⟩ : _ ∧ Value.slice A2 an.length c2 = _ ∧ _ := by simpa using he
    exact h2)
  have hwA := HBw.out _ _ HW0.out
  have hwB := HBw.out _ _ HRow.out
  have HR2 := hid (HF.out _ _ HRu.out)
  have L4 : ∀ m : Later w2.heap.size w2, m.val.cell? ad1 = some (.float .f32 x0) := fun m => (m.below.cell (World.block_lt_of_cell? w2 _ hwA)).trans hwA
  have L5 : ∀ m : Later w2.heap.size w2, m.val.cell? ad3 = some u0 := fun m => (m.below.cell (World.block_lt_of_cell? w2 _ hwB)).trans hwB
  have C1 := hid (fun m : Later w2.heap.size w2 => (sRow HK.out h24 a0 a1 AR.out (HI.out.below m.below) (HR2.out.below m.below)).mono fun e w' h => m.drawn h)
  go_wp2_with (go_at_call 33; go_in)
  refine wp_region_later w2.heap.size (by kernel_rfl) (by kernel_rfl) ?_
  repeat (quiet_step (exact C1.out _))
  refine wpQuiet_nil ?_
  intro mq
  go_wp2
  go_ret2
  exact ⟨rfl, HB2.out.trans (mq.below.mono HB2.out.size)⟩
set_option maxHeartbeats 2000000 in
set_option maxRecDepth 100000 in
theorem sSpeed2 {w : World} {v : Value} {ws : List Nat} {an : List Int} {ss : List (List Nat)} {wind : Nat} {angle : Int} {n k r : Nat} (hA : AllOk ws an ss wind angle) (h0 : 0 < ws.length) (hs0 : 0 < ss.length)
    (hn : n + 1 = ws.length) (hnw : n < ws.length) (hns : n < ss.length) (hle : leB wind ws[0] = false) (hge : geB wind ws[n] = true) (hk : RowR an ss[n] angle k r) (h : RdP w v ws an ss) :
    Calls Try.prog 18 #[v, .float .f32 wind, .int .i64 angle] w fun e w' => e = .returned (.tuple #[.float .f32 r, .bool true]) ∧ Below w.heap.size w w' := by
  have H := hid h
  have h' := h
  obtain ⟨a, b, c, rfl, h1, h2, h3⟩ := h'
  obtain ⟨_, A1, c1, rfl, r1⟩ := h1
  obtain ⟨_, A2, c2, rfl, r2⟩ := h2
  obtain ⟨_, A3, c3, rfl, r3⟩ := h3
  have HAll := hid hA
  obtain ⟨hP, hw, a0, a1⟩ := hA
  have PO := hid hP
  have R1 := hid r1
  have R3 := hid r3
  have AR := hid (an_range PO.out)
  have h24 := PO.out.a24
  have h12 := PO.out.w12
  have hb2 := hw.1
  have hb3 := hw.2
  unfold geB at hb2
  unfold leB at hb3
  clear r1 r2 r3 hP hw
  obtain ⟨ad1, rfl, hw0⟩ := R1.out 0 h0
  obtain ⟨ad3, u0, rfl, hrow, hru⟩ := R3.out 0 hs0
  obtain ⟨x0, hx0⟩ : ∃ x, ws[0] = x := ⟨_, rfl⟩
  have h0' : (0 : Int) < (ws.length : Int) := by omega
  have hs0' : (0 : Int) < (ss.length : Int) := by omega
  rw [hx0] at hw0 hle
  rw [show ad1.add 0 = ad1 by unfold Addr.add; simp] at hw0
  rw [show ad3.add 0 = ad3 by unfold Addr.add; simp] at hrow
  unfold leB at hle
  clear hru hrow
  obtain ⟨ad1', he1, hwn⟩ := R1.out n hnw
  obtain rfl : ad1 = ad1' := Option.some.inj he1
  obtain ⟨ad3', un, he3, hrow, hru⟩ := R3.out n hns
  obtain rfl : ad3 = ad3' := Option.some.inj he3
  obtain ⟨xn, hxn⟩ : ∃ x, ws[n] = x := ⟨_, rfl⟩
  rw [hxn] at hwn hge
  unfold geB at hge
  have p1 : (ws.length : Int) - 1 = (n : Int) := by omega
  have p2 : (n : Int) < (ws.length : Int) := by omega
  have p3 : (n : Int) < (ss.length : Int) := by omega
  have p4 : IntKind.i64.wrap (n : Int) = n := by rw [IntKind.wrap_i64]; omega
  have p5 : wrap64 (n : Int) = n := by unfold wrap64; omega
  have HK := hid hk
  have HRu := hid hru
  have HW0 := hid hw0
  have HWn := hid hwn
  have HRow := hid hrow
  clear hk hru hx0 hxn hw0 hwn hrow he1 he3 hn
  have hb := (Below.refl w.heap.size w).alloc (Nat.le_refl _) (.cells #[.slice (some ad1) ws.length c1, .slice A2 an.length c2, .slice (some ad3) ss.length c3] 29)
  have hT : Tri _ _ _ _ _ := heap_alloc_new w (.cells #[.slice (some ad1) ws.length c1, .slice A2 an.length c2, .slice (some ad3) ss.length c3] 29)
  have HT := hid hT
  have HB := hid hb
  have HP := hid (H.out.below hb)
  clear hb hT h
  go_enter Try.func18, Try.ntmps18
  go_wp2_with fail
  generalize w.alloc (.cells #[.slice (some ad1) ws.length c1, .slice A2 an.length c2, .slice (some ad3) ss.length c3] 29) = w1 at HT HB HP ⊢
  refine (sPolarOk HP.out).mono ?_
  rintro e w2 ⟨⟨b, rfl, hbs⟩, hb2⟩
  have HBs := hid hbs
  have HT2 := hid (HT.out.keep hb2)
  have HB2 := hid (HB.out.trans (hb2.mono HB.out.size))
  have HP2 := hid (HP.out.below hb2)
  clear hbs hb2
  obtain ⟨⟨x1, x2, x3⟩, _⟩ := HT2.out.facts
  obtain rfl : b = true := HBs.out.2 PO.out
  have HBw := hid (show ∀ (ad : Addr) (u : Value), w.cell? ad = some u → w2.cell? ad = some u from fun ad u hc => (HB2.out.cell (World.block_lt_of_cell? w _ hc)).trans hc)
  have HF := hid (show ∀ (u : Value) (xs : List Nat), RdF w u xs → RdF w2 u xs from fun u xs hc => hc.below HB2.out)
  have L1 : ∀ m : Later w2.heap.size w2, m.val.cell? ⟨w.heap.size, 0, none⟩ = some (.slice (some ad1) ws.length c1) := fun m => (HT2.out.keep m.below).facts.1.1
  have L2 : ∀ m : Later w2.heap.size w2, m.val.cell? ⟨w.heap.size, 1, none⟩ = some (.slice A2 an.length c2) := fun m => (HT2.out.keep m.below).facts.1.2.1
  have L3 : ∀ m : Later w2.heap.size w2, m.val.cell? ⟨w.heap.size, 2, none⟩ = some (.slice (some ad3) ss.length c3) := fun m => (HT2.out.keep m.below).facts.1.2.2
  have HI := hid (show RdI w2 (.slice A2 an.length c2) an from by
    obtain ⟨_, _, _, he, _, h2, _⟩ := HP2.out
    obtain ⟨_, rfl, _⟩ : _ ∧ Value.slice A2 an.length c2 = _ ∧ _ := by simpa using he
    exact h2)
  have hwA := HBw.out _ _ HW0.out
  have hwN := HBw.out _ _ HWn.out
  have hwB := HBw.out _ _ HRow.out
  have HR2 := hid (HF.out _ _ HRu.out)
  have L4 : ∀ m : Later w2.heap.size w2, m.val.cell? (ad1.add n) = some (.float .f32 xn) := fun m => (m.below.cell (World.block_lt_of_cell? w2 _ hwN)).trans hwN
  have L5 : ∀ m : Later w2.heap.size w2, m.val.cell? (ad3.add n) = some un := fun m => (m.below.cell (World.block_lt_of_cell? w2 _ hwB)).trans hwB
  have C1 := hid (fun m : Later w2.heap.size w2 => (sRow HK.out h24 a0 a1 AR.out (HI.out.below m.below) (HR2.out.below m.below)).mono fun e w' h => m.drawn h)
  go_wp2_with (go_at_call 33; go_in)
  refine wp_region_later w2.heap.size (by kernel_rfl) (by kernel_rfl) ?_
  repeat (quiet_step (exact C1.out _))
  refine wpQuiet_nil ?_
  intro mq
  go_wp2
  go_ret2
  exact ⟨rfl, HB2.out.trans (mq.below.mono HB2.out.size)⟩
set_option maxHeartbeats 2000000 in
set_option maxRecDepth 100000 in
theorem sSpeed3 {w : World} {v : Value} {ws : List Nat} {an : List Int} {ss : List (List Nat)} {wind : Nat} {angle : Int} {n i d1 d2 q k1 s k2 t r : Nat} (hA : AllOk ws an ss wind angle) (h0 : 0 < ws.length) (hs0 : 0 < ss.length)
    (hn : n + 1 = ws.length) (hnw : n < ws.length) (hle : leB wind ws[0] = false) (hge : geB wind ws[n] = false) (hiw : i < ws.length) (his : i < ss.length) (his1 : i + 1 < ss.length) (hi : i + 1 < ws.length) (hup : ∀ j (hj : j + 1 < ws.length), j < i → leB ws[j + 1] wind = true) (hni : leB ws[i + 1] wind = false)
    (hd1 : floatBits .sub .f32 wind ws[i] = some d1) (hd2 : floatBits .sub .f32 ws[i + 1] ws[i] = some d2) (hq : floatBits .quo .f32 d1 d2 = some q) (hk1 : RowR an ss[i] angle k1 s) (hk2 : RowR an ss[i + 1] angle k2 t) (hm : Mix s t q r) (h : RdP w v ws an ss) :
    Calls Try.prog 18 #[v, .float .f32 wind, .int .i64 angle] w fun e w' => e = .returned (.tuple #[.float .f32 r, .bool true]) ∧ Below w.heap.size w w' := by
  have H := hid h
  have h' := h
  obtain ⟨a, b, c, rfl, h1, h2, h3⟩ := h'
  obtain ⟨_, A1, c1, rfl, r1⟩ := h1
  obtain ⟨_, A2, c2, rfl, r2⟩ := h2
  obtain ⟨_, A3, c3, rfl, r3⟩ := h3
  have HAll := hid hA
  obtain ⟨hP, hw, a0, a1⟩ := hA
  have PO := hid hP
  have R1 := hid r1
  have R3 := hid r3
  have AR := hid (an_range PO.out)
  have h24 := PO.out.a24
  have h12 := PO.out.w12
  have hb2 := hw.1
  have hb3 := hw.2
  unfold geB at hb2
  unfold leB at hb3
  clear r1 r2 r3 hP hw
  obtain ⟨ad1, rfl, hw0⟩ := R1.out 0 h0
  obtain ⟨ad3, u0, rfl, hrow, hru⟩ := R3.out 0 hs0
  obtain ⟨x0, hx0⟩ : ∃ x, ws[0] = x := ⟨_, rfl⟩
  have h0' : (0 : Int) < (ws.length : Int) := by omega
  have hs0' : (0 : Int) < (ss.length : Int) := by omega
  rw [hx0] at hw0 hle
  rw [show ad1.add 0 = ad1 by unfold Addr.add; simp] at hw0
  rw [show ad3.add 0 = ad3 by unfold Addr.add; simp] at hrow
  unfold leB at hle
  clear hru hrow
  obtain ⟨ad1', he1, hwn⟩ := R1.out n hnw
  obtain rfl : ad1 = ad1' := Option.some.inj he1
  obtain ⟨xn, hxn⟩ : ∃ x, ws[n] = x := ⟨_, rfl⟩
  rw [hxn] at hwn hge
  unfold geB at hge
  have p1 : (ws.length : Int) - 1 = (n : Int) := by omega
  have p2 : (n : Int) < (ws.length : Int) := by omega
  have HW0 := hid hw0
  have HWn := hid hwn
  clear hx0 hxn hw0 hwn he1
  have HUp := hid hup
  have HNi := hid hni
  have HK1 := hid hk1
  have HK2 := hid hk2
  have HM := hid hm
  have HD1 := hid hd1
  have HD2 := hid hd2
  have HQ := hid hq
  clear hup hni hk1 hk2 hm hd1 hd2 hq hn
  have hb := (Below.refl w.heap.size w).alloc (Nat.le_refl _) (.cells #[.slice (some ad1) ws.length c1, .slice A2 an.length c2, .slice (some ad3) ss.length c3] 29)
  have hT : Tri _ _ _ _ _ := heap_alloc_new w (.cells #[.slice (some ad1) ws.length c1, .slice A2 an.length c2, .slice (some ad3) ss.length c3] 29)
  have HT := hid hT
  have HB := hid hb
  have HP := hid (H.out.below hb)
  clear hb hT h
  go_enter Try.func18, Try.ntmps18
  go_wp2_with fail
  generalize w.alloc (.cells #[.slice (some ad1) ws.length c1, .slice A2 an.length c2, .slice (some ad3) ss.length c3] 29) = w1 at HT HB HP ⊢
  refine (sPolarOk HP.out).mono ?_
  rintro e w2 ⟨⟨b, rfl, hbs⟩, hb2⟩
  have HBs := hid hbs
  have HT2 := hid (HT.out.keep hb2)
  have HB2 := hid (HB.out.trans (hb2.mono HB.out.size))
  have HP2 := hid (HP.out.below hb2)
  clear hbs hb2
  obtain ⟨⟨x1, x2, x3⟩, _⟩ := HT2.out.facts
  obtain rfl : b = true := HBs.out.2 PO.out
  have HBw := hid (show ∀ (ad : Addr) (u : Value), w.cell? ad = some u → w2.cell? ad = some u from fun ad u hc => (HB2.out.cell (World.block_lt_of_cell? w _ hc)).trans hc)
  have HF := hid (show ∀ (u : Value) (xs : List Nat), RdF w u xs → RdF w2 u xs from fun u xs hc => hc.below HB2.out)
  have L1 : ∀ m : Later w2.heap.size w2, m.val.cell? ⟨w.heap.size, 0, none⟩ = some (.slice (some ad1) ws.length c1) := fun m => (HT2.out.keep m.below).facts.1.1
  have L2 : ∀ m : Later w2.heap.size w2, m.val.cell? ⟨w.heap.size, 1, none⟩ = some (.slice A2 an.length c2) := fun m => (HT2.out.keep m.below).facts.1.2.1
  have L3 : ∀ m : Later w2.heap.size w2, m.val.cell? ⟨w.heap.size, 2, none⟩ = some (.slice (some ad3) ss.length c3) := fun m => (HT2.out.keep m.below).facts.1.2.2
  have HI := hid (show RdI w2 (.slice A2 an.length c2) an from by
    obtain ⟨_, _, _, he, _, h2, _⟩ := HP2.out
    obtain ⟨_, rfl, _⟩ : _ ∧ Value.slice A2 an.length c2 = _ ∧ _ := by simpa using he
    exact h2)
  have hwA := HBw.out _ _ HW0.out
  have hwN := HBw.out _ _ HWn.out
  go_wp2_with (go_at_call 33; go_in)
  go_loopw [10] (fun iv wr => ∃ j : Nat, iv = .int .i64 j ∧ j ≤ i ∧ w2 = wr) (fun iv _ => 13 - (intOf iv).toNat)
  case atStart => exact ⟨0, rfl, by omega, rfl⟩
  case round =>
    obtain ⟨j, rfl, hj, rfl⟩ := hrel
    obtain ⟨p, hp⟩ : ∃ p, (j : Int) + 1 = p := ⟨_, rfl⟩
    have g1 : IntKind.i64.wrap p = p := by rw [IntKind.wrap_i64]; omega
    have g2 : wrap64 p = p := by unfold wrap64; omega
    have g3 : 0 ≤ p := by omega
    have g4 : p < (ws.length : Int) := by omega
    have g5 : p.toNat = j + 1 := by omega
    obtain ⟨ad1', he1, hwp⟩ := R1.out p.toNat (by omega)
    obtain rfl : ad1 = ad1' := Option.some.inj he1
    have hwp' := HBw.out _ _ hwp
    obtain ⟨y, hy⟩ : ∃ x, ws[p.toNat]'(by omega) = x := ⟨_, rfl⟩
    have e0 : ws[j + 1]'(by omega) = y := by rw [← hy]; congr 1; omega
    rw [hy] at hwp'
    by_cases hji : j < i
    · have hl1 := HUp.out j (by omega) hji
      rw [e0] at hl1
      unfold leB at hl1
      clear hwp he1 hy e0 g5
      go_wp2
      go_roundw
      case rel => exact ⟨j + 1, by rw [← hp]; push_cast; rfl, by omega, trivial⟩
      case measure => simp [intOf]; omega
    · obtain rfl : j = i := by omega
      have hl1 := HNi.out
      rw [e0] at hl1
      unfold leB at hl1
      obtain ⟨ad1', he1', hwi⟩ := R1.out j (by omega)
      obtain rfl : ad1 = ad1' := Option.some.inj he1'
      have hwi' := HBw.out _ _ hwi
      obtain ⟨z, hz⟩ : ∃ x, ws[j]'(by omega) = x := ⟨_, rfl⟩
      rw [hz] at hwi'
      have q1 := HD1.out
      have q2 := HD2.out
      rw [hz] at q1 q2
      rw [e0] at q2
      have e1 := run_fop (t := 36) q1
      have e2 := run_fop (t := 36) q2
      have e3 := run_fop (t := 36) HQ.out
      obtain ⟨ad3', ui, he3, hri, hrui⟩ := R3.out j (by omega)
      obtain rfl : ad3 = ad3' := Option.some.inj he3
      obtain ⟨ad3', up, he3', hrp, hrup⟩ := R3.out p.toNat (by omega)
      obtain rfl : ad3 = ad3' := Option.some.inj he3'
      have es : ss[p.toNat]'(by omega) = ss[j + 1]'(by omega) := by congr 1
      rw [es] at hrup
      have HRi := hid (HF.out _ _ hrui)
      have HRp := hid (HF.out _ _ hrup)
      have hri' := HBw.out _ _ hri
      have hrp' := HBw.out _ _ hrp
      have g6 : p < (ss.length : Int) := by omega
      have g7 : (j : Int) < (ss.length : Int) := by omega
      have g8 : (j : Int) < (ws.length : Int) := by omega
      clear hwp he1 hy e0 g5 hwi he1' hz q1 q2 he3 hri hrui he3' hrp hrup es
      have L4 : ∀ m : Later w2.heap.size w2, m.val.cell? (ad1.add j) = some (.float .f32 z) := fun m => (m.below.cell (World.block_lt_of_cell? w2 _ hwi')).trans hwi'
      have L5 : ∀ m : Later w2.heap.size w2, m.val.cell? (ad1.add p.toNat) = some (.float .f32 y) := fun m => (m.below.cell (World.block_lt_of_cell? w2 _ hwp')).trans hwp'
      have L6 : ∀ m : Later w2.heap.size w2, m.val.cell? (ad3.add j) = some ui := fun m => (m.below.cell (World.block_lt_of_cell? w2 _ hri')).trans hri'
      have L7 : ∀ m : Later w2.heap.size w2, m.val.cell? (ad3.add p.toNat) = some up := fun m => (m.below.cell (World.block_lt_of_cell? w2 _ hrp')).trans hrp'
      have C1 := hid (fun m : Later w2.heap.size w2 => (sRow HK1.out h24 a0 a1 AR.out (HI.out.below m.below) (HRi.out.below m.below)).mono fun e w' h => m.drawn h)
      have C2 := hid (fun m : Later w2.heap.size w2 => (sRow HK2.out h24 a0 a1 AR.out (HI.out.below m.below) (HRp.out.below m.below)).mono fun e w' h => m.drawn h)
      have C3 := hid (fun m : Later w2.heap.size w2 => (sMixC HM.out m.val).mono fun e w' h => m.same h)
      go_wp2
      refine wp_region_later w2.heap.size (by kernel_rfl) (by kernel_rfl) ?_
      repeat (quiet_step (fail))
      refine wpQuiet_nil ?_
      intro m2
      go_wp2
      refine wp_region_on m2 (by kernel_rfl) (by kernel_rfl) ?_
      repeat (quiet_step (first | (go_at_call_of 47 ui; exact C1.out _) | (go_at_call_of 47 up; exact C2.out _) | (go_at_call_of 48 q; exact C3.out _)))
      refine wpQuiet_nil ?_
      intro mq
      go_wp2
      go_ret2
      exact ⟨rfl, HB2.out.trans (mq.below.mono HB2.out.size)⟩

theorem sSpeedAt {w : World} {v : Value} {ws : List Nat} {an : List Int} {ss : List (List Nat)} {wind : Nat} {angle : Int} {r : Nat} (hr : AllOk ws an ss wind angle → SpR ws an ss wind angle r) (h : RdP w v ws an ss) :
    Calls Try.prog 18 #[v, .float .f32 wind, .int .i64 angle] w fun e w' => (∃ x b, e = .returned (.tuple #[.float .f32 x, .bool b]) ∧ SpAns (AllOk ws an ss wind angle) r x b) ∧ Below w.heap.size w w' := by
  by_cases hA : AllOk ws an ss wind angle
  · have hsl := hA.1.sl
    obtain ⟨n, hn, hs, hr⟩ := hr hA
    have fin : ∀ (e : Ending) (w' : World), e = .returned (.tuple #[.float .f32 r, .bool true]) ∧ Below w.heap.size w w' → (∃ x b, e = .returned (.tuple #[.float .f32 x, .bool b]) ∧ SpAns (AllOk ws an ss wind angle) r x b) ∧ Below w.heap.size w w' := fun e w' ⟨he, hb⟩ => ⟨⟨r, true, he, .inl ⟨hA, rfl, rfl⟩⟩, hb⟩
    rcases hr with ⟨h1, q, k, s, h2, h3, h4⟩ | ⟨h1, h2, k, h3⟩ | ⟨h1, h2, i, hi, h3, h4, d1, d2, q, k1, s, k2, t, h5, h6, h7, h8, h9, h10⟩
    · exact (sSpeed1 hA (by omega) (by omega) h1 h2 h3 h4 h).mono fin
    · exact (sSpeed2 hA (by omega) (by omega) hn (by omega) (by omega) h1 h2 h3 h).mono fin
    · exact (sSpeed3 hA (by omega) (by omega) hn (by omega) h1 h2 (by omega) (by omega) (by omega) hi h3 h4 h5 h6 h7 h8 h9 h10 h).mono fin
  · exact (sSpeedNo hA h).mono fun e w' ⟨he, hb⟩ => ⟨⟨0, false, he, .inr ⟨hA, rfl, rfl⟩⟩, hb⟩
end Go.Proofs.Ytgjfpclpnobggaa
