/- Regions that draw their order and whose calls make memory: what was there stays. -/
import Derived.Test.YtgjfpclpnobggaaQd
namespace Go.Proofs.Ytgjfpclpnobggaa
open Go.Shelf Go.RowKit

/-- a world that comes later: what lay below B lies there still -/
structure Later (B : Nat) (w : World) where
  val : World
  below : Below B w val
instance {B : Nat} {w : World} : Nonempty (Later B w) := ⟨⟨w, Below.refl B w⟩⟩
theorem wp_region_on {P : Program} {id : Nat} {Q : Exit → Act → World → Prop} {a : Act} {B : Nat} {w : World} {l : List Oper} (m0 : Later B w) (hm : P.follows .mixedOrders = true) (hB : Region.lexB .any l.toArray = true)
    (h : wpQuiet P l.toArray (fun w' => ∃ m : Later B w, w' = m.val) (fun a' => ∀ m : Later B w, Q .normal a' m.val) l a) : (Code.region id l.toArray true).wp P Q a m0.val :=
  wp_region_quiet (C := fun w' => ∃ m : Later B w, w' = m.val) hm hB ⟨⟨m0.val.drew, m0.below.drew⟩, rfl⟩ (by
    have e : (fun a' : Act => ∀ w', (∃ m : Later B w, w' = m.val) → Q .normal a' w') = (fun a' => ∀ m : Later B w, Q .normal a' m.val) := by
      funext a'
      apply propext
      exact ⟨fun h m => h _ ⟨m, rfl⟩, fun h w' ⟨m, hm⟩ => hm ▸ h m⟩
    rw [e]
    simpa using h)
theorem wp_region_later {P : Program} {id : Nat} {Q : Exit → Act → World → Prop} {a : Act} {w : World} {l : List Oper} (B : Nat) (hm : P.follows .mixedOrders = true) (hB : Region.lexB .any l.toArray = true)
    (h : wpQuiet P l.toArray (fun w' => ∃ m : Later B w, w' = m.val) (fun a' => ∀ m : Later B w, Q .normal a' m.val) l a) : (Code.region id l.toArray true).wp P Q a w :=
  wp_region_on (⟨w, Below.refl B w⟩ : Later B w) hm hB h
theorem Later.on {w : World} (m : Later w.heap.size w) {w' : World} {e : Ending} {v : Value} (h : e = .returned v ∧ Below m.val.heap.size m.val w') : e = .returned v ∧ ∃ m' : Later w.heap.size w, w' = m'.val :=
  ⟨h.1, ⟨w', m.below.trans (h.2.mono m.below.size)⟩, rfl⟩
theorem Later.same {w : World} (m : Later w.heap.size w) {w' : World} {e : Ending} {v : Value} (h : e = .returned v ∧ m.val = w') : e = .returned v ∧ ∃ m' : Later w.heap.size w, w' = m'.val :=
  ⟨h.1, m, h.2.symm⟩
theorem Later.drawn {w : World} (m : Later w.heap.size w) {w' : World} {e : Ending} {v : Value} (h : e = .returned v ∧ ∃ n, w' = m.val.drewN n) : e = .returned v ∧ ∃ m' : Later w.heap.size w, w' = m'.val := by
  obtain ⟨h1, n, h2⟩ := h
  exact ⟨h1, ⟨w', h2 ▸ below_drewN m.below n⟩, rfl⟩

set_option maxHeartbeats 1000000 in
set_option maxRecDepth 100000 in
theorem iSpeedAt1 {w : World} {v : Value} {ws : List Nat} {an : List Int} {ss : List (List Nat)} {wind : Nat} {angle : Int} {q k s r : Nat} (hP : PolOk ws an ss) (ha0 : 0 ≤ angle) (ha1 : angle ≤ 180) (h0 : 0 < ws.length) (hs0 : 0 < ss.length)
    (hle : leB wind ws[0] = true) (hq : floatBits .quo .f32 wind ws[0] = some q) (hk : RowR an ss[0] angle k s) (hr : floatBits .mul .f32 q s = some r) (h : RdP w v ws an ss) :
    Calls Try.prog 46 #[v, .float .f32 wind, .int .i64 angle] w fun e w' => e = .returned (.float .f32 r) ∧ Below w.heap.size w w' := by
  have H := hid h
  obtain ⟨a, b, c, rfl, h1, h2, h3⟩ := h
  obtain ⟨_, A1, c1, rfl, r1⟩ := h1
  obtain ⟨_, A3, c3, rfl, r3⟩ := h3
  have PO := hid hP
  have R1 := hid r1
  have R3 := hid r3
  have AR := hid (an_range PO.out)
  have h24 := PO.out.a24
  have h12 := PO.out.w12
  clear r1 r3 hP h2
  obtain ⟨ad1, rfl, hw0⟩ := R1.out 0 h0
  obtain ⟨ad3, u0, rfl, hrow, hru⟩ := R3.out 0 hs0
  obtain ⟨x0, hx0⟩ : ∃ x, ws[0] = x := ⟨_, rfl⟩
  have h0' : (0 : Int) < (ws.length : Int) := by omega
  have hs0' : (0 : Int) < (ss.length : Int) := by omega
  rw [hx0] at hw0 hle
  rw [show ad1.add 0 = ad1 by unfold Addr.add; simp] at hw0
  rw [show ad3.add 0 = ad3 by unfold Addr.add; simp] at hrow
  have hb := (Below.refl w.heap.size w).alloc (Nat.le_refl _) (.cells #[.slice (some ad1) ws.length c1, b, .slice (some ad3) ss.length c3] 29)
  have hT : Tri _ _ _ _ _ := heap_alloc_new w (.cells #[.slice (some ad1) ws.length c1, b, .slice (some ad3) ss.length c3] 29)
  have HT := hid hT
  have HB := hid hb
  have HP := hid (H.out.below hb)
  have hw0' := (hb.cell (World.block_lt_of_cell? w _ hw0)).trans hw0
  unfold leB at hle
  rw [hx0] at hq
  have HR := hid hru
  have HRw := hid (HR.out.below hb)
  have hrow' := (hb.cell (World.block_lt_of_cell? w _ hrow)).trans hrow
  clear hb hT hw0 hrow hru
  have HK := hid hk
  have e1 := run_fop (t := 36) hq
  have e2 := run_fop (t := 36) hr
  clear hq hr hk hx0
  go_enter Try.func46, Try.ntmps46
  go_wp2
  generalize w.alloc (.cells #[.slice (some ad1) ws.length c1, b, .slice (some ad3) ss.length c3] 29) = w1 at HT HP HRw HB hw0' hrow' ⊢
  have L1 : ∀ m : Later w1.heap.size w1, m.val.cell? ⟨w.heap.size, 0, none⟩ = some (.slice (some ad1) ws.length c1) := fun m => (HT.out.keep m.below).facts.1.1
  have L2 : ∀ m : Later w1.heap.size w1, m.val.cell? ⟨w.heap.size, 1, none⟩ = some b := fun m => (HT.out.keep m.below).facts.1.2.1
  have L3 : ∀ m : Later w1.heap.size w1, m.val.cell? ⟨w.heap.size, 2, none⟩ = some (.slice (some ad3) ss.length c3) := fun m => (HT.out.keep m.below).facts.1.2.2
  have L4 : ∀ m : Later w1.heap.size w1, m.val.cell? ad1 = some (.float .f32 x0) := fun m => (m.below.cell (World.block_lt_of_cell? w1 _ hw0')).trans hw0'
  have L5 : ∀ m : Later w1.heap.size w1, m.val.cell? ad3 = some u0 := fun m => (m.below.cell (World.block_lt_of_cell? w1 _ hrow')).trans hrow'
  refine wp_region_later w1.heap.size (by kernel_rfl) (by kernel_rfl) ?_
  repeat (quiet_step ((rename_i m; exact (iRow HK.out h24 ha0 ha1 AR.out (HP.out.below m.below) (HRw.out.below m.below)).mono fun e w' h => m.on h)))
  refine wpQuiet_nil ?_
  intro mq
  go_wp2
  go_ret
  exact ⟨rfl, HB.out.trans (mq.below.mono HB.out.size)⟩

set_option maxHeartbeats 1000000 in
set_option maxRecDepth 100000 in
theorem iSpeedAt2 {w : World} {v : Value} {ws : List Nat} {an : List Int} {ss : List (List Nat)} {wind : Nat} {angle : Int} {n k r : Nat} (hP : PolOk ws an ss) (ha0 : 0 ≤ angle) (ha1 : angle ≤ 180) (h0 : 0 < ws.length) (hs0 : 0 < ss.length)
    (hn : n + 1 = ws.length) (hnw : n < ws.length) (hns : n < ss.length) (hle : leB wind ws[0] = false) (hge : geB wind ws[n] = true) (hk : RowR an ss[n] angle k r) (h : RdP w v ws an ss) :
    Calls Try.prog 46 #[v, .float .f32 wind, .int .i64 angle] w fun e w' => e = .returned (.float .f32 r) ∧ Below w.heap.size w w' := by
  have H := hid h
  obtain ⟨a, b, c, rfl, h1, h2, h3⟩ := h
  obtain ⟨_, A1, c1, rfl, r1⟩ := h1
  obtain ⟨_, A3, c3, rfl, r3⟩ := h3
  have PO := hid hP
  have R1 := hid r1
  have R3 := hid r3
  have AR := hid (an_range PO.out)
  have h24 := PO.out.a24
  have h12 := PO.out.w12
  clear r1 r3 hP h2
  obtain ⟨ad1, rfl, hw0⟩ := R1.out 0 h0
  obtain ⟨ad3, u0, rfl, hrow, hru⟩ := R3.out 0 hs0
  obtain ⟨x0, hx0⟩ : ∃ x, ws[0] = x := ⟨_, rfl⟩
  have h0' : (0 : Int) < (ws.length : Int) := by omega
  have hs0' : (0 : Int) < (ss.length : Int) := by omega
  rw [hx0] at hw0 hle
  rw [show ad1.add 0 = ad1 by unfold Addr.add; simp] at hw0
  rw [show ad3.add 0 = ad3 by unfold Addr.add; simp] at hrow
  have hb := (Below.refl w.heap.size w).alloc (Nat.le_refl _) (.cells #[.slice (some ad1) ws.length c1, b, .slice (some ad3) ss.length c3] 29)
  have hT : Tri _ _ _ _ _ := heap_alloc_new w (.cells #[.slice (some ad1) ws.length c1, b, .slice (some ad3) ss.length c3] 29)
  have HT := hid hT
  have HB := hid hb
  have HP := hid (H.out.below hb)
  have hw0' := (hb.cell (World.block_lt_of_cell? w _ hw0)).trans hw0
  unfold leB at hle
  clear hru hrow
  obtain ⟨ad1', he1, hwn⟩ := R1.out n (by omega)
  obtain rfl : ad1 = ad1' := Option.some.inj he1
  obtain ⟨ad3', un, he3, hrow, hru⟩ := R3.out n (by omega)
  obtain rfl : ad3 = ad3' := Option.some.inj he3
  obtain ⟨xn, hxn⟩ : ∃ x, ws[n] = x := ⟨_, rfl⟩
  rw [hxn] at hwn hge
  unfold geB at hge
  have HR := hid hru
  have HRw := hid (HR.out.below hb)
  have hwn' := (hb.cell (World.block_lt_of_cell? w _ hwn)).trans hwn
  have hrow' := (hb.cell (World.block_lt_of_cell? w _ hrow)).trans hrow
  have p1 : (ws.length : Int) - 1 = (n : Int) := by omega
  have p2 : (n : Int) < (ws.length : Int) := by omega
  have p3 : (n : Int) < (ss.length : Int) := by omega
  clear hb hT hw0 hwn hrow hru hx0 hxn he1 he3 hn
  have HK := hid hk
  clear hk
  go_enter Try.func46, Try.ntmps46
  go_wp2
  generalize w.alloc (.cells #[.slice (some ad1) ws.length c1, b, .slice (some ad3) ss.length c3] 29) = w1 at HT HP HRw HB hw0' hwn' hrow' ⊢
  have L1 : ∀ m : Later w1.heap.size w1, m.val.cell? ⟨w.heap.size, 0, none⟩ = some (.slice (some ad1) ws.length c1) := fun m => (HT.out.keep m.below).facts.1.1
  have L2 : ∀ m : Later w1.heap.size w1, m.val.cell? ⟨w.heap.size, 1, none⟩ = some b := fun m => (HT.out.keep m.below).facts.1.2.1
  have L3 : ∀ m : Later w1.heap.size w1, m.val.cell? ⟨w.heap.size, 2, none⟩ = some (.slice (some ad3) ss.length c3) := fun m => (HT.out.keep m.below).facts.1.2.2
  have L4 : ∀ m : Later w1.heap.size w1, m.val.cell? (ad1.add n) = some (.float .f32 xn) := fun m => (m.below.cell (World.block_lt_of_cell? w1 _ hwn')).trans hwn'
  have L5 : ∀ m : Later w1.heap.size w1, m.val.cell? (ad3.add n) = some un := fun m => (m.below.cell (World.block_lt_of_cell? w1 _ hrow')).trans hrow'
  refine wp_region_later w1.heap.size (by kernel_rfl) (by kernel_rfl) ?_
  repeat (quiet_step ((rename_i m; exact (iRow HK.out h24 ha0 ha1 AR.out (HP.out.below m.below) (HRw.out.below m.below)).mono fun e w' h => m.on h)))
  refine wpQuiet_nil ?_
  intro mq
  go_wp2
  go_ret
  exact ⟨rfl, HB.out.trans (mq.below.mono HB.out.size)⟩

set_option maxHeartbeats 1000000 in
set_option maxRecDepth 100000 in
theorem iSpeedAt3 {w : World} {v : Value} {ws : List Nat} {an : List Int} {ss : List (List Nat)} {wind : Nat} {angle : Int} {n i d1 d2 q k1 s k2 t r : Nat} (hP : PolOk ws an ss) (ha0 : 0 ≤ angle) (ha1 : angle ≤ 180) (h0 : 0 < ws.length) (hs0 : 0 < ss.length)
    (hn : n + 1 = ws.length) (hnw : n < ws.length) (hle : leB wind ws[0] = false) (hge : geB wind ws[n] = false) (hiw : i < ws.length) (his : i < ss.length) (his1 : i + 1 < ss.length) (hi : i + 1 < ws.length) (hup : ∀ j (hj : j + 1 < ws.length), j < i → leB ws[j + 1] wind = true) (hni : leB ws[i + 1] wind = false)
    (hd1 : floatBits .sub .f32 wind ws[i] = some d1) (hd2 : floatBits .sub .f32 ws[i + 1] ws[i] = some d2) (hq : floatBits .quo .f32 d1 d2 = some q) (hk1 : RowR an ss[i] angle k1 s) (hk2 : RowR an ss[i + 1] angle k2 t) (hm : Mix s t q r) (h : RdP w v ws an ss) :
    Calls Try.prog 46 #[v, .float .f32 wind, .int .i64 angle] w fun e w' => e = .returned (.float .f32 r) ∧ Below w.heap.size w w' := by
  have H := hid h
  obtain ⟨a, b, c, rfl, h1, h2, h3⟩ := h
  obtain ⟨_, A1, c1, rfl, r1⟩ := h1
  obtain ⟨_, A3, c3, rfl, r3⟩ := h3
  have PO := hid hP
  have R1 := hid r1
  have R3 := hid r3
  have AR := hid (an_range PO.out)
  have h24 := PO.out.a24
  have h12 := PO.out.w12
  clear r1 r3 hP h2
  obtain ⟨ad1, rfl, hw0⟩ := R1.out 0 h0
  obtain ⟨ad3, u0, rfl, hrow, hru⟩ := R3.out 0 hs0
  obtain ⟨x0, hx0⟩ : ∃ x, ws[0] = x := ⟨_, rfl⟩
  have h0' : (0 : Int) < (ws.length : Int) := by omega
  have hs0' : (0 : Int) < (ss.length : Int) := by omega
  rw [hx0] at hw0 hle
  rw [show ad1.add 0 = ad1 by unfold Addr.add; simp] at hw0
  rw [show ad3.add 0 = ad3 by unfold Addr.add; simp] at hrow
  have hb := (Below.refl w.heap.size w).alloc (Nat.le_refl _) (.cells #[.slice (some ad1) ws.length c1, b, .slice (some ad3) ss.length c3] 29)
  have hT : Tri _ _ _ _ _ := heap_alloc_new w (.cells #[.slice (some ad1) ws.length c1, b, .slice (some ad3) ss.length c3] 29)
  have HT := hid hT
  have HB := hid hb
  have HP := hid (H.out.below hb)
  have hw0' := (hb.cell (World.block_lt_of_cell? w _ hw0)).trans hw0
  unfold leB at hle
  clear hru hrow
  obtain ⟨ad1', he1, hwn⟩ := R1.out n (by omega)
  obtain rfl : ad1 = ad1' := Option.some.inj he1
  obtain ⟨xn, hxn⟩ : ∃ x, ws[n] = x := ⟨_, rfl⟩
  rw [hxn] at hwn hge
  unfold geB at hge
  have hwn' := (hb.cell (World.block_lt_of_cell? w _ hwn)).trans hwn
  have p1 : (ws.length : Int) - 1 = (n : Int) := by omega
  have p2 : (n : Int) < (ws.length : Int) := by omega
  clear hw0 hwn hx0 hxn he1
  have HUp := hid hup
  have HNi := hid hni
  have HK1 := hid hk1
  have HK2 := hid hk2
  have HM := hid hm
  have HD1 := hid hd1
  have HD2 := hid hd2
  have HQ := hid hq
  have HBe := hid hb
  clear hup hni hk1 hk2 hm hd1 hd2 hq hb hT hn
  go_enter Try.func46, Try.ntmps46
  go_wp2
  generalize w.alloc (.cells #[.slice (some ad1) ws.length c1, b, .slice (some ad3) ss.length c3] 29) = w1 at HT HP HBe HB hw0' hwn' ⊢
  have L1 : ∀ m : Later w1.heap.size w1, m.val.cell? ⟨w.heap.size, 0, none⟩ = some (.slice (some ad1) ws.length c1) := fun m => (HT.out.keep m.below).facts.1.1
  have L2 : ∀ m : Later w1.heap.size w1, m.val.cell? ⟨w.heap.size, 1, none⟩ = some b := fun m => (HT.out.keep m.below).facts.1.2.1
  have L3 : ∀ m : Later w1.heap.size w1, m.val.cell? ⟨w.heap.size, 2, none⟩ = some (.slice (some ad3) ss.length c3) := fun m => (HT.out.keep m.below).facts.1.2.2
  go_loopw [8] (fun iv wr => ∃ j : Nat, iv = .int .i64 j ∧ j ≤ i ∧ w1 = wr) (fun iv _ => 13 - (intOf iv).toNat)
  case atStart => exact ⟨0, rfl, by omega, rfl⟩
  case round =>
    obtain ⟨j, rfl, hj, rfl⟩ := hrel
    obtain ⟨⟨x1, x2, x3⟩, _⟩ := HT.out.facts
    obtain ⟨p, hp⟩ : ∃ p, (j : Int) + 1 = p := ⟨_, rfl⟩
    have g1 : IntKind.i64.wrap p = p := by rw [IntKind.wrap_i64]; omega
    have g2 : wrap64 p = p := by unfold wrap64; omega
    have g3 : 0 ≤ p := by omega
    have g4 : p < (ws.length : Int) := by omega
    have g5 : p.toNat = j + 1 := by omega
    obtain ⟨ad1', he1, hwp⟩ := R1.out p.toNat (by omega)
    obtain rfl : ad1 = ad1' := Option.some.inj he1
    have hwp' := (HBe.out.cell (World.block_lt_of_cell? w _ hwp)).trans hwp
    obtain ⟨y, hy⟩ : ∃ x, ws[p.toNat]'(by omega) = x := ⟨_, rfl⟩
    have e0 : ws[j + 1]'(by omega) = y := by rw [← hy]; congr 1; omega
    rw [hy] at hwp'
    by_cases hji : j < i
    · have hl1 := HUp.out j (by omega) hji
      rw [e0] at hl1
      unfold leB at hl1
      clear hwp he1 hy e0 g5
      go_wp2
      go_roundw
      case rel => exact ⟨j + 1, by rw [← hp]; push_cast; rfl, by omega, trivial⟩
      case measure => simp [intOf]; omega
    · obtain rfl : j = i := by omega
      have hl1 := HNi.out
      rw [e0] at hl1
      unfold leB at hl1
      obtain ⟨ad1', he1', hwi⟩ := R1.out j (by omega)
      obtain rfl : ad1 = ad1' := Option.some.inj he1'
      have hwi' := (HBe.out.cell (World.block_lt_of_cell? w _ hwi)).trans hwi
      obtain ⟨z, hz⟩ : ∃ x, ws[j]'(by omega) = x := ⟨_, rfl⟩
      rw [hz] at hwi'
      have q1 := HD1.out
      have q2 := HD2.out
      rw [hz] at q1 q2
      rw [e0] at q2
      have e1 := run_fop (t := 36) q1
      have e2 := run_fop (t := 36) q2
      have e3 := run_fop (t := 36) HQ.out
      obtain ⟨ad3', ui, he3, hri, hrui⟩ := R3.out j (by omega)
      obtain rfl : ad3 = ad3' := Option.some.inj he3
      obtain ⟨ad3', up, he3', hrp, hrup⟩ := R3.out p.toNat (by omega)
      obtain rfl : ad3 = ad3' := Option.some.inj he3'
      have es : ss[p.toNat]'(by omega) = ss[j + 1]'(by omega) := by congr 1
      rw [es] at hrup
      have HRi := hid (hrui.below HBe.out)
      have HRp := hid (hrup.below HBe.out)
      have hri' := (HBe.out.cell (World.block_lt_of_cell? w _ hri)).trans hri
      have hrp' := (HBe.out.cell (World.block_lt_of_cell? w _ hrp)).trans hrp
      have g6 : p < (ss.length : Int) := by omega
      have g7 : (j : Int) < (ss.length : Int) := by omega
      have g8 : (j : Int) < (ws.length : Int) := by omega
      clear hwp he1 hy e0 g5 hwi he1' hz q1 q2 he3 hri hrui he3' hrp hrup es
      have L4 : ∀ m : Later w1.heap.size w1, m.val.cell? (ad1.add j) = some (.float .f32 z) := fun m => (m.below.cell (World.block_lt_of_cell? w1 _ hwi')).trans hwi'
      have L5 : ∀ m : Later w1.heap.size w1, m.val.cell? (ad1.add p.toNat) = some (.float .f32 y) := fun m => (m.below.cell (World.block_lt_of_cell? w1 _ hwp')).trans hwp'
      have L6 : ∀ m : Later w1.heap.size w1, m.val.cell? (ad3.add j) = some ui := fun m => (m.below.cell (World.block_lt_of_cell? w1 _ hri')).trans hri'
      have L7 : ∀ m : Later w1.heap.size w1, m.val.cell? (ad3.add p.toNat) = some up := fun m => (m.below.cell (World.block_lt_of_cell? w1 _ hrp')).trans hrp'
      have C1 := hid (fun m : Later w1.heap.size w1 => (iRow HK1.out h24 ha0 ha1 AR.out (HP.out.below m.below) (HRi.out.below m.below)).mono fun e w' h => m.on h)
      have C2 := hid (fun m : Later w1.heap.size w1 => (iRow HK2.out h24 ha0 ha1 AR.out (HP.out.below m.below) (HRp.out.below m.below)).mono fun e w' h => m.on h)
      have C3 := hid (fun m : Later w1.heap.size w1 => (iBetween HM.out m.val).mono fun e w' h => m.same h)
      go_wp2
      refine wp_region_later w1.heap.size (by kernel_rfl) (by kernel_rfl) ?_
      repeat (quiet_step (fail))
      refine wpQuiet_nil ?_
      intro m2
      go_wp2
      refine wp_region_on m2 (by kernel_rfl) (by kernel_rfl) ?_
      repeat (quiet_step (first | (go_at_call_of 69 ui; exact C1.out _) | (go_at_call_of 69 up; exact C2.out _) | (go_at_call_of 70 q; exact C3.out _)))
      refine wpQuiet_nil ?_
      intro mq
      go_wp2
      go_ret
      exact ⟨rfl, HB.out.trans (mq.below.mono HB.out.size)⟩
end Go.Proofs.Ytgjfpclpnobggaa
