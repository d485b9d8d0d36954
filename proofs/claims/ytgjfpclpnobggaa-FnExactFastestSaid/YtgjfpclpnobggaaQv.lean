/- MadeUp of both sides. -/
import Derived.Test.YtgjfpclpnobggaaQu
import Derived.Test.YtgjfpclpnobggaaQh
namespace Go.Proofs.Ytgjfpclpnobggaa
open Go.Shelf Go.RowKit

/-- a speed times the real part of a turn -/
def UpR (j r m : Nat) : Prop := ∃ n, (∀ w : World, (convert 40 36 (.float .f64 (turnA j))).run Try.prog w = .ok (.float .f32 n) w) ∧ floatBits .mul .f32 r n = some m
theorem up_ok {j r : Nat} (hj : j < 360) (hr : Bd 26 r) : ∃ m, UpR j r m ∧ Bd 27 m := by
  obtain ⟨n, hn, hc⟩ := turn_narrow hj
  obtain ⟨m, hm, bm⟩ := mul_bd hr hn (by omega) (by omega)
  exact ⟨m, ⟨n, hc, hm⟩, bm⟩
theorem mu_any (ws : List Nat) (an : List Int) (ss : List (List Nat)) (wind : Nat) (angle : Int) : ∃ r m, (AllOk ws an ss wind angle → SpR ws an ss wind angle r ∧ UpR angle.toNat r m) ∧ Fnt .f32 m := by
  by_cases h : AllOk ws an ss wind angle
  · obtain ⟨r, h1, h2⟩ := sp_ok h.1 h.2.1 h.2.2.1 h.2.2.2
    have := h.2.2
    obtain ⟨m, h3, h4⟩ := up_ok (j := angle.toNat) (by omega) h2
    exact ⟨r, m, fun _ => ⟨h1, h3⟩, h4.1⟩
  · exact ⟨0, 0, fun g => absurd g h, c_zero.1⟩

set_option maxHeartbeats 1000000 in
set_option maxRecDepth 100000 in
theorem iUp {w : World} {v : Value} {ws : List Nat} {an : List Int} {ss : List (List Nat)} {wind : Nat} {angle : Int} {r j q m : Nat} (hA : AllOk ws an ss wind angle) (hr : SpR ws an ss wind angle r) (hu : UpR j r m) (h : RdP w v ws an ss) :
    Calls Try.prog 62 #[v, .float .f32 wind, .int .i64 angle, .complex .f64 (turnA j) q] w fun e w' => e = .returned (.float .f32 m) ∧ Below w.heap.size w w' := by
  have H := hid h
  have HA := hid hA
  have HR := hid hr
  clear hr hA
  obtain ⟨n, hc, hm⟩ := hu
  have e1 := run_fop (t := 36) hm
  clear hm
  obtain ⟨A1, c1, A2, c2, A3, c3, rfl⟩ := h.shape
  have hb := (Below.refl w.heap.size w).alloc (Nat.le_refl _) (.cells #[.slice A1 ws.length c1, .slice A2 an.length c2, .slice A3 ss.length c3] 29)
  have HB := hid hb
  have HP := hid (H.out.below hb)
  clear hb h
  generalize turnA j = z at hc
  go_enter Try.func62, Try.ntmps62
  go_wp2_with fail
  generalize w.alloc (.cells #[.slice A1 ws.length c1, .slice A2 an.length c2, .slice A3 ss.length c3] 29) = w1 at HB HP ⊢
  refine (iSpeedIn HA.out HR.out HP.out).mono ?_
  rintro e w2 ⟨rfl, hb2⟩
  have HB2 := hid (HB.out.trans (hb2.mono HB.out.size))
  go_wp2
  go_ret
  exact ⟨rfl, HB2.out⟩

set_option maxHeartbeats 1000000 in
set_option maxRecDepth 100000 in
theorem iMadeUp {w : World} {v : Value} {ws : List Nat} {an : List Int} {ss : List (List Nat)} {wind : Nat} {angle : Int} {r m : Nat} (hS : ∀ r ∈ ss, r.length ≤ 1048576) (hr : AllOk ws an ss wind angle → SpR ws an ss wind angle r ∧ UpR angle.toNat r m) (h : RdP w v ws an ss) :
    Calls Try.prog 27 #[v, .float .f32 wind, .int .i64 angle] w fun e w' => (∃ x b, e = .returned (.tuple #[.float .f32 x, .bool b]) ∧ SpAns (AllOk ws an ss wind angle) m x b) ∧ Below w.heap.size w w' := by
  have H := hid h
  have HR := hid hr
  have HSm := hid hS
  clear hr hS
  obtain ⟨A1, c1, A2, c2, A3, c3, rfl⟩ := h.shape
  have hb := (Below.refl w.heap.size w).alloc (Nat.le_refl _) (.cells #[.slice A1 ws.length c1, .slice A2 an.length c2, .slice A3 ss.length c3] 29)
  have hT : Tri _ _ _ _ _ := heap_alloc_new w (.cells #[.slice A1 ws.length c1, .slice A2 an.length c2, .slice A3 ss.length c3] 29)
  have HT := hid hT
  have HB := hid hb
  have HP := hid (H.out.below hb)
  clear hb hT h
  go_enter Try.func27, Try.ntmps27
  go_wp2_with fail
  generalize w.alloc (.cells #[.slice A1 ws.length c1, .slice A2 an.length c2, .slice A3 ss.length c3] 29) = w1 at HT HB HP ⊢
  refine (iSpeedAt HSm.out (fun h => (HR.out h).1) HP.out).mono ?_
  rintro e w2 ⟨⟨x, b, rfl, hx⟩, hb2⟩
  have HX := hid hx
  have HT2 := hid (HT.out.keep hb2)
  have HB2 := hid (HB.out.trans (hb2.mono HB.out.size))
  have HP2 := hid (HP.out.below hb2)
  clear hx hb2
  cases b
  · have HN := hid (show ¬ AllOk ws an ss wind angle from by rcases HX.out with ⟨_, _, h⟩ | ⟨h, _, _⟩ <;> first | exact h | cases h)
    go_wp2
    go_ret2
    exact ⟨sp_no HN.out, HB2.out⟩
  · have hA : AllOk ws an ss wind angle := by rcases HX.out with ⟨h, _, _⟩ | ⟨_, _, h⟩ <;> first | exact h | cases h
    have HA := hid hA
    have hR := HR.out hA
    have L1 : ∀ m : Later w2.heap.size w2, m.val.cell? ⟨w.heap.size, 0, none⟩ = some (.slice A1 ws.length c1) := fun m => (HT2.out.keep m.below).facts.1.1
    have L2 : ∀ m : Later w2.heap.size w2, m.val.cell? ⟨w.heap.size, 1, none⟩ = some (.slice A2 an.length c2) := fun m => (HT2.out.keep m.below).facts.1.2.1
    have L3 : ∀ m : Later w2.heap.size w2, m.val.cell? ⟨w.heap.size, 2, none⟩ = some (.slice A3 ss.length c3) := fun m => (HT2.out.keep m.below).facts.1.2.2
    have C1 := hid (fun m : Later w2.heap.size w2 => (iTurnT hA.2.2.1 (by have := hA.2.2.2; omega) m.val).mono fun e w' h => m.same h)
    have C2 := hid (fun m : Later w2.heap.size w2 => (iUp (q := turnB angle.toNat) hA hR.1 hR.2 (HP2.out.below m.below)).mono fun e w' h => m.on h)
    clear hA hR
    go_wp2_with fail
    refine wp_region_later w2.heap.size (by kernel_rfl) (by kernel_rfl) ?_
    repeat (quiet_step (first | (go_at_call 63; exact C1.out _) | (go_at_call 62; exact C2.out _)))
    refine wpQuiet_nil ?_
    intro mq
    go_wp2
    go_ret2
    exact ⟨sp_yes HA.out, HB2.out.trans (mq.below.mono HB2.out.size)⟩

set_option maxHeartbeats 1000000 in
set_option maxRecDepth 100000 in
theorem sMadeUp {w : World} {v : Value} {ws : List Nat} {an : List Int} {ss : List (List Nat)} {wind : Nat} {angle : Int} {r m : Nat} (hr : AllOk ws an ss wind angle → SpR ws an ss wind angle r ∧ UpR angle.toNat r m) (h : RdP w v ws an ss) :
    Calls Try.prog 26 #[v, .float .f32 wind, .int .i64 angle] w fun e w' => (∃ x b, e = .returned (.tuple #[.float .f32 x, .bool b]) ∧ SpAns (AllOk ws an ss wind angle) m x b) ∧ Below w.heap.size w w' := by
  have H := hid h
  have HR := hid hr
  clear hr
  obtain ⟨A1, c1, A2, c2, A3, c3, rfl⟩ := h.shape
  have hb := (Below.refl w.heap.size w).alloc (Nat.le_refl _) (.cells #[.slice A1 ws.length c1, .slice A2 an.length c2, .slice A3 ss.length c3] 29)
  have HB := hid hb
  have HP := hid (H.out.below hb)
  clear hb h
  go_enter Try.func26, Try.ntmps26
  go_wp2_with fail
  generalize w.alloc (.cells #[.slice A1 ws.length c1, .slice A2 an.length c2, .slice A3 ss.length c3] 29) = w1 at HB HP ⊢
  refine (sSpeedAt (fun h => (HR.out h).1) HP.out).mono ?_
  rintro e w2 ⟨⟨x, b, rfl, hx⟩, hb2⟩
  have HX := hid hx
  have HB2 := hid (HB.out.trans (hb2.mono HB.out.size))
  clear hx hb2
  cases b
  · have HN := hid (show ¬ AllOk ws an ss wind angle from by rcases HX.out with ⟨_, _, h⟩ | ⟨h, _, _⟩ <;> first | exact h | cases h)
    go_wp2
    go_ret2
    exact ⟨sp_no HN.out, HB2.out⟩
  · have hA : AllOk ws an ss wind angle := by rcases HX.out with ⟨h, _, _⟩ | ⟨_, _, h⟩ <;> first | exact h | cases h
    have hxr : x = r := by rcases HX.out with ⟨_, h, _⟩ | ⟨_, _, h⟩ <;> first | exact h | cases h
    subst hxr
    have HA := hid hA
    obtain ⟨n, hc, hm⟩ := (HR.out hA).2
    have e1 := run_fop (t := 36) hm
    have C1 := hid (sTurnT hA.2.2.1 (by have := hA.2.2.2; omega) w2)
    generalize turnA angle.toNat = z at hc C1
    clear hm hA
    go_wp2_with (go_at_call 61; refine C1.out.mono ?_; rintro e w3 ⟨rfl, rfl⟩)
    go_ret2
    exact ⟨sp_yes HA.out, HB2.out⟩
end Go.Proofs.Ytgjfpclpnobggaa
