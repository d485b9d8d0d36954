/- The law FnPolarPoints. -/
import Derived.Test.YtgjfpclpnobggaaKg
import Derived.Test.YtgjfpclpnobggaaKh
namespace Go.Proofs.Ytgjfpclpnobggaa
open Go.Shelf Go.RowKit

section
variable {w : World} {A1 A2 A3 : Option Addr} {n1 n2 n3 c1 c2 c3 i : Nat} {ws : List Nat} {an : List Int} {ss : List (List Nat)}
theorem RdP.parts (h : RdP w (.agg #[.slice A1 n1 c1, .slice A2 n2 c2, .slice A3 n3 c3]) ws an ss) : RdF w (.slice A1 n1 c1) ws ∧ RdI w (.slice A2 n2 c2) an ∧ RdG w (.slice A3 n3 c3) ss := by
  obtain ⟨a, b, c, hv, h1, h2, h3⟩ := h
  injection hv with hv
  injection hv with hv
  injection hv with e1 hv
  injection hv with e2 hv
  injection hv with e3 hv
  subst e1; subst e2; subst e3
  exact ⟨h1, h2, h3⟩
theorem RdP.cell1 (h : RdP w (.agg #[.slice A1 n1 c1, .slice A2 n2 c2, .slice A3 n3 c3]) ws an ss) (hi : i < ws.length) : ∃ ad, A1 = some ad ∧ w.cell? (ad.add i) = some (.float .f32 ws[i]) := by
  obtain ⟨⟨_, A, c, hv, hc⟩, _, _⟩ := h.parts
  injection hv with e1 e2 e3
  subst e1
  exact hc i hi
theorem RdP.cell2 (h : RdP w (.agg #[.slice A1 n1 c1, .slice A2 n2 c2, .slice A3 n3 c3]) ws an ss) (hi : i < an.length) : ∃ ad, A2 = some ad ∧ w.cell? (ad.add i) = some (.int .i64 an[i]) := by
  obtain ⟨_, ⟨_, A, c, hv, hc⟩, _⟩ := h.parts
  injection hv with e1 e2 e3
  subst e1
  exact hc i hi
theorem RdP.cell3 (h : RdP w (.agg #[.slice A1 n1 c1, .slice A2 n2 c2, .slice A3 n3 c3]) ws an ss) (hi : i < ss.length) : ∃ ad u, A3 = some ad ∧ w.cell? (ad.add i) = some u ∧ RdF w u ss[i] := by
  obtain ⟨_, _, ⟨_, A, c, hv, hc⟩⟩ := h.parts
  injection hv with e1 e2 e3
  subst e1
  exact hc i hi
theorem speed_known {v : Value} {wind : Nat} {angle : Int} {r : Nat} (hS : ∀ r ∈ ss, r.length ≤ 1048576) (hA : AllOk ws an ss wind angle) (hr : SpR ws an ss wind angle r) (h : RdP w v ws an ss) :
    Calls Try.prog 17 #[v, .float .f32 wind, .int .i64 angle] w fun e w' => e = .returned (.tuple #[.float .f32 r, .bool true]) ∧ Below w.heap.size w w' :=
  (iSpeedAt hS (fun _ => hr) h).mono fun _ _ ⟨⟨x, b, he, hs⟩, hb⟩ => by
    rcases hs with ⟨_, rfl, rfl⟩ | ⟨hn, _⟩
    · exact ⟨he, hb⟩
    · exact absurd hA hn
theorem WindOk.isIn {x : Nat} (h : WindOk x) : WindIn x := by
  obtain ⟨h1, h2, h3⟩ := h.val
  exact ⟨(geB_val h1 c_zero.1).2 (by rw [c_zero.2]; grind), (leB_val h1 c100.1).2 (by rw [c100.2]; exact h3)⟩
end

set_option maxHeartbeats 4000000 in
set_option maxRecDepth 100000 in
theorem lawPolarPoints (A : Option Addr) (n c : Nat) (w : World) (hr : RdB w A n) :
    Calls Try.prog 4 #[.slice A n c] w fun e w' => e = .returned (.bool true) ∧ Below w.heap.size w w' := by
  have hn := hr.1
  by_cases hbig : n > 1048576
  · clear hr
    go_enter Try.func4, Try.ntmps4
    go_wp2
    go_ret
    exact ⟨rfl, Below.refl _ _⟩
  · go_enter Try.func4, Try.ntmps4
    go_wp2_with (go_at_call 15; go_in)
    refine (dPolarOk _ hr (Below.refl _ _)).mono ?_
    clear hr
    rintro e w1 ⟨v, rfl, ws, an, ss, hp, hS, hB⟩
    obtain ⟨A1, c1, A2, c2, A3, c3, rfl⟩ := hp.shape
    have hb0 := (Below.refl w1.heap.size w1).alloc (Nat.le_refl _) (.cells #[.slice A1 ws.length c1, .slice A2 an.length c2, .slice A3 ss.length c3] 29)
    have hT : Tri _ _ _ _ _ := heap_alloc_new w1 (.cells #[.slice A1 ws.length c1, .slice A2 an.length c2, .slice A3 ss.length c3] 29)
    have HT := hid hT
    have HB := hid (hB.trans (hb0.mono hB.size))
    have HP := hid (hp.below hb0)
    have HS := hid hS
    clear hB hb0 hT hp hS
    obtain ⟨⟨x1, x2, x3⟩, y1, y2, y3⟩ := HT.out.facts
    go_wp2_with fail
    generalize w1.alloc (.cells #[.slice A1 ws.length c1, .slice A2 an.length c2, .slice A3 ss.length c3] 29) = w2 at HT HB HP x1 x2 x3 y1 y2 y3 ⊢
    generalize w1.heap.size = gp at HT x1 x2 x3 y1 y2 y3 ⊢
    refine (sPolarOk HP.out).mono ?_
    rintro e w3 ⟨⟨b, rfl, hb⟩, hB3⟩
    have HT3 := hid (HT.out.keep hB3)
    have HB3 := hid (HB.out.trans (hB3.mono HB.out.size))
    have HP3 := hid (HP.out.below hB3)
    have Hb := hid hb
    clear hb hB3 HT HB HP x1 x2 x3 y1 y2 y3
    cases b
    · go_wp2
      go_ret
      exact ⟨rfl, HB3.out⟩
    · have hP := Hb.out.1 rfl
      have l1 := hP.w12
      have l2 := hP.a24
      have PO := hid hP
      clear hP
      go_wp2_with fail
      go_loopw [4] (fun iv wr => ∃ i : Nat, iv = .int .i64 i ∧ i ≤ ws.length ∧ Hid (Tri wr gp (.slice A1 ws.length c1) (.slice A2 an.length c2) (.slice A3 ss.length c3)) ∧ Hid (RdP wr (.agg #[.slice A1 ws.length c1, .slice A2 an.length c2, .slice A3 ss.length c3]) ws an ss) ∧ Hid (Below w.heap.size w wr)) (fun iv _ => 100 - (intOf iv).toNat)
      case atStart => exact ⟨0, rfl, by omega, HT3.out, HP3.out, HB3.out⟩
      case round =>
        obtain ⟨i, rfl, hi, HT, HP, HB⟩ := hrel
        clear HT3 HP3 HB3
        obtain ⟨⟨x1, x2, x3⟩, y1, y2, y3⟩ := HT.out.facts
        by_cases hlt : i < ws.length
        · go_wp2_with fail
          go_loopw [5] (fun kv wr => ∃ k : Nat, kv = .int .i64 k ∧ k ≤ an.length ∧ Hid (Tri wr gp (.slice A1 ws.length c1) (.slice A2 an.length c2) (.slice A3 ss.length c3)) ∧ Hid (RdP wr (.agg #[.slice A1 ws.length c1, .slice A2 an.length c2, .slice A3 ss.length c3]) ws an ss) ∧ Hid (Below w.heap.size w wr)) (fun kv _ => 100 - (intOf kv).toNat)
          case atStart => exact ⟨0, rfl, by omega, HT.out, HP.out, HB.out⟩
          case round =>
            obtain ⟨k, rfl, hk, HT, HP, HB⟩ := hrel
            clear x1 x2 x3 y1 y2 y3
            obtain ⟨⟨x1, x2, x3⟩, y1, y2, y3⟩ := HT.out.facts
            by_cases hkt : k < an.length
            · go_wp2_with fail
              have hsl := PO.out.sl
              have his : i < ss.length := by omega
              have hks : k < ss[i].length := by rw [PO.out.row i his]; exact hkt
              have hwin := (PO.out.wind i hlt).isIn
              have har := an_range PO.out k hkt
              obtain ⟨r, hsp, _⟩ := sp_ok PO.out hwin har.1 har.2
              have hEq := points PO.out hlt hkt his hks hsp
              have HA := hid (show AllOk ws an ss ws[i] an[k] from ⟨PO.out, hwin, har.1, har.2⟩)
              have HSp := hid hsp
              obtain ⟨ad1, rfl, q1⟩ := HP.out.cell1 hlt
              obtain ⟨ad2, rfl, q2⟩ := HP.out.cell2 hkt
              obtain ⟨ad3, u, rfl, q3, q4⟩ := HP.out.cell3 his
              obtain ⟨_, A4, c4, rfl, q5⟩ := q4
              obtain ⟨ad4, rfl, q6⟩ := q5 k hks
              obtain ⟨x, hx⟩ : ∃ x, ws[i] = x := ⟨_, rfl⟩
              obtain ⟨z, hz⟩ : ∃ x, an[k] = x := ⟨_, rfl⟩
              obtain ⟨y, hy⟩ : ∃ x, ss[i][k] = x := ⟨_, rfl⟩
              obtain ⟨m, hm⟩ : ∃ x, ss[i].length = x := ⟨_, rfl⟩
              rw [hx] at q1 HA HSp
              rw [hz] at q2 HA HSp
              rw [hy] at q6 hEq
              rw [hm] at q3 hks
              have g1 : (i : Int) < (ws.length : Int) := by omega
              have g2 : (k : Int) < (an.length : Int) := by omega
              have g3 : (i : Int) < (ss.length : Int) := by omega
              have g4 : (k : Int) < (m : Int) := by omega
              clear hx hz hy hm q5 hsp har hwin hsl
              have L1 : ∀ m : Later wr.heap.size wr, m.val.cell? ⟨gp, 0, none⟩ = some (.slice (some ad1) ws.length c1) := fun m => (HT.out.keep m.below).facts.1.1
              have L2 : ∀ m : Later wr.heap.size wr, m.val.cell? ⟨gp, 1, none⟩ = some (.slice (some ad2) an.length c2) := fun m => (HT.out.keep m.below).facts.1.2.1
              have L3 : ∀ m : Later wr.heap.size wr, m.val.cell? ⟨gp, 2, none⟩ = some (.slice (some ad3) ss.length c3) := fun m => (HT.out.keep m.below).facts.1.2.2
              have L4 : ∀ m : Later wr.heap.size wr, m.val.cell? (ad1.add i) = some (.float .f32 x) := fun m => (m.below.cell (World.block_lt_of_cell? wr _ q1)).trans q1
              have L5 : ∀ m : Later wr.heap.size wr, m.val.cell? (ad2.add k) = some (.int .i64 z) := fun m => (m.below.cell (World.block_lt_of_cell? wr _ q2)).trans q2
              have L6 : ∀ m : Later wr.heap.size wr, m.val.cell? (ad3.add i) = some (.slice (some ad4) _ c4) := fun m => (m.below.cell (World.block_lt_of_cell? wr _ q3)).trans q3
              have L7 : ∀ m : Later wr.heap.size wr, m.val.cell? (ad4.add k) = some (.float .f32 y) := fun m => (m.below.cell (World.block_lt_of_cell? wr _ q6)).trans q6
              refine wp_region_later wr.heap.size (by kernel_rfl) (by kernel_rfl) ?_
              repeat (quiet_step ((rename_i m; exact (speed_known HS.out.2.2.2 HA.out HSp.out (HP.out.below m.below)).mono fun e w' h => m.on h)))
              refine wpQuiet_nil ?_
              intro mq
              have HTq := hid (HT.out.keep mq.below)
              have HPq := hid (HP.out.below mq.below)
              have HBq := hid (HB.out.trans (mq.below.mono HB.out.size))
              go_wp2
              go_roundw
              case rel => exact ⟨k + 1, by go_num, by omega, HTq.out, HPq.out, HBq.out⟩
              case measure => (simp [intOf]; try omega)
            · obtain rfl : k = an.length := by omega
              go_wp2
              go_roundw
              case rel => exact ⟨i + 1, by go_num, by omega, HT.out, HP.out, HB.out⟩
              case measure => (simp [intOf]; try omega)
        · obtain rfl : i = ws.length := by omega
          go_wp2
          go_ret
          exact ⟨rfl, HB.out⟩
end Go.Proofs.Ytgjfpclpnobggaa
