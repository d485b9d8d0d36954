/- A row at an angle: the first side. -/
import Derived.Test.YtgjfpclpnobggaaQb
namespace Go.Proofs.Ytgjfpclpnobggaa
open Go.Shelf Go.RowKit

set_option maxHeartbeats 1000000 in
set_option maxRecDepth 100000 in
theorem iRow {w : World} {v vr : Value} {ws : List Nat} {an : List Int} {ss : List (List Nat)} {row : List Nat} {angle : Int} {k r : Nat} (hR : RowR an row angle k r) (hl : an.length ≤ 24) (ha0 : 0 ≤ angle) (ha1 : angle ≤ 180) (har : ∀ j (hj : j < an.length), 0 ≤ an[j] ∧ an[j] ≤ 180) (h : RdP w v ws an ss) (h2 : RdF w vr row) :
    Calls Try.prog 69 #[v, vr, .int .i64 angle] w fun e w' => e = .returned (.float .f32 r) ∧ Below w.heap.size w w' := by
  obtain ⟨a, b, c, rfl, _, h1, _⟩ := h
  obtain ⟨_, A1, c1, rfl, r1⟩ := h1
  obtain ⟨_, A2, c2, rfl, r2⟩ := h2
  have R1 := hid r1
  have R2 := hid r2
  have AR := hid har
  clear r1 r2 har
  obtain ⟨hk1, hk2, hlt, hcase⟩ := hR
  have HLt := hid hlt
  have HCase := hid hcase
  clear hlt hcase
  obtain ⟨ad1, rfl, hck⟩ := R1.out k hk1
  obtain ⟨ad2, rfl, hrk⟩ := R2.out k hk2
  clear hck hrk
  have HB := hid (fun o => (Below.refl w.heap.size w).alloc (Nat.le_refl _) o)
  go_enter Try.func69, Try.ntmps69
  go_wp2
  go_loopw [13] (fun kv wr => ∃ j : Nat, kv = .int .i64 j ∧ j ≤ k ∧ Hid (Tri wr w.heap.size a (.slice (some ad1) an.length c1) c) ∧ Hid (Below w.heap.size w wr)) (fun kv _ => 25 - (intOf kv).toNat)
  case atStart => exact ⟨0, rfl, by omega, (show Tri _ _ _ _ _ from heap_alloc_new w _), HB.out _⟩
  case round =>
    obtain ⟨j, rfl, hj, HT, HW⟩ := hrel
    obtain ⟨⟨x1, x2, x3⟩, _⟩ := HT.out.facts
    have hja : (j : Int) < (an.length : Int) := by omega
    have hjr : j < row.length := by omega
    have hjr' : (j : Int) < (row.length : Int) := by omega
    obtain ⟨ad3, he3, hcj0⟩ := R1.out j (by omega)
    obtain rfl : ad1 = ad3 := Option.some.inj he3
    obtain ⟨ad4, he4, hrj0⟩ := R2.out j (by omega)
    obtain rfl : ad2 = ad4 := Option.some.inj he4
    have hcj := (HW.out.cell (World.block_lt_of_cell? w _ hcj0)).trans hcj0
    have hrj := (HW.out.cell (World.block_lt_of_cell? w _ hrj0)).trans hrj0
    obtain ⟨x, hx⟩ : ∃ x, an[j] = x := ⟨_, rfl⟩
    have HX := hid hx
    rw [hx] at hcj
    obtain ⟨y, hy⟩ : ∃ x, row[j] = x := ⟨_, rfl⟩
    have HY := hid hy
    rw [hy] at hrj
    clear hx hy he3 he4 hcj0 hrj0
    by_cases hjk : j < k
    · have hlj := HLt.out j (by omega) hjk
      rw [HX.out] at hlj
      have hne : (x == angle) = false := beq_eq_false_iff_ne.2 (by omega)
      have hng : decide (angle < x) = false := decide_eq_false (by omega)
      go_wp2
      go_roundw
      case rel => exact ⟨j + 1, by go_num, by omega, HT.out, HW.out⟩
      case measure => simp [intOf]; omega
    · obtain rfl : j = k := by omega
      rcases HCase.out with ⟨he, hr⟩ | ⟨hg, h0, q, hq, hm⟩
      · rw [HX.out] at he
        rw [HY.out] at hr
        subst he; subst hr
        go_wp2
        go_ret
        exact ⟨rfl, HW.out⟩
      · rw [HX.out] at hg hq
        rw [HY.out] at hm
        have hne : (x == angle) = false := beq_eq_false_iff_ne.2 (by omega)
        have hgt : decide (angle < x) = true := decide_eq_true hg
        obtain ⟨p, hp⟩ : ∃ p, (j : Int) - 1 = p := ⟨_, rfl⟩
        have hw1 : IntKind.i64.wrap p = p := by rw [IntKind.wrap_i64]; omega
        have hw2 : wrap64 p = p := by unfold wrap64; omega
        have hp0 : 0 ≤ p := by omega
        have hp1 : p < (an.length : Int) := by omega
        have hp2 : p < (row.length : Int) := by omega
        have hpn : p.toNat = j - 1 := by omega
        obtain ⟨ad3, he3, hcp0⟩ := R1.out p.toNat (by omega)
        obtain rfl : ad1 = ad3 := Option.some.inj he3
        obtain ⟨ad4, he4, hrp0⟩ := R2.out p.toNat (by omega)
        obtain rfl : ad2 = ad4 := Option.some.inj he4
        have hcp := (HW.out.cell (World.block_lt_of_cell? w _ hcp0)).trans hcp0
        have hrp := (HW.out.cell (World.block_lt_of_cell? w _ hrp0)).trans hrp0
        obtain ⟨x0, hx0⟩ : ∃ x, an[p.toNat]'(by omega) = x := ⟨_, rfl⟩
        obtain ⟨y0, hy0⟩ : ∃ x, row[p.toNat]'(by omega) = x := ⟨_, rfl⟩
        have e1 : an[j - 1]'(by omega) = x0 := by rw [← hx0]; congr 1; omega
        have e2 : row[j - 1]'(by omega) = y0 := by rw [← hy0]; congr 1; omega
        have b0 := AR.out (j - 1) (by omega)
        have b1 := AR.out j (by omega)
        rw [e1] at hq b0
        rw [e2] at hm
        rw [HX.out] at b1
        rw [hx0] at hcp
        rw [hy0] at hrp
        clear e1 e2 hx0 hy0 he3 he4 hpn hcp0 hrp0
        obtain ⟨d1, hd1⟩ : ∃ d, angle - x0 = d := ⟨_, rfl⟩
        obtain ⟨d2, hd2⟩ : ∃ d, x - x0 = d := ⟨_, rfl⟩
        rw [hd1, hd2] at hq
        have hw3 : wrap64 d1 = d1 := by unfold wrap64; omega
        have hw4 : wrap64 d2 = d2 := by unfold wrap64; omega
        have hw5 : IntKind.i64.wrap d1 = d1 := by rw [IntKind.wrap_i64]; omega
        have hw6 : IntKind.i64.wrap d2 = d2 := by rw [IntKind.wrap_i64]; omega
        have eq1 := run_fop (t := 36) hq
        have HM := hid hm
        clear hq hm
        go_wp2_with fail
        go_quiet ((refine (iBetween HM.out _).mono ?_; rintro e w1 ⟨rfl, rfl⟩; exact ⟨rfl, _, rfl⟩))
        go_wp2
        go_ret
        exact ⟨rfl, below_drewN HW.out _⟩
end Go.Proofs.Ytgjfpclpnobggaa
