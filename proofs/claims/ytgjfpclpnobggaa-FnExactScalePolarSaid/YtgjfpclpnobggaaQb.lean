/- A row at an angle: the second side. -/
import Derived.Test.YtgjfpclpnobggaaQa
namespace Go.Proofs.Ytgjfpclpnobggaa
open Go.Shelf Go.RowKit

set_option maxHeartbeats 1000000 in
set_option maxRecDepth 100000 in
theorem sRow {w : World} {va vr : Value} {an : List Int} {row : List Nat} {angle : Int} {k r : Nat} (hR : RowR an row angle k r) (hl : an.length ≤ 24) (ha0 : 0 ≤ angle) (ha1 : angle ≤ 180) (har : ∀ j (hj : j < an.length), 0 ≤ an[j] ∧ an[j] ≤ 180) (h1 : RdI w va an) (h2 : RdF w vr row) :
    Calls Try.prog 47 #[va, vr, .int .i64 angle] w fun e w' => e = .returned (.float .f32 r) ∧ ∃ m, w' = w.drewN m := by
  obtain ⟨_, A1, c1, rfl, r1⟩ := h1
  obtain ⟨_, A2, c2, rfl, r2⟩ := h2
  have R1 := hid r1
  have R2 := hid r2
  have AR := hid har
  clear r1 r2 har
  obtain ⟨hk1, hk2, hlt, hcase⟩ := hR
  have HLt := hid hlt
  have HCase := hid hcase
  clear hlt hcase
  obtain ⟨ad1, rfl, hck⟩ := R1.out k hk1
  obtain ⟨ad2, rfl, hrk⟩ := R2.out k hk2
  obtain ⟨x, hx⟩ : ∃ x, an[k] = x := ⟨_, rfl⟩
  have HX := hid hx
  rw [hx] at hck
  obtain ⟨y, hy⟩ : ∃ x, row[k] = x := ⟨_, rfl⟩
  have HY := hid hy
  rw [hy] at hrk
  clear hx hy
  go_enter Try.func47, Try.ntmps47
  go_wp2
  go_loopw [7] (fun kv wr => ∃ j : Nat, kv = .int .i64 j ∧ j ≤ k ∧ w = wr) (fun kv _ => 25 - (intOf kv).toNat)
  case atStart => exact ⟨0, rfl, by omega, rfl⟩
  case round =>
    obtain ⟨j, rfl, hj, rfl⟩ := hrel
    by_cases hjk : j < k
    · obtain ⟨ad3, he3, hcj⟩ := R1.out j (by omega)
      obtain rfl : ad1 = ad3 := Option.some.inj he3
      have hja : (j : Int) < (an.length : Int) := by omega
      have hlj := HLt.out j (by omega) hjk
      obtain ⟨z, hz⟩ : ∃ x, an[j]'(by omega) = x := ⟨_, rfl⟩
      rw [hz] at hcj hlj
      clear hz he3
      go_wp2
      go_roundw
      case rel => exact ⟨j + 1, by go_num, by omega, trivial⟩
      case measure => simp [intOf]; omega
    · obtain rfl : j = k := by omega
      have hja : (j : Int) < (an.length : Int) := by omega
      have hjr : (j : Int) < (row.length : Int) := by omega
      rcases HCase.out with ⟨he, hr⟩ | ⟨hg, h0, q, hq, hm⟩
      · rw [HX.out] at he
        rw [HY.out] at hr
        subst he; subst hr
        go_wp2
        go_ret
        exact ⟨rfl, 0, rfl⟩
      · rw [HX.out] at hg hq
        rw [HY.out] at hm
        have hne : (x == angle) = false := beq_eq_false_iff_ne.2 (by omega)
        obtain ⟨p, hp⟩ : ∃ p, (j : Int) - 1 = p := ⟨_, rfl⟩
        have hw1 : IntKind.i64.wrap p = p := by rw [IntKind.wrap_i64]; omega
        have hw2 : wrap64 p = p := by unfold wrap64; omega
        have hp0 : 0 ≤ p := by omega
        have hp1 : p < (an.length : Int) := by omega
        have hp2 : p < (row.length : Int) := by omega
        have hpn : p.toNat = j - 1 := by omega
        obtain ⟨ad3, he3, hcp⟩ := R1.out p.toNat (by omega)
        obtain rfl : ad1 = ad3 := Option.some.inj he3
        obtain ⟨ad4, he4, hrp⟩ := R2.out p.toNat (by omega)
        obtain rfl : ad2 = ad4 := Option.some.inj he4
        obtain ⟨x0, hx0⟩ : ∃ x, an[p.toNat]'(by omega) = x := ⟨_, rfl⟩
        obtain ⟨y0, hy0⟩ : ∃ x, row[p.toNat]'(by omega) = x := ⟨_, rfl⟩
        have e1 : an[j - 1]'(by omega) = x0 := by rw [← hx0]; congr 1; omega
        have e2 : row[j - 1]'(by omega) = y0 := by rw [← hy0]; congr 1; omega
        have b0 := AR.out (j - 1) (by omega)
        have b1 := AR.out j (by omega)
        rw [e1] at hq b0
        rw [e2] at hm
        rw [HX.out] at b1
        rw [hx0] at hcp
        rw [hy0] at hrp
        clear e1 e2 hx0 hy0 he3 he4 hpn
        obtain ⟨d1, hd1⟩ : ∃ d, angle - x0 = d := ⟨_, rfl⟩
        obtain ⟨d2, hd2⟩ : ∃ d, x - x0 = d := ⟨_, rfl⟩
        rw [hd1, hd2] at hq
        have hw3 : wrap64 d1 = d1 := by unfold wrap64; omega
        have hw4 : wrap64 d2 = d2 := by unfold wrap64; omega
        have hw5 : IntKind.i64.wrap d1 = d1 := by rw [IntKind.wrap_i64]; omega
        have hw6 : IntKind.i64.wrap d2 = d2 := by rw [IntKind.wrap_i64]; omega
        have eq1 := run_fop (t := 36) hq
        have HM := hid hm
        clear hq hm
        go_wp2_with fail
        go_quiet (fail)
        go_wp2_with fail
        go_quiet ((refine (sMixC HM.out _).mono ?_; rintro e w1 ⟨rfl, rfl⟩; exact ⟨rfl, _, rfl⟩))
        go_wp2
        go_ret
        exact ⟨rfl, _, World.drewN_drewN ..⟩
end Go.Proofs.Ytgjfpclpnobggaa
