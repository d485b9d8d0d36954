/- Bearing on both sides: contracts. -/
import Derived.Test.YtjllidnkndhgmaaFn
namespace Go.Proofs.Ytjllidnkndhgmaa
open Go.RowKit

def gtO (x y : Option Nat) : Bool := match x, y with
  | some a, some b => FloatKind.f64.format.order a b == some .gt
  | _, _ => false
theorem gtO_of {r m : Nat} {c d : Option Nat} (h : FIs .f64 r c) (g : FIs .f64 m d) : (FloatKind.f64.format.order r m == some .gt) = gtO c d := by
  cases c with
  | none => rw [order_nan_l h.1]; rfl
  | some x =>
    cases d with
    | none => rw [order_nan_r g.1]; rfl
    | some y => rw [(fc_some h.1).1, (fc_some g.1).1]; rfl

def dotT (a b j : Nat) : Option Nat := dotC (fc .f64 a) (fc .f64 b) (turnC j).1 (turnC j).2
def bearF (a b : Nat) : Nat → Nat × Option Nat
  | 0 => (0, dotT a b 0)
  | k + 1 => if gtO (dotT a b (k + 1)) (bearF a b k).2 then (k + 1, dotT a b (k + 1)) else bearF a b k
theorem bearF_le (a b k : Nat) : (bearF a b k).1 ≤ k := by
  induction k with
  | zero => exact Nat.le_refl _
  | succ k ih => unfold bearF; split <;> (try exact Nat.le_refl _) <;> omega
theorem bearF_yes {a b k : Nat} (h : gtO (dotT a b (k + 1)) (bearF a b k).2 = true) : bearF a b (k + 1) = (k + 1, dotT a b (k + 1)) := if_pos h
theorem bearF_no {a b k : Nat} (h : gtO (dotT a b (k + 1)) (bearF a b k).2 = false) : bearF a b (k + 1) = bearF a b k := if_neg (by rw [h]; exact Bool.false_ne_true)

theorem dot_turn {a b x y r : Nat} {j : Nat} (hx : FIs .f64 x (turnC j).1) (hy : FIs .f64 y (turnC j).2) (h : FIs .f64 r (dotC (fc .f64 a) (fc .f64 b) (fc .f64 x) (fc .f64 y))) : FIs .f64 r (dotT a b j) := by
  rw [hx.1, hy.1] at h; exact h

/-- a bearing: none of what is no vector or nought -/
def bearC (a b : Nat) : Int := if vecOk a b && !(isZ (fc .f64 a) && isZ (fc .f64 b)) then ((bearF a b 359).1 : Int) else -1

set_option maxHeartbeats 2000000 in
set_option maxRecDepth 100000 in
theorem sBearing (a b : Nat) (ha : Fit .f64 a) (hb : Fit .f64 b) (w : World) :
    Calls Try.prog 56 #[.complex .f64 a b] w fun e w' => e = .returned (.int .i64 (bearC a b)) ∧ ∃ m, w' = w.drewN m := by
  have HA := hid ha
  have HB := hid hb
  clear ha hb
  have za := isZ_of (FIs.of HA.out)
  have zb := isZ_of (FIs.of HB.out)
  go_enter Try.func56, Try.ntmps56
  go_wp2_with fail
  go_at_call 55
  refine (sVectorOk _ _ HA.out HB.out _).mono ?_
  rintro e w1 ⟨rfl, rfl⟩
  have hbc : bearC a b = if vecOk a b && !(isZ (fc .f64 a) && isZ (fc .f64 b)) then ((bearF a b 359).1 : Int) else -1 := rfl
  cases hv : vecOk a b
  · have hb2 : bearC a b = -1 := by rw [hbc, hv]; rfl
    clear hbc za zb
    go_wp2
    go_ret
    exact ⟨by rw [hb2]; rfl, 0, rfl⟩
  · by_cases hz : isZ (fc .f64 a) = true ∧ isZ (fc .f64 b) = true
    · have hb2 : bearC a b = -1 := by rw [hbc, hv, hz.1, hz.2]; rfl
      rw [hz.1] at za
      rw [hz.2] at zb
      clear hbc hz
      go_wp2
      go_ret
      exact ⟨by rw [hb2]; rfl, 0, rfl⟩
    · have hb2 : bearC a b = ((bearF a b 359).1 : Int) := by
        rw [hbc, hv]
        cases h1 : isZ (fc .f64 a) <;> cases h2 : isZ (fc .f64 b) <;> simp_all
      have HB2 := hid hb2
      have hcase : (FloatKind.f64.format.order a 0 == some .eq) = false ∨ (FloatKind.f64.format.order a 0 == some .eq) = true ∧ (FloatKind.f64.format.order b 0 == some .eq) = false := by
        rw [za, zb]
        cases h1 : isZ (fc .f64 a) <;> cases h2 : isZ (fc .f64 b) <;> simp_all
      clear hbc hb2 hz za zb
      rcases hcase with ya | ⟨ya, yb⟩
      all_goals
        go_wp2_with (first | (go_at_call 96; refine (sDot _ _ _ _ _).mono ?_; rintro e w1 ⟨r, rfl, hr, n1, rfl⟩) | (go_at_call 67; go_in))
        have hr0 := hid (dot_turn turn_zero.1 turn_zero.2 hr)
        clear hr
        go_loopw [3, 4, 5, 6] (fun B t M k wr => ∃ (j x y m : Nat), j ≤ 359 ∧ B = .int .i64 ((bearF a b j).1 : Int) ∧ t = .complex .f64 x y ∧ M = .float .f64 m ∧ k = .int .i64 ((j : Int) + 1) ∧ Hid (FIs .f64 x (turnC j).1 ∧ FIs .f64 y (turnC j).2 ∧ FIs .f64 m (bearF a b j).2) ∧ ∃ m, wr = w.drewN m) (fun _ _ _ k _ => 400 - (intOf k).toNat)
        case atStart => exact ⟨0, _, _, _, by omega, rfl, rfl, rfl, rfl, ⟨turn_zero.1, turn_zero.2, hr0.out⟩, _, rfl⟩
        case round =>
          obtain ⟨j, x, y, m, hj, rfl, rfl, rfl, rfl, HG, m1, rfl⟩ := hrel
          by_cases hlt : j < 359
          · go_wp2_with (first | (go_at_call 67; go_in) | (go_at_call 66; refine (sTimes _ _ _ _ _).mono ?_; rintro e w1 ⟨r, q, rfl, hr, hq, n1, rfl⟩; have HT := hid (turn_step HG.out.1 HG.out.2.1 hr hq); clear hr hq) | fail)
            go_at_call 96
            refine (sDot _ _ _ _ _).mono ?_
            rintro e w1 ⟨d, rfl, hd, n2, rfl⟩
            have HD := hid (dot_turn HT.out.1 HT.out.2 hd)
            have hg := gtO_of HD.out HG.out.2.2
            clear hd
            cases hc : gtO (dotT a b (j + 1)) (bearF a b j).2
            · have HN := hid (bearF_no hc)
              rw [hc] at hg
              clear hc
              go_wp2
              go_roundw
              case rel => exact ⟨j + 1, _, _, _, by omega, by rw [HN.out], rfl, rfl, by go_num, ⟨HT.out.1, HT.out.2, by rw [HN.out]; exact HG.out.2.2⟩, _, rfl⟩
              case measure => simp [intOf]; omega
            · have HN := hid (bearF_yes hc)
              rw [hc] at hg
              clear hc
              go_wp2
              go_roundw
              case rel => exact ⟨j + 1, _, _, _, by omega, by rw [HN.out]; go_num, rfl, rfl, by go_num, ⟨HT.out.1, HT.out.2, by rw [HN.out]; exact HD.out⟩, _, rfl⟩
              case measure => simp [intOf]; omega
          · obtain rfl : j = 359 := by omega
            go_wp2
            go_ret
            exact ⟨by rw [HB2.out]; rfl, _, rfl⟩
end Go.Proofs.Ytjllidnkndhgmaa
