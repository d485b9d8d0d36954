/- Dot, Length, Unit; Apparent, TrueWind, Damp: contracts. -/
import Derived.Test.YtjllidnkndhgmaaFm
namespace Go.Proofs.Ytjllidnkndhgmaa
open Go.RowKit

def dotC (a b c d : Option Nat) : Option Nat := fop .add .f64 (fop .mul .f64 a c) (fop .mul .f64 b d)

theorem iDot (a b c d : Nat) (w : World) :
    Calls Try.prog 84 #[.complex .f64 a b, .complex .f64 c d] w fun e w' => ∃ r, e = .returned (.float .f64 r) ∧ FIs .f64 r (dotC (fc .f64 a) (fc .f64 b) (fc .f64 c) (fc .f64 d)) ∧ ∃ m, w' = w.drewN m := by
  go_enter Try.func84, Try.ntmps84
  go_wp2_with (refine wpList_farith rfl _ _ _ _ _ rfl rfl _ _ _ rfl rfl ?_; intro r n hr)
  go_ret
  exact ⟨_, rfl, ftimes (by assumption) (by assumption) (by assumption), _, rfl⟩
theorem sDot (a b c d : Nat) (w : World) :
    Calls Try.prog 96 #[.complex .f64 a b, .complex .f64 c d] w fun e w' => ∃ r, e = .returned (.float .f64 r) ∧ FIs .f64 r (dotC (fc .f64 a) (fc .f64 b) (fc .f64 c) (fc .f64 d)) ∧ ∃ m, w' = w.drewN m := by
  go_enter Try.func96, Try.ntmps96
  go_wp2_with (refine wpList_farith rfl _ _ _ _ _ rfl rfl _ _ _ rfl rfl ?_; intro r n hr)
  go_ret
  exact ⟨_, rfl, ftimes (by assumption) (by assumption) (by assumption), _, rfl⟩

def rootO (c : Option Nat) : Option Nat := match c with
  | none => some 0
  | some x => rootC x
theorem rootO_of {r : Nat} {c : Option Nat} (h : FIs .f64 r c) : rootC r = rootO c := by
  cases c with
  | none =>
    have hn := h.1
    unfold rootC
    rw [if_neg]; rfl
    unfold rootIn; rw [order_nan_l hn]; simp
  | some x => rw [(fc_some h.1).1]; rfl
def lenC (a b : Nat) : Option Nat := if vecOk a b then rootO (dotC (fc .f64 a) (fc .f64 b) (fc .f64 a) (fc .f64 b)) else some 0

theorem iLength (a b : Nat) (ha : Fit .f64 a) (hb : Fit .f64 b) (w : World) :
    Calls Try.prog 51 #[.complex .f64 a b] w fun e w' => ∃ r, e = .returned (.float .f64 r) ∧ FIs .f64 r (lenC a b) ∧ ∃ m, w' = w.drewN m := by
  have HA := hid ha
  have HB := hid hb
  clear ha hb
  cases hv : vecOk a b
  · have hl : lenC a b = some 0 := by unfold lenC; rw [hv]; rfl
    have HL := hid hl
    have HV := hid hv
    clear hl hv
    go_enter Try.func51, Try.ntmps51
    go_wp2_with (go_at_call 81; refine (iVectorOk _ _ HA.out HB.out _).mono ?_; rintro e w1 ⟨rfl, rfl⟩; rw [HV.out])
    go_ret
    exact ⟨_, rfl, by rw [HL.out]; exact zero_FIs, 0, rfl⟩
  · have hl : lenC a b = rootO (dotC (fc .f64 a) (fc .f64 b) (fc .f64 a) (fc .f64 b)) := by unfold lenC; rw [hv]; rfl
    have HL := hid hl
    have HV := hid hv
    clear hl hv
    go_enter Try.func51, Try.ntmps51
    go_wp2_with (first | (go_at_call 81; refine (iVectorOk _ _ HA.out HB.out _).mono ?_; rintro e w1 ⟨rfl, rfl⟩; rw [HV.out]) | (go_at_call 84; refine (iDot _ _ _ _ _).mono ?_; rintro e w1 ⟨r, rfl, hr, n1, rfl⟩; have HD := hid (rootO_of hr); have hf := hr.2) | (go_at_call 23; refine (iRoot _ hf _).mono ?_; rintro e w1 ⟨r2, rfl, hr2, n2, rfl⟩))
    go_ret
    exact ⟨_, rfl, by rw [HL.out, ← HD.out]; exact hr2, _, rfl⟩
theorem sLength (a b : Nat) (ha : Fit .f64 a) (hb : Fit .f64 b) (w : World) :
    Calls Try.prog 54 #[.complex .f64 a b] w fun e w' => ∃ r, e = .returned (.float .f64 r) ∧ FIs .f64 r (lenC a b) ∧ ∃ m, w' = w.drewN m := by
  have HA := hid ha
  have HB := hid hb
  clear ha hb
  cases hv : vecOk a b
  · have hl : lenC a b = some 0 := by unfold lenC; rw [hv]; rfl
    have HL := hid hl
    have HV := hid hv
    clear hl hv
    go_enter Try.func54, Try.ntmps54
    go_wp2_with (go_at_call 55; refine (sVectorOk _ _ HA.out HB.out _).mono ?_; rintro e w1 ⟨rfl, rfl⟩; rw [HV.out])
    go_ret
    exact ⟨_, rfl, by rw [HL.out]; exact zero_FIs, 0, rfl⟩
  · have hl : lenC a b = rootO (dotC (fc .f64 a) (fc .f64 b) (fc .f64 a) (fc .f64 b)) := by unfold lenC; rw [hv]; rfl
    have HL := hid hl
    have HV := hid hv
    clear hl hv
    go_enter Try.func54, Try.ntmps54
    go_wp2_with (first | (go_at_call 55; refine (sVectorOk _ _ HA.out HB.out _).mono ?_; rintro e w1 ⟨rfl, rfl⟩; rw [HV.out]) | (go_at_call 96; refine (sDot _ _ _ _ _).mono ?_; rintro e w1 ⟨r, rfl, hr, n1, rfl⟩; have HD := hid (rootO_of hr); have hf := hr.2) | (go_at_call 22; refine (sRoot _ hf _).mono ?_; rintro e w1 ⟨r2, rfl, hr2, n2, rfl⟩))
    go_ret
    exact ⟨_, rfl, by rw [HL.out, ← HD.out]; exact hr2, _, rfl⟩

def isZ (c : Option Nat) : Bool := match c with
  | none => false
  | some n => FloatKind.f64.format.order n 0 == some .eq
theorem isZ_of {r : Nat} {c : Option Nat} (h : FIs .f64 r c) : (FloatKind.f64.format.order r 0 == some .eq) = isZ c := by
  cases c with
  | none => rw [order_nan_l h.1]; rfl
  | some x => rw [(fc_some h.1).1]; rfl

theorem fquo {k : FloatKind} {r x n : Nat} {c : Option Nat} (h : FIs k r (fop .quo k (fc k x) (fc k n))) (hn : FIs k n c) : FIs k r (fop .quo k (fc k x) c) := by
  rw [hn.1] at h; exact h

theorem iUnit (a b : Nat) (ha : Fit .f64 a) (hb : Fit .f64 b) (w : World) :
    Calls Try.prog 50 #[.complex .f64 a b] w fun e w' => ∃ r q, e = .returned (.tuple #[.complex .f64 r q, .bool !isZ (lenC a b)]) ∧
      FIs .f64 r (if isZ (lenC a b) then some 0 else fop .quo .f64 (fc .f64 a) (lenC a b)) ∧ FIs .f64 q (if isZ (lenC a b) then some 0 else fop .quo .f64 (fc .f64 b) (lenC a b)) ∧ ∃ m, w' = w.drewN m := by
  have HA := hid ha
  have HB := hid hb
  clear ha hb
  cases hz : isZ (lenC a b)
  · have HZ := hid hz
    clear hz
    go_enter Try.func50, Try.ntmps50
    go_wp2_with (first | (go_at_call 51; refine (iLength _ _ HA.out HB.out _).mono ?_; rintro e w1 ⟨n, rfl, hn, n1, rfl⟩; have hzz := isZ_of hn; rw [HZ.out] at hzz) | (refine wpList_farith rfl _ _ _ _ _ rfl rfl _ _ _ rfl rfl ?_; intro r n hr))
    go_ret2
    exact ⟨_, _, rfl, fquo (by assumption) (by assumption), fquo (by assumption) (by assumption), _, rfl⟩
  · have HZ := hid hz
    clear hz
    go_enter Try.func50, Try.ntmps50
    go_wp2_with (first | (go_at_call 51; refine (iLength _ _ HA.out HB.out _).mono ?_; rintro e w1 ⟨n, rfl, hn, n1, rfl⟩; have hzz := isZ_of hn; rw [HZ.out] at hzz) | (refine wpList_farith rfl _ _ _ _ _ rfl rfl _ _ _ rfl rfl ?_; intro r n hr))
    go_ret2
    exact ⟨_, _, rfl, zero_FIs, zero_FIs, _, rfl⟩
/-- the reference's unit: whether there is one -/
theorem sUnit (a b : Nat) (ha : Fit .f64 a) (hb : Fit .f64 b) (w : World) :
    Calls Try.prog 52 #[.complex .f64 a b] w fun e w' => ∃ r q, e = .returned (.tuple #[.complex .f64 r q, .bool !isZ (lenC a b)]) ∧ ∃ m, w' = w.drewN m := by
  have HA := hid ha
  have HB := hid hb
  clear ha hb
  cases hz : isZ (lenC a b)
  · have HZ := hid hz
    clear hz
    go_enter Try.func52, Try.ntmps52
    go_wp2_with (first | (go_at_call 54; refine (sLength _ _ HA.out HB.out _).mono ?_; rintro e w1 ⟨n, rfl, hn, n1, rfl⟩; have hzz := isZ_of hn; rw [HZ.out] at hzz) | (refine wpList_farith rfl _ _ _ _ _ rfl rfl _ _ _ rfl rfl ?_; intro r n hr))
    go_ret2
    exact ⟨_, _, rfl, _, rfl⟩
  · have HZ := hid hz
    clear hz
    go_enter Try.func52, Try.ntmps52
    go_wp2_with (first | (go_at_call 54; refine (sLength _ _ HA.out HB.out _).mono ?_; rintro e w1 ⟨n, rfl, hn, n1, rfl⟩; have hzz := isZ_of hn; rw [HZ.out] at hzz) | (refine wpList_farith rfl _ _ _ _ _ rfl rfl _ _ _ rfl rfl ?_; intro r n hr))
    go_ret2
    exact ⟨_, _, rfl, _, rfl⟩

end Go.Proofs.Ytjllidnkndhgmaa
