/- Apparent, TrueWind, damped winds: contracts. -/
import Derived.Test.YtjllidnkndhgmaaFm
namespace Go.Proofs.Ytjllidnkndhgmaa
open Go.RowKit

def dampC (l x k : Option Nat) : Option Nat := fop .add .f32 l (fop .mul .f32 (fop .sub .f32 x l) k)
theorem fdamp {l x k r1 r2 r3 : Nat} (h3 : FIs .f32 r3 (fop .add .f32 (fc .f32 l) (fc .f32 r2))) (h2 : FIs .f32 r2 (fop .mul .f32 (fc .f32 r1) (fc .f32 k))) (h1 : FIs .f32 r1 (fop .sub .f32 (fc .f32 x) (fc .f32 l))) :
    FIs .f32 r3 (dampC (fc .f32 l) (fc .f32 x) (fc .f32 k)) := by
  refine ⟨?_, h3.2⟩
  rw [h3.1, h2.1, h1.1]; rfl
def shOk (k : Nat) : Bool := (FloatKind.f32.format.order k 0 == some .gt || FloatKind.f32.format.order k 0 == some .eq) && (FloatKind.f32.format.order k 1065353216 == some .lt || FloatKind.f32.format.order k 1065353216 == some .eq)
def dOk (a b x y k : Nat) : Bool := velOk a b && velOk x y && shOk k
theorem zero32 : FIs .f32 0 (some 0) := ⟨by decide, by decide⟩

theorem iApparent (a b x y : Nat) (ha : Fit .f32 a) (hb : Fit .f32 b) (hx : Fit .f32 x) (hy : Fit .f32 y) (w : World) :
    Calls Try.prog 31 #[.complex .f32 a b, .complex .f32 x y] w fun e w' => ∃ r q, e = .returned (.tuple #[.complex .f32 r q, .bool (velOk a b && velOk x y)]) ∧
      FIs .f32 r (if velOk a b && velOk x y then fop .sub .f32 (fc .f32 a) (fc .f32 x) else some 0) ∧ FIs .f32 q (if velOk a b && velOk x y then fop .sub .f32 (fc .f32 b) (fc .f32 y) else some 0) ∧ ∃ m, w' = w.drewN m := by
  have HA := hid ha; have HB := hid hb; have HX := hid hx; have HY := hid hy
  clear ha hb hx hy
  cases h1 : velOk a b
  · have H1 := hid h1
    clear h1
    go_enter Try.func31, Try.ntmps31
    go_wp2_with (go_at_call 48; refine (iVelocityOk _ _ HA.out HB.out _).mono ?_; rintro e w1 ⟨rfl, rfl⟩; rw [H1.out])
    go_ret2
    exact ⟨_, _, rfl, zero32, zero32, 0, rfl⟩
  · cases h2 : velOk x y
    · have H1 := hid h1; have H2 := hid h2
      clear h1 h2
      go_enter Try.func31, Try.ntmps31
      go_wp2_with (go_at_call 48; first | ((with_reducible refine (iVelocityOk a b HA.out HB.out _).mono ?_); rintro e w1 ⟨rfl, rfl⟩; rw [H1.out]) | ((with_reducible refine (iVelocityOk x y HX.out HY.out _).mono ?_); rintro e w1 ⟨rfl, rfl⟩; rw [H2.out]))
      go_ret2
      exact ⟨_, _, rfl, zero32, zero32, 0, rfl⟩
    · have H1 := hid h1; have H2 := hid h2
      clear h1 h2
      go_enter Try.func31, Try.ntmps31
      go_wp2_with (first | (go_at_call 48; first | ((with_reducible refine (iVelocityOk a b HA.out HB.out _).mono ?_); rintro e w1 ⟨rfl, rfl⟩; rw [H1.out]) | ((with_reducible refine (iVelocityOk x y HX.out HY.out _).mono ?_); rintro e w1 ⟨rfl, rfl⟩; rw [H2.out])) | (refine wpList_farith rfl _ _ _ _ _ rfl rfl _ _ _ rfl rfl ?_; intro r n hr))
      go_ret2
      exact ⟨_, _, rfl, by assumption, by assumption, _, rfl⟩

theorem iTrueWind (a b x y : Nat) (ha : Fit .f32 a) (hb : Fit .f32 b) (hx : Fit .f32 x) (hy : Fit .f32 y) (w : World) :
    Calls Try.prog 32 #[.complex .f32 a b, .complex .f32 x y] w fun e w' => ∃ r q, e = .returned (.tuple #[.complex .f32 r q, .bool (velOk a b && velOk x y)]) ∧
      FIs .f32 r (if velOk a b && velOk x y then fop .add .f32 (fc .f32 a) (fc .f32 x) else some 0) ∧ FIs .f32 q (if velOk a b && velOk x y then fop .add .f32 (fc .f32 b) (fc .f32 y) else some 0) ∧ ∃ m, w' = w.drewN m := by
  have HA := hid ha; have HB := hid hb; have HX := hid hx; have HY := hid hy
  clear ha hb hx hy
  cases h1 : velOk a b
  · have H1 := hid h1
    clear h1
    go_enter Try.func32, Try.ntmps32
    go_wp2_with (go_at_call 48; refine (iVelocityOk _ _ HA.out HB.out _).mono ?_; rintro e w1 ⟨rfl, rfl⟩; rw [H1.out])
    go_ret2
    exact ⟨_, _, rfl, zero32, zero32, 0, rfl⟩
  · cases h2 : velOk x y
    · have H1 := hid h1; have H2 := hid h2
      clear h1 h2
      go_enter Try.func32, Try.ntmps32
      go_wp2_with (go_at_call 48; first | ((with_reducible refine (iVelocityOk a b HA.out HB.out _).mono ?_); rintro e w1 ⟨rfl, rfl⟩; rw [H1.out]) | ((with_reducible refine (iVelocityOk x y HX.out HY.out _).mono ?_); rintro e w1 ⟨rfl, rfl⟩; rw [H2.out]))
      go_ret2
      exact ⟨_, _, rfl, zero32, zero32, 0, rfl⟩
    · have H1 := hid h1; have H2 := hid h2
      clear h1 h2
      go_enter Try.func32, Try.ntmps32
      go_wp2_with (first | (go_at_call 48; first | ((with_reducible refine (iVelocityOk a b HA.out HB.out _).mono ?_); rintro e w1 ⟨rfl, rfl⟩; rw [H1.out]) | ((with_reducible refine (iVelocityOk x y HX.out HY.out _).mono ?_); rintro e w1 ⟨rfl, rfl⟩; rw [H2.out])) | (refine wpList_farith rfl _ _ _ _ _ rfl rfl _ _ _ rfl rfl ?_; intro r n hr))
      go_ret2
      exact ⟨_, _, rfl, by assumption, by assumption, _, rfl⟩

theorem idamped (l x k : Nat) (w : World) :
    Calls Try.prog 75 #[.float .f32 l, .float .f32 x, .float .f32 k] w fun e w' => ∃ r, e = .returned (.float .f32 r) ∧ FIs .f32 r (dampC (fc .f32 l) (fc .f32 x) (fc .f32 k)) ∧ ∃ m, w' = w.drewN m := by
  go_enter Try.func75, Try.ntmps75
  go_wp2_with (refine wpList_farith rfl _ _ _ _ _ rfl rfl _ _ _ rfl rfl ?_; intro r n hr)
  go_ret
  exact ⟨_, rfl, fdamp (by assumption) (by assumption) (by assumption), _, rfl⟩
theorem ishare (k : Nat) (w : World) : Calls Try.prog 74 #[.float .f32 k] w fun e w' => e = .returned (.bool (shOk k)) ∧ w = w' := by
  have ho : shOk k = ((FloatKind.f32.format.order k 0 == some .gt || FloatKind.f32.format.order k 0 == some .eq) && (FloatKind.f32.format.order k 1065353216 == some .lt || FloatKind.f32.format.order k 1065353216 == some .eq)) := rfl
  have HO := hid ho
  clear ho
  cases h1 : (FloatKind.f32.format.order k 0 == some .gt || FloatKind.f32.format.order k 0 == some .eq)
  · go_enter Try.func74, Try.ntmps74
    go_wp2
    go_ret
    exact ⟨by rw [HO.out, h1]; rfl, rfl⟩
  · go_enter Try.func74, Try.ntmps74
    go_wp2
    go_ret
    exact ⟨by rw [HO.out, h1]; rfl, rfl⟩

set_option maxHeartbeats 1000000 in
theorem iDamp (a b x y k : Nat) (ha : Fit .f32 a) (hb : Fit .f32 b) (hx : Fit .f32 x) (hy : Fit .f32 y) (w : World) :
    Calls Try.prog 33 #[.complex .f32 a b, .complex .f32 x y, .float .f32 k] w fun e w' => ∃ r q, e = .returned (.tuple #[.complex .f32 r q, .bool (dOk a b x y k)]) ∧
      FIs .f32 r (if dOk a b x y k then dampC (fc .f32 a) (fc .f32 x) (fc .f32 k) else some 0) ∧ FIs .f32 q (if dOk a b x y k then dampC (fc .f32 b) (fc .f32 y) (fc .f32 k) else some 0) ∧ ∃ m, w' = w.drewN m := by
  have HA := hid ha; have HB := hid hb; have HX := hid hx; have HY := hid hy
  clear ha hb hx hy
  have hd : dOk a b x y k = (velOk a b && velOk x y && shOk k) := rfl
  cases h1 : velOk a b
  · rw [h1] at hd
    simp only [Bool.false_and] at hd
    rw [hd]
    have H1 := hid h1
    clear h1 hd
    go_enter Try.func33, Try.ntmps33
    go_wp2_with (go_at_call 48; refine (iVelocityOk _ _ HA.out HB.out _).mono ?_; rintro e w1 ⟨rfl, rfl⟩; rw [H1.out])
    go_ret2
    exact ⟨_, _, rfl, zero32, zero32, 0, rfl⟩
  · cases h2 : velOk x y
    · rw [h1, h2] at hd
      simp only [Bool.false_and, Bool.and_false] at hd
      rw [hd]
      have H1 := hid h1; have H2 := hid h2
      clear h1 h2 hd
      go_enter Try.func33, Try.ntmps33
      go_wp2_with (go_at_call 48; first | ((with_reducible refine (iVelocityOk a b HA.out HB.out _).mono ?_); rintro e w1 ⟨rfl, rfl⟩; rw [H1.out]) | ((with_reducible refine (iVelocityOk x y HX.out HY.out _).mono ?_); rintro e w1 ⟨rfl, rfl⟩; rw [H2.out]))
      go_ret2
      exact ⟨_, _, rfl, zero32, zero32, 0, rfl⟩
    · cases h3 : shOk k
      · rw [h1, h2, h3] at hd
        simp only [Bool.and_false] at hd
        rw [hd]
        have H1 := hid h1; have H2 := hid h2; have H3 := hid h3
        clear h1 h2 h3 hd
        go_enter Try.func33, Try.ntmps33
        go_wp2_with (first | (go_at_call 48; first | ((with_reducible refine (iVelocityOk a b HA.out HB.out _).mono ?_); rintro e w1 ⟨rfl, rfl⟩; rw [H1.out]) | ((with_reducible refine (iVelocityOk x y HX.out HY.out _).mono ?_); rintro e w1 ⟨rfl, rfl⟩; rw [H2.out])) | (go_at_call 74; refine (ishare _ _).mono ?_; rintro e w1 ⟨rfl, rfl⟩; rw [H3.out]))
        go_ret2
        exact ⟨_, _, rfl, zero32, zero32, 0, rfl⟩
      · rw [h1, h2, h3] at hd
        simp only [Bool.and_true] at hd
        rw [hd]
        have H1 := hid h1; have H2 := hid h2; have H3 := hid h3
        clear h1 h2 h3 hd
        go_enter Try.func33, Try.ntmps33
        go_wp2_with (first | (go_at_call 48; first | ((with_reducible refine (iVelocityOk a b HA.out HB.out _).mono ?_); rintro e w1 ⟨rfl, rfl⟩; rw [H1.out]) | ((with_reducible refine (iVelocityOk x y HX.out HY.out _).mono ?_); rintro e w1 ⟨rfl, rfl⟩; rw [H2.out])) | (go_at_call 74; refine (ishare _ _).mono ?_; rintro e w1 ⟨rfl, rfl⟩; rw [H3.out]) | (go_at_call 75; refine (idamped _ _ _ _).mono ?_; rintro e w1 ⟨r, rfl, hr, m, rfl⟩))
        go_ret2
        exact ⟨_, _, rfl, by assumption, by assumption, _, rfl⟩

theorem sdamped (l x k : Nat) (w : World) :
    Calls Try.prog 92 #[.float .f32 l, .float .f32 x, .float .f32 k] w fun e w' => ∃ r, e = .returned (.float .f32 r) ∧ FIs .f32 r (dampC (fc .f32 l) (fc .f32 x) (fc .f32 k)) ∧ ∃ m, w' = w.drewN m := by
  go_enter Try.func92, Try.ntmps92
  go_wp2_with (refine wpList_farith rfl _ _ _ _ _ rfl rfl _ _ _ rfl rfl ?_; intro r n hr)
  go_ret
  exact ⟨_, rfl, fdamp (by assumption) (by assumption) (by assumption), _, rfl⟩
theorem sshare (k : Nat) (w : World) : Calls Try.prog 91 #[.float .f32 k] w fun e w' => e = .returned (.bool (shOk k)) ∧ w = w' := by
  have ho : shOk k = ((FloatKind.f32.format.order k 0 == some .gt || FloatKind.f32.format.order k 0 == some .eq) && (FloatKind.f32.format.order k 1065353216 == some .lt || FloatKind.f32.format.order k 1065353216 == some .eq)) := rfl
  have HO := hid ho
  clear ho
  cases h1 : (FloatKind.f32.format.order k 0 == some .gt || FloatKind.f32.format.order k 0 == some .eq)
  · go_enter Try.func91, Try.ntmps91
    go_wp2
    go_ret
    exact ⟨by rw [HO.out, h1]; rfl, rfl⟩
  · go_enter Try.func91, Try.ntmps91
    go_wp2
    go_ret
    exact ⟨by rw [HO.out, h1]; rfl, rfl⟩

set_option maxHeartbeats 1000000 in
theorem sDamp (a b x y k : Nat) (ha : Fit .f32 a) (hb : Fit .f32 b) (hx : Fit .f32 x) (hy : Fit .f32 y) (w : World) :
    Calls Try.prog 47 #[.complex .f32 a b, .complex .f32 x y, .float .f32 k] w fun e w' => ∃ r q, e = .returned (.tuple #[.complex .f32 r q, .bool (dOk a b x y k)]) ∧
      FIs .f32 r (if dOk a b x y k then dampC (fc .f32 a) (fc .f32 x) (fc .f32 k) else some 0) ∧ FIs .f32 q (if dOk a b x y k then dampC (fc .f32 b) (fc .f32 y) (fc .f32 k) else some 0) ∧ ∃ m, w' = w.drewN m := by
  have HA := hid ha; have HB := hid hb; have HX := hid hx; have HY := hid hy
  clear ha hb hx hy
  have hd : dOk a b x y k = (velOk a b && velOk x y && shOk k) := rfl
  cases h1 : velOk a b
  · rw [h1] at hd
    simp only [Bool.false_and] at hd
    rw [hd]
    have H1 := hid h1
    clear h1 hd
    go_enter Try.func47, Try.ntmps47
    go_wp2_with (go_at_call 44; refine (sVelocityOk _ _ HA.out HB.out _).mono ?_; rintro e w1 ⟨rfl, rfl⟩; rw [H1.out])
    go_ret2
    exact ⟨_, _, rfl, zero32, zero32, 0, rfl⟩
  · cases h2 : velOk x y
    · rw [h1, h2] at hd
      simp only [Bool.false_and, Bool.and_false] at hd
      rw [hd]
      have H1 := hid h1; have H2 := hid h2
      clear h1 h2 hd
      go_enter Try.func47, Try.ntmps47
      go_wp2_with (go_at_call 44; first | ((with_reducible refine (sVelocityOk a b HA.out HB.out _).mono ?_); rintro e w1 ⟨rfl, rfl⟩; rw [H1.out]) | ((with_reducible refine (sVelocityOk x y HX.out HY.out _).mono ?_); rintro e w1 ⟨rfl, rfl⟩; rw [H2.out]))
      go_ret2
      exact ⟨_, _, rfl, zero32, zero32, 0, rfl⟩
    · cases h3 : shOk k
      · rw [h1, h2, h3] at hd
        simp only [Bool.and_false] at hd
        rw [hd]
        have H1 := hid h1; have H2 := hid h2; have H3 := hid h3
        clear h1 h2 h3 hd
        go_enter Try.func47, Try.ntmps47
        go_wp2_with (first | (go_at_call 44; first | ((with_reducible refine (sVelocityOk a b HA.out HB.out _).mono ?_); rintro e w1 ⟨rfl, rfl⟩; rw [H1.out]) | ((with_reducible refine (sVelocityOk x y HX.out HY.out _).mono ?_); rintro e w1 ⟨rfl, rfl⟩; rw [H2.out])) | (go_at_call 91; refine (sshare _ _).mono ?_; rintro e w1 ⟨rfl, rfl⟩; rw [H3.out]))
        go_ret2
        exact ⟨_, _, rfl, zero32, zero32, 0, rfl⟩
      · rw [h1, h2, h3] at hd
        simp only [Bool.and_true] at hd
        rw [hd]
        have H1 := hid h1; have H2 := hid h2; have H3 := hid h3
        clear h1 h2 h3 hd
        go_enter Try.func47, Try.ntmps47
        go_wp2_with (first | (go_at_call 44; first | ((with_reducible refine (sVelocityOk a b HA.out HB.out _).mono ?_); rintro e w1 ⟨rfl, rfl⟩; rw [H1.out]) | ((with_reducible refine (sVelocityOk x y HX.out HY.out _).mono ?_); rintro e w1 ⟨rfl, rfl⟩; rw [H2.out])) | (go_at_call 91; refine (sshare _ _).mono ?_; rintro e w1 ⟨rfl, rfl⟩; rw [H3.out]) | (go_at_call 92; refine (sdamped _ _ _ _).mono ?_; rintro e w1 ⟨r, rfl, hr, m, rfl⟩))
        go_ret2
        exact ⟨_, _, rfl, by assumption, by assumption, _, rfl⟩

end Go.Proofs.Ytjllidnkndhgmaa
