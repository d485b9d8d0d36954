/- Contracts of the functions on floats: Root, times, Turn, and the laws that the program's equal the reference's. -/
import Derived.Test.YtjllidnkndhgmaaFw
namespace Go.Proofs.Ytjllidnkndhgmaa
open Go.RowKit

/-- one step of the root -/
def rstep (x g : Option Nat) : Option Nat := fop .quo .f64 (fop .add .f64 g (fop .quo .f64 x g)) (fc .f64 4611686018427387904)
def riter (x g : Option Nat) : Nat → Option Nat
  | 0 => g
  | k + 1 => rstep x (riter x g k)
def rootIn (x : Nat) : Bool :=
  (FloatKind.f64.format.order x 4427486594234968593 == some .gt || FloatKind.f64.format.order x 4427486594234968593 == some .eq) &&
  (FloatKind.f64.format.order x 4861130398305394688 == some .lt || FloatKind.f64.format.order x 4861130398305394688 == some .eq)
def rstart (x : Nat) : Nat := if FloatKind.f64.format.order x 4607182418800017408 = some .lt then 4607182418800017408 else x
def rootC (x : Nat) : Option Nat := if rootIn x then riter (fc .f64 x) (fc .f64 (rstart x)) 60 else some 0

theorem rstep_FIs {x : Nat} {g r1 r2 r3 : Nat} {c : Option Nat} (h3 : FIs .f64 r3 (fop .quo .f64 (fc .f64 r2) (fc .f64 4611686018427387904))) (h2 : FIs .f64 r2 (fop .add .f64 (fc .f64 g) (fc .f64 r1)))
    (h1 : FIs .f64 r1 (fop .quo .f64 (fc .f64 x) (fc .f64 g))) (hg : FIs .f64 g c) : FIs .f64 r3 (rstep (fc .f64 x) c) := by
  refine ⟨?_, h3.2⟩
  rw [h3.1, h2.1, h1.1, hg.1]; rfl

theorem ftimes {k : FloatKind} {o1 o2 o3 : BinOp} {r p q : Nat} {A B C D : Option Nat} (h : FIs k r (fop o1 k (fc k p) (fc k q))) (h1 : FIs k p (fop o2 k A B)) (h2 : FIs k q (fop o3 k C D)) :
    FIs k r (fop o1 k (fop o2 k A B) (fop o3 k C D)) := by
  refine ⟨?_, h.2⟩
  rw [h.1, h1.1, h2.1]

theorem one_FIs : FIs .f64 4607182418800017408 (fc .f64 4607182418800017408) := ⟨rfl, by decide⟩
theorem rstart_lt {x : Nat} (h : x < 2 ^ FloatKind.f64.format.width) : rstart x < 2 ^ FloatKind.f64.format.width := by
  unfold rstart; split
  · decide
  · exact h

set_option maxHeartbeats 2000000 in
set_option maxRecDepth 100000 in
theorem sRoot (x : Nat) (hx : x < 2 ^ FloatKind.f64.format.width) (w : World) :
    Calls Try.prog 22 #[.float .f64 x] w fun e w' => ∃ r, e = .returned (.float .f64 r) ∧ FIs .f64 r (rootC x) ∧ ∃ m, w' = w.drewN m := by
  have HX := hid hx
  clear hx
  by_cases hin : rootIn x = true
  · have hr : rootC x = riter (fc .f64 x) (fc .f64 (rstart x)) 60 := by unfold rootC; rw [if_pos hin]
    have HR := hid hr
    unfold rootIn at hin
    rw [Bool.and_eq_true] at hin
    obtain ⟨g1, g2⟩ := hin
    clear hr
    by_cases h1 : FloatKind.f64.format.order x 4607182418800017408 = some .lt
    · have hs : rstart x = 4607182418800017408 := if_pos h1
      have hb1 : (FloatKind.f64.format.order x 4607182418800017408 == some .lt) = true := by simpa using h1
      have HS := hid hs
      clear hs h1
      go_enter Try.func22, Try.ntmps22
      go_wp2
      go_loopw [3, 4] (fun g i wr => ∃ (k r : Nat), k ≤ 60 ∧ g = .float .f64 r ∧ i = .int .i64 k ∧ Hid (FIs .f64 r (riter (fc .f64 x) (fc .f64 (rstart x)) k)) ∧ ∃ m, wr = w.drewN m) (fun _ i _ => 60 - (intOf i).toNat)
      case atStart => exact ⟨0, _, by omega, rfl, rfl, by rw [HS.out]; exact one_FIs, 0, rfl⟩
      case round =>
        obtain ⟨k, r, hk, rfl, rfl, HG, m, rfl⟩ := hrel
        by_cases hlt : k < 60
        · go_wp2_with (refine wpList_farith rfl _ _ _ _ _ rfl rfl _ _ _ rfl rfl ?_; intro r1 n1 hr1)
          go_roundw
          case rel => exact ⟨k + 1, _, by omega, rfl, by go_num, rstep_FIs (by assumption) (by assumption) (by assumption) HG.out, _, rfl⟩
          case measure => simp [intOf]; omega
        · obtain rfl : k = 60 := by omega
          go_wp2
          go_ret
          exact ⟨_, rfl, by rw [HR.out]; exact HG.out, _, rfl⟩
    · have hs : rstart x = x := if_neg h1
      have hb1 : (FloatKind.f64.format.order x 4607182418800017408 == some .lt) = false := by simpa using h1
      have HS := hid hs
      clear hs h1
      go_enter Try.func22, Try.ntmps22
      go_wp2
      go_loopw [3, 4] (fun g i wr => ∃ (k r : Nat), k ≤ 60 ∧ g = .float .f64 r ∧ i = .int .i64 k ∧ Hid (FIs .f64 r (riter (fc .f64 x) (fc .f64 (rstart x)) k)) ∧ ∃ m, wr = w.drewN m) (fun _ i _ => 60 - (intOf i).toNat)
      case atStart => exact ⟨0, _, by omega, rfl, rfl, by rw [HS.out]; exact ⟨rfl, HX.out⟩, 0, rfl⟩
      case round =>
        obtain ⟨k, r, hk, rfl, rfl, HG, m, rfl⟩ := hrel
        by_cases hlt : k < 60
        · go_wp2_with (refine wpList_farith rfl _ _ _ _ _ rfl rfl _ _ _ rfl rfl ?_; intro r1 n1 hr1)
          go_roundw
          case rel => exact ⟨k + 1, _, by omega, rfl, by go_num, rstep_FIs (by assumption) (by assumption) (by assumption) HG.out, _, rfl⟩
          case measure => simp [intOf]; omega
        · obtain rfl : k = 60 := by omega
          go_wp2
          go_ret
          exact ⟨_, rfl, by rw [HR.out]; exact HG.out, _, rfl⟩
  · have hr : rootC x = some 0 := by unfold rootC; rw [if_neg hin]
    have HR := hid hr
    rw [Bool.not_eq_true] at hin
    unfold rootIn at hin
    clear hr
    by_cases g1 : (FloatKind.f64.format.order x 4427486594234968593 == some .gt || FloatKind.f64.format.order x 4427486594234968593 == some .eq) = true
    · have g2 : (FloatKind.f64.format.order x 4861130398305394688 == some .lt || FloatKind.f64.format.order x 4861130398305394688 == some .eq) = false := by simpa only [g1, Bool.true_and] using hin
      clear hin
      go_enter Try.func22, Try.ntmps22
      go_wp2
      go_ret
      exact ⟨_, rfl, by rw [HR.out]; exact zero_FIs, 0, rfl⟩
    · rw [Bool.not_eq_true] at g1
      clear hin
      go_enter Try.func22, Try.ntmps22
      go_wp2
      go_ret
      exact ⟨_, rfl, by rw [HR.out]; exact zero_FIs, 0, rfl⟩

/-- what is at least the least square is above nought -/
theorem pos_of_in {x : Nat} (h : rootIn x = true) : (FloatKind.f64.decode x).neg = false := by
  unfold rootIn at h
  rw [Bool.and_eq_true] at h
  have h1 := h.1
  show (FloatKind.f64.format.read x).neg = false
  cases hx : FloatKind.f64.format.read x with
  | number s m e =>
    cases s
    · rfl
    · exfalso
      have hy : FloatKind.f64.format.read 4427486594234968593 = .number false 4951760157141521 (-92) := by decide +kernel
      simp only [Ieee.Format.order, hx, hy, Ieee.Datum.order, Ieee.signed, if_true, Bool.false_eq_true, if_false] at h1
      have hB : 0 < 4951760157141521 <<< ((-92 : Int) - min e (-92)).toNat := by rw [Nat.shiftLeft_eq]; exact Nat.mul_pos (by decide) (Nat.two_pow_pos _)
      generalize 4951760157141521 <<< ((-92 : Int) - min e (-92)).toNat = B at *
      generalize m <<< (e - min e (-92)).toNat = A at *
      have hlt : -(A : Int) < (B : Int) := by omega
      simp [compare, compareOfLessAndEq, hlt] at h1
  | infinity s =>
    cases s
    · rfl
    · exfalso
      have hy : FloatKind.f64.format.read 4427486594234968593 = .number false 4951760157141521 (-92) := by decide +kernel
      simp [Ieee.Format.order, hx, hy, Ieee.Datum.order] at h1
  | nan s t =>
    exfalso
    have : FloatKind.f64.format.order x 4427486594234968593 = none := by simp only [Ieee.Format.order, hx]; rfl
    rw [this] at h1; simp at h1
theorem notNaN_of_in {x : Nat} (h : rootIn x = true) : fc .f64 x ≠ none := by
  intro hn
  unfold rootIn at h
  rw [order_nan_l hn] at h
  simp at h
theorem order_some {k : FloatKind} {x y : Nat} (hx : fc k x ≠ none) (hy : fc k y ≠ none) : ∃ o, k.format.order x y = some o := by
  unfold fc at hx hy
  simp only [Ieee.Format.order]
  cases h1 : k.format.read x <;> rw [h1] at hx <;> first | (exact absurd rfl hx) | skip
  all_goals (cases h2 : k.format.read y <;> rw [h2] at hy <;> first | (exact absurd rfl hy) | exact ⟨_, rfl⟩)

theorem run_max {P : Program} (x : Nat) (hin : rootIn x = true) (ts : Array TypeId) (t : TypeId) (w : World) :
    (Builtin.max_ ts t #[.float .f64 x, .float .f64 4607182418800017408]).run P w = .ok (.float .f64 (rstart x)) w := by
  obtain ⟨o, ho⟩ := order_some (notNaN_of_in hin) (show fc .f64 4607182418800017408 ≠ none by decide +kernel)
  have hp := pos_of_in hin
  cases o with
  | lt => simp [Builtin.max_, Builtin.max2, ho, rstart]
  | eq => simp [Builtin.max_, Builtin.max2, ho, rstart, hp]
  | gt => simp [Builtin.max_, Builtin.max2, ho, rstart]

set_option maxHeartbeats 2000000 in
set_option maxRecDepth 100000 in
theorem iRoot (x : Nat) (hx : x < 2 ^ FloatKind.f64.format.width) (w : World) :
    Calls Try.prog 23 #[.float .f64 x] w fun e w' => ∃ r, e = .returned (.float .f64 r) ∧ FIs .f64 r (rootC x) ∧ ∃ m, w' = w.drewN m := by
  have HX := hid hx
  clear hx
  by_cases hin : rootIn x = true
  · have hr : rootC x = riter (fc .f64 x) (fc .f64 (rstart x)) 60 := by unfold rootC; rw [if_pos hin]
    have HR := hid hr
    have hmax := run_max (P := Try.prog) x hin
    unfold rootIn at hin
    rw [Bool.and_eq_true] at hin
    obtain ⟨g1, g2⟩ := hin
    clear hr
    go_enter Try.func23, Try.ntmps23
    go_wp2
    clear hmax
    go_loopw [3, 4] (fun g i wr => ∃ (k r : Nat), k ≤ 60 ∧ g = .float .f64 r ∧ i = .int .i64 k ∧ Hid (FIs .f64 r (riter (fc .f64 x) (fc .f64 (rstart x)) k)) ∧ ∃ m, wr = w.drewN m) (fun _ i _ => 60 - (intOf i).toNat)
    case atStart => exact ⟨0, _, by omega, rfl, rfl, ⟨rfl, rstart_lt HX.out⟩, 0, rfl⟩
    case round =>
      obtain ⟨k, r, hk, rfl, rfl, HG, m, rfl⟩ := hrel
      by_cases hlt : k < 60
      · go_wp2_with (refine wpList_farith rfl _ _ _ _ _ rfl rfl _ _ _ rfl rfl ?_; intro r1 n1 hr1)
        go_roundw
        case rel => exact ⟨k + 1, _, by omega, rfl, by go_num, rstep_FIs (by assumption) (by assumption) (by assumption) HG.out, _, rfl⟩
        case measure => simp [intOf]; omega
      · obtain rfl : k = 60 := by omega
        go_wp2
        go_ret
        exact ⟨_, rfl, by rw [HR.out]; exact HG.out, _, rfl⟩
  · have hr : rootC x = some 0 := by unfold rootC; rw [if_neg hin]
    have HR := hid hr
    rw [Bool.not_eq_true] at hin
    unfold rootIn at hin
    clear hr
    by_cases g1 : (FloatKind.f64.format.order x 4427486594234968593 == some .gt || FloatKind.f64.format.order x 4427486594234968593 == some .eq) = true
    · have g2 : (FloatKind.f64.format.order x 4861130398305394688 == some .lt || FloatKind.f64.format.order x 4861130398305394688 == some .eq) = false := by simpa only [g1, Bool.true_and] using hin
      clear hin
      go_enter Try.func23, Try.ntmps23
      go_wp2
      go_ret
      exact ⟨_, rfl, by rw [HR.out]; exact zero_FIs, 0, rfl⟩
    · rw [Bool.not_eq_true] at g1
      clear hin
      go_enter Try.func23, Try.ntmps23
      go_wp2
      go_ret
      exact ⟨_, rfl, by rw [HR.out]; exact zero_FIs, 0, rfl⟩

theorem lawRoot (x : Nat) (hx : x < 2 ^ FloatKind.f64.format.width) (w : World) :
    Calls Try.prog 4 #[.float .f64 x] w fun e w' => e = .returned (.bool true) ∧ Below w.heap.size w w' := by
  have HX := hid hx
  clear hx
  go_enter Try.func4, Try.ntmps4
  go_wp2_with (first | (go_at_call 22; refine (sRoot _ HX.out _).mono ?_; rintro e w1 ⟨r1, rfl, hr1, m1, rfl⟩) | (go_at_call 23; refine (iRoot _ HX.out _).mono ?_; rintro e w1 ⟨r2, rfl, hr2, m2, rfl⟩) | (go_at_call 21; refine (same_any _ _ (rootC x) (by assumption) (by assumption) _).mono ?_; rintro e w1 ⟨rfl, m3, rfl⟩))
  go_ret
  exact ⟨rfl, below_drewN (Below.refl _ _) _⟩

/-! ### products and turns -/
/-- a product of complex numbers, part by part -/
def timesC (a b c d : Option Nat) : Option Nat × Option Nat :=
  (fop .sub .f64 (fop .mul .f64 a c) (fop .mul .f64 b d), fop .add .f64 (fop .mul .f64 a d) (fop .mul .f64 b c))

set_option maxHeartbeats 1000000 in
theorem iTimes (a b c d : Nat) (w : World) :
    Calls Try.prog 69 #[.complex .f64 a b, .complex .f64 c d] w fun e w' => ∃ r q, e = .returned (.complex .f64 r q) ∧ FIs .f64 r (timesC (fc .f64 a) (fc .f64 b) (fc .f64 c) (fc .f64 d)).1 ∧ FIs .f64 q (timesC (fc .f64 a) (fc .f64 b) (fc .f64 c) (fc .f64 d)).2 ∧ ∃ m, w' = w.drewN m := by
  go_enter Try.func69, Try.ntmps69
  go_wp2_with (refine wpList_farith rfl _ _ _ _ _ rfl rfl _ _ _ rfl rfl ?_; intro r1 n1 hr1)
  go_ret
  refine ⟨_, _, rfl, ?_, ?_, _, rfl⟩
  · exact ftimes (by assumption) (by assumption) (by assumption)
  · exact ftimes (by assumption) (by assumption) (by assumption)

set_option maxHeartbeats 1000000 in
theorem sTimes (a b c d : Nat) (w : World) :
    Calls Try.prog 66 #[.complex .f64 a b, .complex .f64 c d] w fun e w' => ∃ r q, e = .returned (.complex .f64 r q) ∧ FIs .f64 r (timesC (fc .f64 a) (fc .f64 b) (fc .f64 c) (fc .f64 d)).1 ∧ FIs .f64 q (timesC (fc .f64 a) (fc .f64 b) (fc .f64 c) (fc .f64 d)).2 ∧ ∃ m, w' = w.drewN m := by
  go_enter Try.func66, Try.ntmps66
  go_wp2_with (refine wpList_farith rfl _ _ _ _ _ rfl rfl _ _ _ rfl rfl ?_; intro r1 n1 hr1)
  go_ret
  refine ⟨_, _, rfl, ?_, ?_, _, rfl⟩
  · exact ftimes (by assumption) (by assumption) (by assumption)
  · exact ftimes (by assumption) (by assumption) (by assumption)

/-- one turned j times by a degree -/
def turnC : Nat → Option Nat × Option Nat
  | 0 => (fc .f64 4607182418800017408, fc .f64 0)
  | j + 1 => timesC (turnC j).1 (turnC j).2 (fc .f64 4607181046959943561) (fc .f64 4580687535080594718)

theorem turn_step {r q a b : Nat} {j : Nat} (ha : FIs .f64 a (turnC j).1) (hb : FIs .f64 b (turnC j).2)
    (hr : FIs .f64 r (timesC (fc .f64 a) (fc .f64 b) (fc .f64 4607181046959943561) (fc .f64 4580687535080594718)).1)
    (hq : FIs .f64 q (timesC (fc .f64 a) (fc .f64 b) (fc .f64 4607181046959943561) (fc .f64 4580687535080594718)).2) :
    FIs .f64 r (turnC (j + 1)).1 ∧ FIs .f64 q (turnC (j + 1)).2 := by
  rw [ha.1, hb.1] at hr hq; exact ⟨hr, hq⟩

theorem turn_zero : FIs .f64 4607182418800017408 (turnC 0).1 ∧ FIs .f64 0 (turnC 0).2 := ⟨⟨rfl, by decide⟩, ⟨rfl, by decide⟩⟩

set_option maxHeartbeats 1000000 in
set_option maxRecDepth 100000 in
theorem iTurn (k : Int) (w : World) :
    Calls Try.prog 25 #[.int .i64 k] w fun e w' => ∃ r q, e = .returned (.complex .f64 r q) ∧ FIs .f64 r (turnC (k % 360).toNat).1 ∧ FIs .f64 q (turnC (k % 360).toNat).2 ∧ ∃ m, w' = w.drewN m := by
  have hm0 : 0 ≤ k % 360 := by omega
  have hm1 : k % 360 < 360 := by omega
  obtain ⟨M, hM⟩ : ∃ M : Nat, M = (k % 360).toNat := ⟨_, rfl⟩
  have HM := hid hM
  have hMi : k % 360 = (M : Int) := by omega
  have HI := hid hMi
  have hM2 : M < 360 := by omega
  clear hM hMi hm0 hm1
  go_enter Try.func25, Try.ntmps25
  go_wp2_with (go_at_call 68; refine (mod_any _ _).mono ?_; rintro e w1 ⟨rfl, rfl⟩; rw [HI.out])
  go_loopw [3, 4] (fun z n wr => ∃ (j a b : Nat), j ≤ M ∧ z = .complex .f64 a b ∧ n = .int .i64 ((M : Int) - j) ∧ Hid (FIs .f64 a (turnC j).1 ∧ FIs .f64 b (turnC j).2) ∧ ∃ m, wr = w.drewN m) (fun _ n _ => (intOf n).toNat)
  case atStart => exact ⟨0, _, _, by omega, rfl, by simp, turn_zero, 0, rfl⟩
  case round =>
    obtain ⟨j, a, b, hj, rfl, rfl, HG, m, rfl⟩ := hrel
    by_cases hlt : j < M
    · go_wp2_with (go_at_call 69; refine (iTimes _ _ _ _ _).mono ?_; rintro e w1 ⟨r, q, rfl, hr, hq, n1, rfl⟩; have HT := hid (turn_step HG.out.1 HG.out.2 hr hq); clear hr hq)
      go_roundw
      case rel => exact ⟨j + 1, _, _, by omega, rfl, by congr 1; omega, HT.out, _, rfl⟩
      case measure => simp [intOf]; omega
    · obtain rfl : j = M := by omega
      go_wp2
      go_ret
      exact ⟨_, _, rfl, by rw [← HM.out]; exact HG.out.1, by rw [← HM.out]; exact HG.out.2, _, rfl⟩

set_option maxHeartbeats 1000000 in
set_option maxRecDepth 100000 in
theorem sTurn (k : Int) (w : World) :
    Calls Try.prog 24 #[.int .i64 k] w fun e w' => ∃ r q, e = .returned (.complex .f64 r q) ∧ FIs .f64 r (turnC (k % 360).toNat).1 ∧ FIs .f64 q (turnC (k % 360).toNat).2 ∧ ∃ m, w' = w.drewN m := by
  have hm0 : 0 ≤ k % 360 := by omega
  have hm1 : k % 360 < 360 := by omega
  obtain ⟨M, hM⟩ : ∃ M : Nat, M = (k % 360).toNat := ⟨_, rfl⟩
  have HM := hid hM
  have hMi : k % 360 = (M : Int) := by omega
  have HI := hid hMi
  have hM2 : M < 360 := by omega
  clear hM hMi hm0 hm1
  go_enter Try.func24, Try.ntmps24
  go_wp2_with (go_at_call 65; refine (lmod_any _ _).mono ?_; rintro e w1 ⟨rfl, rfl⟩; rw [HI.out])
  go_loopw [3, 4] (fun z n wr => ∃ (j a b : Nat), j ≤ M ∧ z = .complex .f64 a b ∧ n = .int .i64 ((M : Int) - j) ∧ Hid (FIs .f64 a (turnC j).1 ∧ FIs .f64 b (turnC j).2) ∧ ∃ m, wr = w.drewN m) (fun _ n _ => (intOf n).toNat)
  case atStart => exact ⟨0, _, _, by omega, rfl, by simp, turn_zero, 0, rfl⟩
  case round =>
    obtain ⟨j, a, b, hj, rfl, rfl, HG, m, rfl⟩ := hrel
    by_cases hlt : j < M
    · go_wp2_with (first | (go_at_call 67; go_in) | (go_at_call 66; refine (sTimes _ _ _ _ _).mono ?_; rintro e w1 ⟨r, q, rfl, hr, hq, n1, rfl⟩; have HT := hid (turn_step HG.out.1 HG.out.2 hr hq); clear hr hq))
      go_roundw
      case rel => exact ⟨j + 1, _, _, by omega, rfl, by congr 1; omega, HT.out, _, rfl⟩
      case measure => simp [intOf]; omega
    · obtain rfl : j = M := by omega
      go_wp2
      go_ret
      exact ⟨_, _, rfl, by rw [← HM.out]; exact HG.out.1, by rw [← HM.out]; exact HG.out.2, _, rfl⟩

theorem samec_any (x y u v : Nat) (c d : Option Nat) (hx : FIs .f64 x c) (hy : FIs .f64 y d) (hu : FIs .f64 u c) (hv : FIs .f64 v d) (w : World) :
    Calls Try.prog 26 #[.complex .f64 x y, .complex .f64 u v] w fun e w' => e = .returned (.bool true) ∧ ∃ n, w' = w.drewN n := by
  go_enter Try.func26, Try.ntmps26
  go_wp2_with (go_at_call 21; first | (refine (same_any _ _ c (by assumption) (by assumption) _).mono ?_; rintro e w1 ⟨rfl, m3, rfl⟩) | (refine (same_any _ _ d (by assumption) (by assumption) _).mono ?_; rintro e w1 ⟨rfl, m3, rfl⟩))
  go_ret
  exact ⟨rfl, _, rfl⟩

theorem lawTurn (k : Int) (_ : -9223372036854775808 ≤ k ∧ k ≤ 9223372036854775807) (w : World) :
    Calls Try.prog 5 #[.int .i64 k] w fun e w' => e = .returned (.bool true) ∧ Below w.heap.size w w' := by
  go_enter Try.func5, Try.ntmps5
  go_wp2_with (first | (go_at_call 24; refine (sTurn _ _).mono ?_; rintro e w1 ⟨r1, q1, rfl, hr1, hq1, m1, rfl⟩) | (go_at_call 25; refine (iTurn _ _).mono ?_; rintro e w1 ⟨r2, q2, rfl, hr2, hq2, m2, rfl⟩) | (go_at_call 26; refine (samec_any _ _ _ _ (turnC (k % 360).toNat).1 (turnC (k % 360).toNat).2 (by assumption) (by assumption) (by assumption) (by assumption) _).mono ?_; rintro e w1 ⟨rfl, m3, rfl⟩))
  go_ret
  exact ⟨rfl, below_drewN (Below.refl _ _) _⟩

end Go.Proofs.Ytjllidnkndhgmaa
