/- Turn of both sides, by the table. Its real part as a single. -/
import Derived.Test.YtgjfpclpnobggaaQt
namespace Go.Proofs.Ytgjfpclpnobggaa
open Go.Shelf Go.RowKit
open Ieee (Format Datum)
set_option maxRecDepth 100000

theorem ret_int {k : IntKind} {a b : Int} (h : a = b) : Ending.returned (.int k a) = .returned (.int k b) := by rw [h]
theorem tmod360 (n : Int) : (n.tmod 360 + 360) % 360 = n % 360 := by
  have h := Int.tmod_eq_emod (a := n) (b := 360)
  rw [h]
  split <;> simp <;> omega
theorem tmod360_bd (n : Int) : -360 < n.tmod 360 ∧ n.tmod 360 < 360 := by
  have h := Int.tmod_eq_emod (a := n) (b := 360)
  rw [h]; split <;> simp <;> omega
theorem mod_any (n : Int) (w : World) :
    Calls Try.prog 79 #[.int .i64 n] w fun e w' => e = .returned (.int .i64 (n % 360)) ∧ w = w' := by
  have hb := tmod360_bd n
  go_enter Try.func79, Try.ntmps79
  go_wp2
  go_ret
  exact ⟨ret_int (tmod360 n), rfl⟩
theorem lmod_any (n : Int) (w : World) :
    Calls Try.prog 76 #[.int .i64 n] w fun e w' => e = .returned (.int .i64 (n % 360)) ∧ w = w' := by
  have hb := tmod360_bd n
  go_enter Try.func76, Try.ntmps76
  go_wp2
  go_ret
  exact ⟨ret_int (tmod360 n), rfl⟩

/-- a turn and the next one, the parts by name -/
def StepR (a b r q : Nat) : Prop := ∃ ac bd ad bc, floatBits .mul .f64 a 4607181046959943561 = some ac ∧ floatBits .mul .f64 b 4580687535080594718 = some bd ∧ floatBits .mul .f64 a 4580687535080594718 = some ad ∧ floatBits .mul .f64 b 4607181046959943561 = some bc ∧
  floatBits .sub .f64 ac bd = some r ∧ floatBits .add .f64 ad bc = some q
theorem stepB_R {p q : Nat × Nat} (h : stepB p q = true) : StepR p.1 p.2 q.1 q.2 := by
  unfold stepB at h
  split at h
  · rename_i ac bd ad bc h1 h2 h3 h4
    simp only [Bool.and_eq_true, beq_iff_eq] at h
    exact ⟨ac, bd, ad, bc, h1, h2, h3, h4, h.1, h.2⟩
  · cases h
def turnA (j : Nat) : Nat := (tab.getD j (0, 0)).1
def turnB (j : Nat) : Nat := (tab.getD j (0, 0)).2
theorem turn_step {j : Nat} (h : j + 1 < 360) : StepR (turnA j) (turnB j) (turnA (j + 1)) (turnB (j + 1)) := by
  have h1 : j < tab.length := by rw [tab_len]; omega
  have h2 : j + 1 < tab.length := by rw [tab_len]; omega
  have := stepB_R (chain_at tab chain_ok j h2)
  unfold turnA turnB
  rw [List.getD_eq_getElem?_getD, List.getD_eq_getElem?_getD, List.getElem?_eq_getElem h1, List.getElem?_eq_getElem h2]
  exact this
theorem turn_zero : turnA 0 = 4607182418800017408 ∧ turnB 0 = 0 := by decide +kernel
theorem turn_last : ∃ r q, StepR (turnA 359) (turnB 359) r q := by
  have h : lastB = true := last_ok
  have e : tab.getLast? = some (turnA 359, turnB 359) := by decide +kernel
  unfold lastB at h
  rw [e] at h
  simp only at h
  split at h
  · rename_i ac bd ad bc h1 h2 h3 h4
    simp only [Bool.and_eq_true, Option.isSome_iff_exists] at h
    obtain ⟨⟨r, hr⟩, ⟨q, hq⟩⟩ := h
    exact ⟨r, q, ac, bd, ad, bc, h1, h2, h3, h4, hr, hq⟩
  · cases h
theorem turn_next {j : Nat} (h : j < 360) : ∃ r q, StepR (turnA j) (turnB j) r q ∧ (j + 1 < 360 → r = turnA (j + 1) ∧ q = turnB (j + 1)) := by
  by_cases h1 : j + 1 < 360
  · exact ⟨_, _, turn_step h1, fun _ => ⟨rfl, rfl⟩⟩
  · obtain rfl : j = 359 := by omega
    obtain ⟨r, q, hs⟩ := turn_last
    exact ⟨r, q, hs, fun h => absurd h h1⟩

theorem run_fop64 {op : BinOp} {t : TypeId} {x y r : Nat} (h : floatBits op .f64 x y = some r) : ∀ w : World, (binOp op t (.float .f64 x) (.float .f64 y)).run Try.prog w = .ok (.float .f64 r) w :=
  fun w => run_float_arith w op t .f64 x y r h
set_option maxHeartbeats 1000000 in
theorem iTimesT {a b r q : Nat} (h : StepR a b r q) (w : World) :
    Calls Try.prog 80 #[.complex .f64 a b, .complex .f64 4607181046959943561 4580687535080594718] w fun e w' => e = .returned (.complex .f64 r q) ∧ w = w' := by
  obtain ⟨ac, bd, ad, bc, h1, h2, h3, h4, h5, h6⟩ := h
  have e1 := run_fop64 (t := 40) h1
  have e2 := run_fop64 (t := 40) h2
  have e3 := run_fop64 (t := 40) h3
  have e4 := run_fop64 (t := 40) h4
  have e5 := run_fop64 (t := 40) h5
  have e6 := run_fop64 (t := 40) h6
  clear h1 h2 h3 h4 h5 h6
  go_enter Try.func80, Try.ntmps80
  go_wp2
  go_ret
  exact ⟨rfl, rfl⟩
set_option maxHeartbeats 1000000 in
theorem sTimesT {a b r q : Nat} (h : StepR a b r q) (w : World) :
    Calls Try.prog 77 #[.complex .f64 a b, .complex .f64 4607181046959943561 4580687535080594718] w fun e w' => e = .returned (.complex .f64 r q) ∧ w = w' := by
  obtain ⟨ac, bd, ad, bc, h1, h2, h3, h4, h5, h6⟩ := h
  have e1 := run_fop64 (t := 40) h1
  have e2 := run_fop64 (t := 40) h2
  have e3 := run_fop64 (t := 40) h3
  have e4 := run_fop64 (t := 40) h4
  have e5 := run_fop64 (t := 40) h5
  have e6 := run_fop64 (t := 40) h6
  clear h1 h2 h3 h4 h5 h6
  go_enter Try.func77, Try.ntmps77
  go_wp2
  go_ret
  exact ⟨rfl, rfl⟩

set_option maxHeartbeats 1000000 in
theorem iTurnT {k : Int} (k0 : 0 ≤ k) (k1 : k < 360) (w : World) :
    Calls Try.prog 63 #[.int .i64 k] w fun e w' => e = .returned (.complex .f64 (turnA k.toNat) (turnB k.toNat)) ∧ w = w' := by
  obtain ⟨M, hM⟩ : ∃ M : Nat, k = M := ⟨k.toNat, by omega⟩
  subst hM
  have hM2 : M < 360 := by omega
  have HI := hid (show (M : Int) % 360 = M by omega)
  have HZ := hid turn_zero
  simp only [Int.toNat_natCast]
  go_enter Try.func63, Try.ntmps63
  go_wp2_with (go_at_call 79; refine (mod_any _ _).mono ?_; rintro e w1 ⟨rfl, rfl⟩; rw [HI.out])
  go_loopw [3, 4] (fun z n wr => ∃ (j : Nat), j ≤ M ∧ z = .complex .f64 (turnA j) (turnB j) ∧ n = .int .i64 ((M : Int) - j) ∧ w = wr) (fun _ n _ => (intOf n).toNat)
  case atStart => exact ⟨0, by omega, by rw [HZ.out.1, HZ.out.2], by simp, rfl⟩
  case round =>
    obtain ⟨j, hj, rfl, rfl, rfl⟩ := hrel
    by_cases hlt : j < M
    · have HS := hid (turn_step (j := j) (by omega))
      go_wp2_with (go_at_call 80; refine (iTimesT HS.out _).mono ?_; rintro e w1 ⟨rfl, rfl⟩)
      go_roundw
      case rel => exact ⟨j + 1, by omega, rfl, by congr 1; omega, trivial⟩
      case measure => simp [intOf]; omega
    · obtain rfl : j = M := by omega
      go_wp2
      go_ret
      exact ⟨rfl, rfl⟩
set_option maxHeartbeats 1000000 in
theorem sTurnT {k : Int} (k0 : 0 ≤ k) (k1 : k < 360) (w : World) :
    Calls Try.prog 61 #[.int .i64 k] w fun e w' => e = .returned (.complex .f64 (turnA k.toNat) (turnB k.toNat)) ∧ w = w' := by
  obtain ⟨M, hM⟩ : ∃ M : Nat, k = M := ⟨k.toNat, by omega⟩
  subst hM
  have hM2 : M < 360 := by omega
  have HI := hid (show (M : Int) % 360 = M by omega)
  have HZ := hid turn_zero
  simp only [Int.toNat_natCast]
  go_enter Try.func61, Try.ntmps61
  go_wp2_with (go_at_call 76; refine (lmod_any _ _).mono ?_; rintro e w1 ⟨rfl, rfl⟩; rw [HI.out])
  go_loopw [3, 4] (fun z n wr => ∃ (j : Nat), j ≤ M ∧ z = .complex .f64 (turnA j) (turnB j) ∧ n = .int .i64 ((M : Int) - j) ∧ w = wr) (fun _ n _ => (intOf n).toNat)
  case atStart => exact ⟨0, by omega, by rw [HZ.out.1, HZ.out.2], by simp, rfl⟩
  case round =>
    obtain ⟨j, hj, rfl, rfl, rfl⟩ := hrel
    by_cases hlt : j < M
    · have HS := hid (turn_step (j := j) (by omega))
      go_wp2_with (first | (go_at_call 78; go_in) | (go_at_call 77; refine (sTimesT HS.out _).mono ?_; rintro e w1 ⟨rfl, rfl⟩))
      go_roundw
      case rel => exact ⟨j + 1, by omega, rfl, by congr 1; omega, trivial⟩
      case measure => simp [intOf]; omega
    · obtain rfl : j = M := by omega
      go_wp2
      go_ret
      exact ⟨rfl, rfl⟩

theorem narrow_run {x r : Nat} {w w' : World} (h : (Conv.floatToFloat .f64 x .f32).run Try.prog w = .ok (.float .f32 r) w') : (convert 40 36 (.float .f64 x)).run Try.prog w = .ok (.float .f32 r) w' := by
  simp only [convert, Sem.run_bind, run_underlying Try.underlying40, run_underlying Try.underlying36, Result.andThen_ok, h]
theorem p2_one' : p2 1 = 2 := p2_one
/-- the real part of a turn, as a single -/
theorem turn_narrow {j : Nat} (h : j < 360) : ∃ r, Bd 1 r ∧ ∀ w : World, (convert 40 36 (.float .f64 (turnA j))).run Try.prog w = .ok (.float .f32 r) w := by
  have h1 : j < tab.length := by rw [tab_len]; omega
  have hb : narB (tab[j]'h1) = true := List.all_eq_true.1 nar_ok _ (List.getElem_mem h1)
  have e : (tab[j]'h1).1 = turnA j := by
    unfold turnA
    rw [List.getD_eq_getElem?_getD, List.getElem?_eq_getElem h1]
    rfl
  unfold narB at hb
  rw [e] at hb
  cases hd : FloatKind.f64.decode (turnA j) with
  | nan s t => rw [hd] at hb; cases hb
  | infinity s => rw [hd] at hb; cases hb
  | number s M E =>
    rw [hd] at hb
    simp only at hb
    cases hr : FloatKind.f32.format.read (FloatKind.f32.encode (.number s M E)) with
    | nan t q => rw [hr] at hb; cases hb
    | infinity t => rw [hr] at hb; cases hb
    | number t m p =>
      rw [hr] at hb
      simp only [Bool.and_eq_true, decide_eq_true_eq] at hb
      have hni : (FloatKind.f32.decode (FloatKind.f32.encode (.number s M E))).isInfinity = false := by
        show (FloatKind.f32.format.read _).isInfinity = false
        rw [hr]; rfl
      have hm : (m : Rat) ≤ ((2 ^ 24 : Nat) : Rat) := by exact_mod_cast (show m ≤ 2 ^ 24 by omega)
      rw [← p2_nat] at hm
      have h2 := p2_mono hb.2
      have h3 := Rat.mul_le_mul_of_nonneg_right hm (Rat.le_of_lt (p2_pos p))
      have h4 := Rat.mul_le_mul_of_nonneg_left h2 (Rat.le_of_lt (p2_pos (24 : Nat)))
      rw [← p2_add (24 : Nat) (-23)] at h4
      have h5 : p2 (((24 : Nat) : Int) + -23) = p2 1 := rfl
      rw [h5] at h4
      have hn := nn m p
      refine ⟨_, ⟨⟨t, m, p, hr⟩, ?_, ?_⟩, fun w => narrow_run ?_⟩
      · rw [V_eq hr]
        rcases sg_cases t with ht | ht <;> rw [ht] <;> grind
      · rw [V_eq hr]
        rcases sg_cases t with ht | ht <;> rw [ht] <;> grind
      · unfold Conv.floatToFloat; rw [if_neg (by decide), hd]; simp only [hni]; rfl
end Go.Proofs.Ytgjfpclpnobggaa
