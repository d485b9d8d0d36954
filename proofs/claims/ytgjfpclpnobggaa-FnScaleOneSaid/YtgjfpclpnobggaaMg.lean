/- Lists of the same singles; polars that are the same: the law's own functions. -/
import Derived.Test.YtgjfpclpnobggaaMf
namespace Go.Proofs.Ytgjfpclpnobggaa
open Go.Shelf Go.RowKit
open Ieee (Format Datum)

/-- a double that is not 0, or one of the two zeros -/
def Dbl (c : Nat) : Prop := fc .f64 c ≠ none ∧ ((FloatKind.f64.format.order c 0 == some .eq) = false ∨ c = 0 ∨ c = 9223372036854775808)
theorem conv_same {x y : Nat} (h : SameD x y) : ∃ c, Dbl c ∧ (∀ w : World, (convert 36 40 (.float .f32 x)).run Try.prog w = .ok (.float .f64 c) w) ∧ ∀ w : World, (convert 36 40 (.float .f32 y)).run Try.prog w = .ok (.float .f64 c) w := by
  obtain ⟨⟨s, M, E, hr⟩, hd⟩ := h
  have hdx : FloatKind.f32.decode x = .number s M E := hr
  have hdy : FloatKind.f32.decode y = .number s M E := hd ▸ hdx
  obtain ⟨h1, h2⟩ := big32 hr
  have hlt := wide_lt h1 h2
  obtain ⟨M2, E2, h3, hn⟩ := write_num FloatKind.f64.format (wide_of .f64) s M E hlt
  have hni : (FloatKind.f64.decode (FloatKind.f64.encode (.number s M E))).isInfinity = false := by
    show (FloatKind.f64.format.read (FloatKind.f64.format.write (.number s M E))).isInfinity = false
    rw [h3]; rfl
  have run : ∀ z, FloatKind.f32.decode z = .number s M E → ∀ w : World, (convert 36 40 (.float .f32 z)).run Try.prog w = .ok (.float .f64 (FloatKind.f64.encode (.number s M E))) w := fun z hz w => by
    refine conv_run ?_
    unfold Conv.floatToFloat; rw [if_neg (by decide), hz]; simp only [hni]; rfl
  refine ⟨FloatKind.f64.encode (.number s M E), ⟨enc_nn (d := .number s M E) rfl, ?_⟩, run x hdx, run y hdy⟩
  by_cases hM : M = 0
  · right
    subst hM
    cases s
    · left; rfl
    · right; rfl
  · left
    have hf : Fnt .f64 (FloatKind.f64.encode (.number s M E)) := ⟨s, M2, E2, h3⟩
    have hz : Fnt .f64 0 := ⟨false, 0, _, rfl⟩
    have hz0 : V .f64 0 = 0 := by
      have : FloatKind.f64.format.read 0 = .number false 0 FloatKind.f64.format.leastPlace := rfl
      rw [V_eq this]; simp
    have hlp : FloatKind.f64.format.leastPlace ≤ E := by
      have := norm32 hr
      have : FloatKind.f64.format.leastPlace = -1074 := by decide
      omega
    have hv := hn.exact (s := s) (c := M) (t := E) rfl (by show M ≤ 2 ^ 53; omega) hlp
    have hne : V .f64 (FloatKind.f64.encode (.number s M E)) ≠ 0 := by
      have hV := V_eq (k := .f64) h3
      have hMp : (0 : Rat) < M := nat_ne_zero_rat hM
      have hp := Rat.mul_pos hMp (p2_pos E)
      have hV2 : V .f64 (FloatKind.f64.encode (.number s M E)) = sg s * (M * p2 E) := by
        show V .f64 (FloatKind.f64.format.write (.number s M E)) = _
        rw [hV]
        grind
      rw [hV2]
      rcases sg_cases s with h5 | h5 <;> rw [h5] <;> grind
    rw [order_fin .f64 hf hz, hz0]
    split
    · rfl
    · first | rfl | (split; (next h => exact absurd h hne); rfl)
theorem zero_q : floatBits .quo .f64 4607182418800017408 0 = some 9218868437227405312 ∧ floatBits .quo .f64 4607182418800017408 9223372036854775808 = some 18442240474082181120 := by decide +kernel
theorem run_dop {op : BinOp} {t : TypeId} {x y r : Nat} (h : floatBits op .f64 x y = some r) : ∀ w : World, (binOp op t (.float .f64 x) (.float .f64 y)).run Try.prog w = .ok (.float .f64 r) w :=
  fun w => run_float_arith w op t .f64 x y r h
theorem same64C {c : Nat} (h : Dbl c) (w : World) :
    Calls Try.prog 86 #[.float .f64 c, .float .f64 c] w fun e w' => e = .returned (.bool true) ∧ w = w' := by
  obtain ⟨hc, h⟩ := h
  have h1 := order_self hc
  clear hc
  rcases h with h0 | rfl | rfl
  · have h2 : (FloatKind.f64.format.order c 0 != some .eq) = true := by simp [bne, h0]
    go_enter Try.func86, Try.ntmps86
    go_wp2
    go_ret
    exact ⟨rfl, rfl⟩
  · have e1 := run_dop (t := 40) zero_q.1
    have e2 : FloatKind.f64.format.order 9218868437227405312 9218868437227405312 = some .eq := by decide +kernel
    go_enter Try.func86, Try.ntmps86
    go_wp2
    go_ret
    exact ⟨rfl, rfl⟩
  · have e1 := run_dop (t := 40) zero_q.2
    have e2 : FloatKind.f64.format.order 18442240474082181120 18442240474082181120 = some .eq := by decide +kernel
    have e3 : FloatKind.f64.format.order 9223372036854775808 0 = some .eq := by decide +kernel
    go_enter Try.func86, Try.ntmps86
    go_wp2
    go_ret
    exact ⟨rfl, rfl⟩
theorem same32C {x y : Nat} (h : SameD x y) (w : World) :
    Calls Try.prog 75 #[.float .f32 x, .float .f32 y] w fun e w' => e = .returned (.bool true) ∧ w = w' := by
  obtain ⟨c, hc, h1, h2⟩ := conv_same h
  have HC := hid hc
  clear hc h
  go_enter Try.func75, Try.ntmps75
  go_wp2_with fail
  refine (same64C HC.out _).mono ?_
  rintro e w1 ⟨rfl, rfl⟩
  go_wp2
  go_ret
  exact ⟨rfl, rfl⟩

set_option maxHeartbeats 1000000 in
set_option maxRecDepth 100000 in
theorem singlesC {w : World} {a b : Value} {xs ys : List Nat} (hl : xs.length ≤ 1000) (hy : ys.length = xs.length) (hxy : ∀ j (h : j < xs.length) (h' : j < ys.length), SameD xs[j] ys[j]) (ha : RdF w a xs) (hb : RdF w b ys) :
    Calls Try.prog 53 #[a, b] w fun e w' => e = .returned (.bool true) ∧ Below w.heap.size w w' := by
  have HA0 := hid ha
  have HB0 := hid hb
  have HY := hid hy
  have HXY := hid hxy
  obtain ⟨_, A, ca, rfl, hA⟩ := ha
  obtain ⟨_, B, cb, rfl, hB⟩ := hb
  rw [hy] at HB0 ⊢
  clear hA hB hy hxy
  go_enter Try.func53, Try.ntmps53
  go_wp2
  go_loopw [5] (fun iv wr => ∃ i : Nat, iv = .int .i64 i ∧ i ≤ xs.length ∧ Hid (Below w.heap.size w wr)) (fun iv _ => 2000 - (intOf iv).toNat)
  case atStart => exact ⟨0, rfl, by omega, Below.refl _ _⟩
  case round =>
    obtain ⟨i, rfl, hi, HW⟩ := hrel
    by_cases hlt : i < xs.length
    · have hlt' : i < ys.length := by have := HY.out; omega
      obtain ⟨_, A', ca', hv, hA⟩ := HA0.out.below HW.out
      injection hv with hv1 hv2 hv3
      subst hv1; subst hv3
      obtain ⟨_, B', cb', hv, hB⟩ := HB0.out.below HW.out
      injection hv with hv1 hv2 hv3
      subst hv1; subst hv3
      obtain ⟨ba, rfl, hca⟩ := hA i hlt
      obtain ⟨bb, rfl, hcb⟩ := hB i hlt'
      have HS := hid (HXY.out i hlt hlt')
      clear hA hB hv2
      generalize xs[i] = x at hca HS
      generalize ys[i] = y at hcb HS
      go_wp2_with fail
      go_quiet ((refine (same32C HS.out _).mono ?_; rintro e w1 ⟨rfl, rfl⟩; exact ⟨rfl, _, rfl⟩))
      go_wp2
      go_roundw
      case rel => exact ⟨i + 1, by go_num, by omega, below_drewN HW.out _⟩
      case measure => (simp [intOf]; try omega)
    · obtain rfl : i = xs.length := by omega
      go_wp2
      go_ret
      exact ⟨rfl, HW.out⟩

set_option maxHeartbeats 1000000 in
set_option maxRecDepth 100000 in
theorem intsC {w : World} {a b : Value} {xs : List Int} (hl : xs.length ≤ 1000) (ha : RdI w a xs) (hb : RdI w b xs) :
    Calls Try.prog 54 #[a, b] w fun e w' => e = .returned (.bool true) ∧ Below w.heap.size w w' := by
  have HA0 := hid ha
  have HB0 := hid hb
  obtain ⟨_, A, ca, rfl, hA⟩ := ha
  obtain ⟨_, B, cb, rfl, hB⟩ := hb
  clear hA hB
  go_enter Try.func54, Try.ntmps54
  go_wp2
  go_loopw [5] (fun iv wr => ∃ i : Nat, iv = .int .i64 i ∧ i ≤ xs.length ∧ Hid (Below w.heap.size w wr)) (fun iv _ => 2000 - (intOf iv).toNat)
  case atStart => exact ⟨0, rfl, by omega, Below.refl _ _⟩
  case round =>
    obtain ⟨i, rfl, hi, HW⟩ := hrel
    by_cases hlt : i < xs.length
    · obtain ⟨_, A', ca', hv, hA⟩ := HA0.out.below HW.out
      injection hv with hv1 hv2 hv3
      subst hv1; subst hv3
      obtain ⟨_, B', cb', hv, hB⟩ := HB0.out.below HW.out
      injection hv with hv1 hv2 hv3
      subst hv1; subst hv3
      obtain ⟨ba, rfl, hca⟩ := hA i hlt
      obtain ⟨bb, rfl, hcb⟩ := hB i hlt
      clear hA hB
      generalize xs[i] = x at hca hcb
      go_wp2_with fail
      go_region
      go_wp2
      go_roundw
      case rel => exact ⟨i + 1, by go_num, by omega, HW.out.drew⟩
      case measure => (simp [intOf]; try omega)
    · obtain rfl : i = xs.length := by omega
      go_wp2
      go_ret
      exact ⟨rfl, HW.out⟩
end Go.Proofs.Ytgjfpclpnobggaa
