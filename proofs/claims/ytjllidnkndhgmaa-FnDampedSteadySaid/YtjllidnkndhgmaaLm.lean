/- The law of the mean of four winds that are alike: its walk. -/
import Derived.Test.YtjllidnkndhgmaaLw
namespace Go.Proofs.Ytjllidnkndhgmaa
open Go.RowKit
open Ieee (Format Datum)

/-- a finite word in the other kind, where the value is one of that kind -/
theorem cvt_val {src dst : FloatKind} {x r : Nat} (hx : Fnt src x) (h : Cvt src dst x r) {s : Bool} {c : Nat} {t : Int} (hv : V src x = sg s * (c * p2 t)) (hc : c ≤ 2 ^ (dst.format.fractionBits + 1)) (ht : dst.format.leastPlace ≤ t)
    (hB : -p2 (emax dst.format) < V src x ∧ V src x < p2 (emax dst.format)) : Fnt dst r ∧ V dst r = V src x := by
  obtain ⟨s', M, E, hr⟩ := hx
  have e := V_eq hr
  rw [e] at hB
  obtain ⟨M2, E2, h1, h2⟩ := write_num dst.format (wide_of dst) s' M E (abs_sg _ (nn _ _) hB)
  have hdec : src.decode x = .number s' M E := hr
  have hni : (dst.decode (dst.encode (.number s' M E))).isInfinity = false := by
    show (dst.format.read (dst.format.write (.number s' M E))).isInfinity = false
    rw [h1]; rfl
  have hre := h.2.2.2 s' M E hdec hni
  have hrd : dst.format.read r = .number s' M2 E2 := by rw [hre]; exact h1
  refine ⟨⟨_, _, _, hrd⟩, ?_⟩
  rw [V_eq hrd, e]
  rw [e] at hv
  exact h2.exact hv hc ht

/-- the sum of k alike, from nought -/
def sumC (c : Option Nat) : Nat → Option Nat
  | 0 => some 0
  | k + 1 => fop .add .f64 (sumC c k) c

theorem sum_val {x : Nat} (hx : Fnt .f64 x) {s : Bool} {M : Nat} {E : Int} (hv : V .f64 x = sg s * (M * p2 E)) (hM : M ≤ 2 ^ 24) (hE : -1074 ≤ E) (hb1 : -100 ≤ V .f64 x) (hb2 : V .f64 x ≤ 100) :
    ∀ k, k ≤ 4 → ∃ r, sumC (some x) k = some r ∧ Fnt .f64 r ∧ V .f64 r = k * V .f64 x
  | 0, _ => ⟨0, rfl, zero_fnt.1, by rw [zero_fnt.2]; simp⟩
  | k + 1, hk => by
    obtain ⟨r, h1, h2, h3⟩ := sum_val hx hv hM hE hb1 hb2 k (by omega)
    have hp := p1023_big
    have k4 : (k : Rat) ≤ 4 := by exact_mod_cast (show k ≤ 4 by omega)
    have k0 : (0 : Rat) ≤ k := by exact_mod_cast Nat.zero_le k
    have b1 : -400 ≤ k * V .f64 x ∧ k * V .f64 x ≤ 400 := by
      have a1 := Rat.mul_nonneg k0 (show 0 ≤ 100 - V .f64 x by grind)
      have a2 := Rat.mul_nonneg k0 (show 0 ≤ 100 + V .f64 x by grind)
      constructor <;> grind
    obtain ⟨q, hq, hqf, hqn⟩ := add_fin .f64 h2 hx (by rw [h3]; constructor <;> grind)
    refine ⟨q, ?_, hqf, ?_⟩
    · show fop .add .f64 (sumC (some x) k) (some x) = some q
      rw [h1]; exact hq
    · rw [h3] at hqn
      have hX : (k : Rat) * V .f64 x + V .f64 x = sg s * (((k + 1) * M : Nat) * p2 E) := by rw [hv]; push_cast; grind
      have := hqn.exact (s := s) (c := (k + 1) * M) (t := E) hX (by rw [fb64]; have := Nat.mul_le_mul (show k + 1 ≤ 4 by omega) hM; omega) (by rw [lp64]; omega)
      rw [this]; push_cast; grind

theorem four_fnt : Fnt .f64 (floatOfInt .f64 4) ∧ V .f64 (floatOfInt .f64 4) = 4 := ofInt_fin .f64 4 (by decide)

/-- the mean of four alike, told of one part -/
theorem mean_plain {a x : Nat} (ha : Fnt .f32 a) (a1 : -100 ≤ V .f32 a) (a2 : V .f32 a ≤ 100) (hx : Cvt .f32 .f64 a x) :
    ∃ m, fop .quo .f64 (sumC (some x) 4) (fc .f64 (floatOfInt .f64 4)) = some m ∧ fc .f64 x = some x ∧ ∀ r, Cvt .f64 .f32 m r → FloatKind.f32.format.order r a = some .eq := by
  have hp := p1023_big
  have hp2 := p127_big
  obtain ⟨s, M, E, hr, hv, hM, hE⟩ := grid .f32 ha
  rw [fb32] at hM
  rw [lp32] at hE
  obtain ⟨xf, xv⟩ := cvt_val ha hx hv (by rw [fb64]; omega) (by rw [lp64]; omega) (by constructor <;> grind)
  obtain ⟨r4, h1, h2, h3⟩ := sum_val xf (s := s) (M := M) (E := E) (by rw [xv, hv]) (by omega) (by omega) (by rw [xv]; exact a1) (by rw [xv]; exact a2) 4 (by omega)
  have h3' : V .f64 r4 = 4 * V .f64 x := h3
  have hd : V .f64 r4 / V .f64 (floatOfInt .f64 4) = V .f64 x := by rw [h3', four_fnt.2]; grind
  obtain ⟨m, hm, hmf, hmn⟩ := div_fin .f64 h2 four_fnt.1 (by rw [four_fnt.2]; decide) (by rw [hd, xv]; constructor <;> grind)
  rw [hd, xv] at hmn
  have hmv : V .f64 m = V .f32 a := hmn.exact hv (by rw [fb64]; omega) (by rw [lp64]; omega)
  refine ⟨m, ?_, fc_fnt xf, fun r hr => ?_⟩
  · rw [h1, fc_fnt four_fnt.1]; exact hm
  · obtain ⟨rf, rv⟩ := cvt_val hmf hr (s := s) (c := M) (t := E) (by rw [hmv, hv]) (by rw [fb32]; omega) (by rw [lp32]; omega) (by rw [hmv]; constructor <;> grind)
    exact order_eq_of rf ha (by rw [rv, hmv])

theorem cvt_det {a x y : Nat} (ha : Fnt .f32 a) (a1 : -100 ≤ V .f32 a) (a2 : V .f32 a ≤ 100) (hx : Cvt .f32 .f64 a x) (hy : Cvt .f32 .f64 a y) : x = y := by
  have hp := p1023_big
  obtain ⟨s, M, E, hr, hv, hM, hE⟩ := grid .f32 ha
  rw [fb32] at hM
  rw [lp32] at hE
  have e := V_eq hr
  have hB : -p2 (emax FloatKind.f64.format) < V .f32 a ∧ V .f32 a < p2 (emax FloatKind.f64.format) := by constructor <;> grind
  rw [e] at hB
  obtain ⟨M2, E2, h1, h2⟩ := write_num FloatKind.f64.format (wide_of .f64) s M E (abs_sg _ (nn _ _) hB)
  have hni : (FloatKind.f64.decode (FloatKind.f64.encode (.number s M E))).isInfinity = false := by
    show (FloatKind.f64.format.read (FloatKind.f64.format.write (.number s M E))).isInfinity = false
    rw [h1]; rfl
  rw [hx.2.2.2 s M E hr hni, hy.2.2.2 s M E hr hni]

/-- a number in the other kind: there is one -/
theorem cvt_some (src dst : FloatKind) (hne : src ≠ dst) (x : Nat) : ∃ r, Cvt src dst x r := by
  obtain ⟨r, _, _, h⟩ := run_fconv_any (P := Try.prog) default src dst hne x
  exact ⟨r, h⟩

/-- the cells of four alike -/
def Four (w : World) (b a q : Nat) : Prop := ∀ j, j < 4 → w.cell? ⟨b, j, none⟩ = some (.complex .f32 a q)

set_option maxHeartbeats 1000000 in
theorem iVels4 (b a q : Nat) (fa : Fit .f32 a) (fq : Fit .f32 q) (w : World) (h : Four w b a q) :
    Calls Try.prog 87 #[.slice (some ⟨b, 0, none⟩) 4 4] w fun e w' => e = .returned (.bool (velOk a q)) ∧ w = w' := by
  have H := hid h
  have FA := hid fa; have FQ := hid fq
  clear h fa fq
  cases hv : velOk a q
  · have HV := hid hv
    clear hv
    have hc := H.out 0 (by omega)
    go_enter Try.func87, Try.ntmps87
    go_wp2
    refine wp_loop_rounds 1 ?_
    rw [rounds_succ]
    go_wp2_with (go_at_call 48; refine (iVelocityOk _ _ FA.out FQ.out _).mono ?_; rintro e w1 ⟨rfl, rfl⟩; rw [HV.out])
    go_ret
    exact ⟨rfl, rfl⟩
  · have HV := hid hv
    clear hv
    go_enter Try.func87, Try.ntmps87
    go_wp2
    go_loop [7] (fun i => ∃ k : Nat, k ≤ 4 ∧ i = .int .i64 k) (fun i => 4 - (intOf i).toNat)
    case atStart => exact ⟨0, by omega, rfl⟩
    case round =>
      obtain ⟨k, hk, rfl⟩ := hrel
      by_cases hlt : k < 4
      · have hc := H.out k hlt
        go_wp2_with (go_at_call 48; refine (iVelocityOk _ _ FA.out FQ.out _).mono ?_; rintro e w1 ⟨rfl, rfl⟩; rw [HV.out])
        go_round
        case rel => exact ⟨k + 1, by omega, by go_num⟩
        case measure => simp [intOf]; omega
      · obtain rfl : k = 4 := by omega
        go_wp2
        go_ret
        exact ⟨rfl, rfl⟩

theorem sum_step {c : Option Nat} {x k : Nat} {r r2 : Nat} (hr : FIs .f64 r (sumC (some x) k)) (hx : fc .f64 x = some x) (h : FIs .f64 r2 (fop .add .f64 (fc .f64 r) (fc .f64 x))) (_ : c = c) : FIs .f64 r2 (sumC (some x) (k + 1)) := by
  rw [hr.1, hx] at h; exact h

set_option maxHeartbeats 2000000 in
set_option maxRecDepth 100000 in
theorem iMean4 (b a q : Nat) (fa : Fit .f32 a) (fq : Fit .f32 q) (w : World) (h : Four w b a q) :
    Calls Try.prog 43 #[.slice (some ⟨b, 0, none⟩) 4 4] w fun e w' => ∃ r s, e = .returned (.tuple #[.complex .f32 r s, .bool (velOk a q)]) ∧
      Hid ((velOk a q = false → r = 0 ∧ s = 0) ∧ (velOk a q = true → FloatKind.f32.format.order r a = some .eq ∧ FloatKind.f32.format.order s q = some .eq)) ∧ ∃ m, w' = w.drewN m := by
  have H := hid h
  have FA := hid fa; have FQ := hid fq
  clear fa fq h
  cases hv : velOk a q
  · have HV := hid hv
    clear hv
    go_enter Try.func43, Try.ntmps43
    go_wp2_with (first | (go_at_call 86; go_in) | (go_at_call 87; refine (iVels4 _ _ _ FA.out FQ.out _ H.out).mono ?_; rintro e w1 ⟨rfl, rfl⟩; rw [HV.out]))
    go_ret2
    exact ⟨_, _, rfl, ⟨fun _ => ⟨rfl, rfl⟩, (fun h => by cases h)⟩, 0, rfl⟩
  · obtain ⟨⟨af, a1, a2⟩, ⟨qf, q1, q2⟩⟩ := vel_fnt hv
    obtain ⟨x, hx⟩ := cvt_some .f32 .f64 (by decide) a
    obtain ⟨y, hy⟩ := cvt_some .f32 .f64 (by decide) q
    obtain ⟨mx, px, fx, ox⟩ := mean_plain af a1 a2 hx
    obtain ⟨my, py, fy, oy⟩ := mean_plain qf q1 q2 hy
    have DX : Hid (∀ z, Cvt .f32 .f64 a z → z = x) := fun z hz => cvt_det af a1 a2 hz hx
    have DY : Hid (∀ z, Cvt .f32 .f64 q z → z = y) := fun z hz => cvt_det qf q1 q2 hz hy
    have PX := hid px; have PY := hid py; have GX := hid fx; have GY := hid fy; have OX := hid ox; have OY := hid oy
    have HV := hid hv
    clear hv af a1 a2 qf q1 q2 hx hy px py fx fy ox oy
    go_enter Try.func43, Try.ntmps43
    go_wp2_with (first | (go_at_call 86; go_in) | (go_at_call 87; refine (iVels4 _ _ _ FA.out FQ.out _ H.out).mono ?_; rintro e w1 ⟨rfl, rfl⟩; rw [HV.out]))
    go_loopw [4, 5, 20] (fun u v i wr => ∃ (k r s : Nat), k ≤ 4 ∧ i = .int .i64 k ∧ u = .float .f64 r ∧ v = .float .f64 s ∧ Hid (FIs .f64 r (sumC (some x) k) ∧ FIs .f64 s (sumC (some y) k)) ∧ ∃ m, wr = w.drewN m) (fun _ _ i _ => 4 - (intOf i).toNat)
    case atStart => exact ⟨0, 0, 0, by omega, rfl, rfl, rfl, ⟨zero_FIs, zero_FIs⟩, 0, rfl⟩
    case round =>
      obtain ⟨k, r, s, hk, rfl, rfl, rfl, HR, m, rfl⟩ := hrel
      by_cases hlt : k < 4
      · have hc := H.out k hlt
        have tok1 : True := trivial
        go_wp2_with (first | ((refine wpList_fconv rfl _ _ _ rfl .f32 .f64 _ rfl Try.underlying39 Try.underlying22 (by decide) ?_); have _t := tok1; intro z n1 hz; obtain rfl := DX.out z hz; clear tok1 hz) | ((refine wpList_fconv rfl _ _ _ rfl .f32 .f64 _ rfl Try.underlying39 Try.underlying22 (by decide) ?_); intro z n1 hz; obtain rfl := DY.out z hz; clear hz) | (refine wpList_farith rfl _ _ _ _ _ rfl rfl _ _ _ rfl rfl ?_; intro r n hr))
        go_roundw
        case rel => exact ⟨k + 1, _, _, by omega, by go_num, rfl, rfl, ⟨sum_step (c := none) HR.out.1 GX.out (by assumption) rfl, sum_step (c := none) HR.out.2 GY.out (by assumption) rfl⟩, _, rfl⟩
        case measure => simp [intOf]; omega
      · obtain rfl : k = 4 := by omega
        have h1 := HR.out.1.1
        have h2 := HR.out.2.1
        have H1 := hid h1; have H2 := hid h2
        clear h1 h2
        have tok1 : True := trivial
        have tok2 : True := trivial
        go_wp2_with (first | ((refine wpList_farith rfl _ _ _ _ _ rfl rfl _ _ _ rfl rfl ?_); have _t := tok1; intro z n1 hz; rw [H1.out, PX.out] at hz; obtain rfl := hz.eq; clear hz tok1) | ((refine wpList_fconv rfl _ _ _ rfl .f64 .f32 _ rfl Try.underlying22 Try.underlying39 (by decide) ?_); have _t := tok2; intro z2 n2 hz2; have O1 := hid (OX.out z2 hz2); clear hz2 tok2) | ((refine wpList_farith rfl _ _ _ _ _ rfl rfl _ _ _ rfl rfl ?_); intro z n1 hz; rw [H2.out, PY.out] at hz; obtain rfl := hz.eq; clear hz) | ((refine wpList_fconv rfl _ _ _ rfl .f64 .f32 _ rfl Try.underlying22 Try.underlying39 (by decide) ?_); intro z3 n3 hz3; have O2 := hid (OY.out z3 hz3); clear hz3))
        go_ret2
        exact ⟨_, _, rfl, ⟨(fun h => by cases h), fun _ => ⟨O1.out, O2.out⟩⟩, _, rfl⟩

set_option maxHeartbeats 4000000 in
set_option maxRecDepth 100000 in
theorem lawMeanAlike (A : Option Addr) (n c : Nat) (w : World) (hr : RdB w A n) :
    Calls Try.prog 12 #[.slice A n c] w fun e w' => e = .returned (.bool true) ∧ Below w.heap.size w w' := by
  have hn := hr.1
  by_cases hbig : n > 1048576
  · clear hr
    go_enter Try.func12, Try.ntmps12
    go_wp2
    go_ret
    exact ⟨rfl, Below.refl _ _⟩
  · go_enter Try.func12, Try.ntmps12
    go_wp2_with (go_at_call 27; go_in)
    refine (dFromOf _ hr (Below.refl _ _)).mono ?_
    clear hr
    rintro e w1 ⟨a, q, rfl, fa, fq, hB⟩
    have HB := hid hB
    have FA := hid fa; have FQ := hid fq
    clear hB fa fq
    have four : ∀ w : World, Four (w.alloc (.cells #[.complex .f32 a q, .complex .f32 a q, .complex .f32 a q, .complex .f32 a q] 38)) w.heap.size a q := by
      intro w j hj
      have hb : (w.alloc (.cells #[.complex .f32 a q, .complex .f32 a q, .complex .f32 a q, .complex .f32 a q] 38)).heap[w.heap.size]? = some (.cells #[.complex .f32 a q, .complex .f32 a q, .complex .f32 a q, .complex .f32 a q] 38) := by simpa using heap_alloc_new w _
      rw [block_cell hb j]
      match j, hj with
      | 0, _ | 1, _ | 2, _ | 3, _ => rfl
    go_wp2_with fail
    refine (iMean4 _ _ _ FA.out FQ.out _ (four _)).mono ?_
    clear four
    rintro e w2 ⟨r, s, rfl, HM, m, rfl⟩
    cases hv : velOk a q
    · have HV := hid hv
      obtain ⟨rfl, rfl⟩ := HM.out.1 hv
      clear hv HM
      go_wp2_with (go_at_call 44; refine (sVelocityOk _ _ FA.out FQ.out _).mono ?_; rintro e w1 ⟨rfl, rfl⟩; rw [HV.out])
      go_ret
      exact ⟨by first | rfl | decide, below_drewN (HB.out.alloc HB.out.size _) _⟩
    · have HV := hid hv
      have h1 := (HM.out.2 hv).1
      have h2 := (HM.out.2 hv).2
      have b1 : (FloatKind.f32.format.order r a == some .eq) = true := by rw [h1]; rfl
      have b2 : (FloatKind.f32.format.order s q == some .eq) = true := by rw [h2]; rfl
      clear hv HM h1 h2
      go_wp2_with (go_at_call 44; refine (sVelocityOk _ _ FA.out FQ.out _).mono ?_; rintro e w1 ⟨rfl, rfl⟩; rw [HV.out])
      go_ret
      exact ⟨by first | rfl | simp [*], below_drewN (HB.out.alloc HB.out.size _) _⟩

end Go.Proofs.Ytjllidnkndhgmaa
