/- The laws of winds that come back, and of damped winds that stay: their walks. -/
import Derived.Test.YtjllidnkndhgmaaLr
namespace Go.Proofs.Ytjllidnkndhgmaa
open Go.RowKit

theorem FIs.fnt {k : FloatKind} {r c : Nat} (h : FIs k r (some c)) : r = c := h.eq

/-- winds in eighths -/
theorem winds_plain {a b x y : Nat} {n m p q : Int} (ha : E8 a n) (hb : E8 b m) (hx : E8 x p) (hy : E8 y q) (h1 : n.natAbs ≤ 100) (h2 : m.natAbs ≤ 100) (h3 : p.natAbs ≤ 100) (h4 : q.natAbs ≤ 100) :
    ∃ r s t u v z, velOk a b = true ∧ velOk x y = true ∧ fop .sub .f32 (fc .f32 a) (fc .f32 x) = some r ∧ fop .sub .f32 (fc .f32 b) (fc .f32 y) = some s ∧ velOk r s = true ∧
      fop .add .f32 (fc .f32 r) (fc .f32 x) = some t ∧ fop .add .f32 (fc .f32 s) (fc .f32 y) = some u ∧ FloatKind.f32.format.order t a = some .eq ∧ FloatKind.f32.format.order u b = some .eq ∧
      dampC (fc .f32 x) (fc .f32 a) (fc .f32 1065353216) = some v ∧ dampC (fc .f32 y) (fc .f32 b) (fc .f32 1065353216) = some z ∧ FloatKind.f32.format.order v a = some .eq ∧ FloatKind.f32.format.order z b = some .eq := by
  obtain ⟨r, hr, hr8⟩ := sub8 ha hx (by omega)
  obtain ⟨s, hs, hs8⟩ := sub8 hb hy (by omega)
  obtain ⟨t, ht, ht8⟩ := add8 hr8 hx (by omega)
  obtain ⟨u, hu, hu8⟩ := add8 hs8 hy (by omega)
  obtain ⟨r1, hr1, hr18⟩ := mul_one8 hr8 (by omega)
  obtain ⟨s1, hs1, hs18⟩ := mul_one8 hs8 (by omega)
  obtain ⟨v, hv, hv8⟩ := add8 hx hr18 (by omega)
  obtain ⟨z, hz, hz8⟩ := add8 hy hs18 (by omega)
  have e1 : n - p + p = n := by omega
  have e2 : m - q + q = m := by omega
  have e3 : p + (n - p) = n := by omega
  have e4 : q + (m - q) = m := by omega
  rw [e1] at ht8; rw [e2] at hu8; rw [e3] at hv8; rw [e4] at hz8
  refine ⟨r, s, t, u, v, z, e8_vel ha hb (by omega) (by omega), e8_vel hx hy (by omega) (by omega), ?_, ?_, e8_vel hr8 hs8 (by omega) (by omega), ?_, ?_, order_eq_of ht8.1 ha.1 (by rw [ht8.2, ha.2]), order_eq_of hu8.1 hb.1 (by rw [hu8.2, hb.2]), ?_, ?_, order_eq_of hv8.1 ha.1 (by rw [hv8.2, ha.2]), order_eq_of hz8.1 hb.1 (by rw [hz8.2, hb.2])⟩
  · rw [fc_fnt ha.1, fc_fnt hx.1]; exact hr
  · rw [fc_fnt hb.1, fc_fnt hy.1]; exact hs
  · rw [fc_fnt hr8.1, fc_fnt hx.1]; exact ht
  · rw [fc_fnt hs8.1, fc_fnt hy.1]; exact hu
  · unfold dampC
    rw [fc_fnt hx.1, fc_fnt ha.1, fc_fnt one32.1]
    have k1 : fop .sub .f32 (some a) (some x) = some r := hr
    have k2 : fop .mul .f32 (some r) (some 1065353216) = some r1 := hr1
    rw [k1, k2]; exact hv
  · unfold dampC
    rw [fc_fnt hy.1, fc_fnt hb.1, fc_fnt one32.1]
    have k1 : fop .sub .f32 (some b) (some y) = some s := hs
    have k2 : fop .mul .f32 (some s) (some 1065353216) = some s1 := hs1
    rw [k1, k2]; exact hz

theorem share_one : shOk 1065353216 = true := by decide +kernel
theorem share_zero : shOk 0 = true := by decide +kernel

theorem floatBits_fit {op : BinOp} {k : FloatKind} {x y r : Nat} (h : floatBits op k x y = some r) : Fit k r := by
  have := floatBits_wf h
  cases k <;> (simp only [Lit.wf, decide_eq_true_eq] at this; exact this)
theorem quo8_run {n : Int} {r : Nat} (h : floatBits .quo .f32 (floatOfInt .f32 n) 1090519040 = some r) (t : TypeId) (w : World) :
    (binOp .quo t (.float .f32 (floatOfInt .f32 n)) (.float .f32 1090519040)).run Try.prog w = .ok (.float .f32 r) w := run_float_arith w .quo t .f32 _ _ r h

set_option maxHeartbeats 4000000 in
set_option maxRecDepth 100000 in
theorem lawWindsBack (A : Option Addr) (n c : Nat) (w : World) (hr : RdB w A n) :
    Calls Try.prog 8 #[.slice A n c] w fun e w' => e = .returned (.bool true) ∧ Below w.heap.size w w' := by
  have hn := hr.1
  by_cases hbig : n > 1048576
  · clear hr
    go_enter Try.func8, Try.ntmps8
    go_wp2
    go_ret
    exact ⟨rfl, Below.refl _ _⟩
  · go_enter Try.func8, Try.ntmps8
    go_wp2_with (go_at_call 27; go_in)
    refine (dPlaces _ hr (Below.refl _ _)).mono ?_
    clear hr
    rintro e w1 ⟨v, rfl, ⟨b, cp, rfl, hcp, hv⟩, hB⟩
    have HB := hid hB
    clear hB hcp
    obtain ⟨u0, c0, l0, m0⟩ := hv 0 (by omega)
    obtain ⟨u1, c1, l1, m1⟩ := hv 1 (by omega)
    obtain ⟨u2, c2, l2, m2⟩ := hv 2 (by omega)
    obtain ⟨u3, c3, l3, m3⟩ := hv 3 (by omega)
    clear hv
    obtain ⟨a, qa, ha⟩ := eighths (u0 % 201 - 100) (by omega)
    obtain ⟨b', qb, hb⟩ := eighths (u1 % 201 - 100) (by omega)
    obtain ⟨x, qx, hx⟩ := eighths (u2 % 201 - 100) (by omega)
    obtain ⟨y, qy, hy⟩ := eighths (u3 % 201 - 100) (by omega)
    have ra := quo8_run qa; have rb := quo8_run qb; have rx := quo8_run qx; have ry := quo8_run qy
    have fa : Fit .f32 a := floatBits_fit qa
    have fb : Fit .f32 b' := floatBits_fit qb
    have fx : Fit .f32 x := floatBits_fit qx
    have fy : Fit .f32 y := floatBits_fit qy
    clear qa qb qx qy
    have W := hid (winds_plain ha hb hx hy (by omega) (by omega) (by omega) (by omega))
    clear ha hb hx hy
    go_wp2_with fail
    go_quiet (fail)
    go_wp2_with fail
    go_quiet (fail)
    clear ra rb rx ry c0 c1 c2 c3
    obtain ⟨r, s, t, u, v, z, v1, v2, p1, p2, v3, p3, p4, o1, o2, p5, p6, o3, o4⟩ := W.out
    clear W
    have FA := hid fa; have FB := hid fb; have FX := hid fx; have FY := hid fy
    have V1 := hid v1; have V2 := hid v2; have V3 := hid v3; have P1 := hid p1; have P2 := hid p2; have P3 := hid p3; have P4 := hid p4; have P5 := hid p5; have P6 := hid p6
    clear fa fb fx fy v1 v2 v3 p1 p2 p3 p4 p5 p6
    go_wp2_with fail
    refine (iApparent _ _ _ _ FA.out FB.out FX.out FY.out _).mono ?_
    rw [V1.out, V2.out]
    rintro e w2 ⟨r', s', rfl, hr, hs, m1, rfl⟩
    simp only [Bool.and_self, if_true] at hr hs ⊢
    rw [P1.out] at hr; rw [P2.out] at hs
    have FR := hid hr.2; have FS := hid hs.2
    obtain rfl := hr.eq
    obtain rfl := hs.eq
    clear hr hs
    go_wp2_with fail
    refine (iTrueWind _ _ _ _ FR.out FS.out FX.out FY.out _).mono ?_
    rw [V3.out, V2.out]
    rintro e w2 ⟨t', u', rfl, ht, hu, m2, rfl⟩
    simp only [Bool.and_self, if_true] at ht hu ⊢
    rw [P3.out] at ht; rw [P4.out] at hu
    obtain rfl := ht.eq
    obtain rfl := hu.eq
    clear ht hu
    go_wp2_with fail
    refine (iDamp _ _ _ _ _ FX.out FY.out FA.out FB.out _).mono ?_
    have hd : dOk x y a b' 1065353216 = true := by unfold dOk; rw [V2.out, V1.out, share_one]; rfl
    rw [hd]
    clear hd
    rintro e w2 ⟨v', z', rfl, hv, hz, m3, rfl⟩
    simp only [if_true] at hv hz ⊢
    rw [P5.out] at hv; rw [P6.out] at hz
    obtain rfl := hv.eq
    obtain rfl := hz.eq
    clear hv hz
    have b1 : (FloatKind.f32.format.order t' a == some .eq) = true := by rw [o1]; rfl
    have b2 : (FloatKind.f32.format.order u' b' == some .eq) = true := by rw [o2]; rfl
    have b3 : (FloatKind.f32.format.order v' a == some .eq) = true := by rw [o3]; rfl
    have b4 : (FloatKind.f32.format.order z' b' == some .eq) = true := by rw [o4]; rfl
    go_wp2
    go_ret
    exact ⟨by first | rfl | simp [*], below_drewN HB.out _⟩

set_option maxHeartbeats 4000000 in
set_option maxRecDepth 100000 in
theorem lawDampStill (A : Option Addr) (n c : Nat) (w : World) (hr : RdB w A n) :
    Calls Try.prog 14 #[.slice A n c] w fun e w' => e = .returned (.bool true) ∧ Below w.heap.size w w' := by
  have hn := hr.1
  by_cases hbig : n > 1048576
  · clear hr
    go_enter Try.func14, Try.ntmps14
    go_wp2
    go_ret
    exact ⟨rfl, Below.refl _ _⟩
  · go_enter Try.func14, Try.ntmps14
    go_wp2_with (go_at_call 27; go_in)
    refine (dDamp _ hr (Below.refl _ _)).mono ?_
    clear hr
    rintro e w1 ⟨a, b, x, y, k, rfl, ⟨fa, fb, fx, fy, fk⟩, hB⟩
    have HB := hid hB
    have FA := hid fa; have FB := hid fb; have FX := hid fx; have FY := hid fy
    clear hB fa fb fx fy fk
    go_wp2_with fail
    refine (iDamp _ _ _ _ _ FA.out FB.out FX.out FY.out _).mono ?_
    rintro e w2 ⟨r1, q1, rfl, h1, g1, m1, rfl⟩
    go_wp2_with fail
    refine (iDamp _ _ _ _ _ FA.out FB.out FA.out FB.out _).mono ?_
    rintro e w2 ⟨r2, q2, rfl, h2, g2, m2, rfl⟩
    go_wp2_with fail
    refine (iDamp _ _ _ _ _ FA.out FB.out FX.out FY.out _).mono ?_
    rintro e w2 ⟨r3, q3, rfl, _, _, m3, rfl⟩
    go_wp2_with fail
    refine (sDamp _ _ _ _ _ FA.out FB.out FX.out FY.out _).mono ?_
    rintro e w2 ⟨r4, q4, rfl, _, _, m4, rfl⟩
    have d1 : dOk a b x y 0 = (velOk a b && velOk x y) := by unfold dOk; rw [share_zero, Bool.and_true]
    have d2 : dOk a b a b k = (velOk a b && shOk k) := by unfold dOk; rw [Bool.and_self]
    have d3 : dOk a b x y k = (velOk a b && velOk x y && shOk k) := rfl
    rw [d1] at h1 g1 ⊢
    rw [d2] at h2 g2 ⊢
    rw [d3]
    clear d1 d2 d3
    cases v1 : velOk a b
    · rw [v1] at h1 g1 h2 g2
      clear h1 g1 h2 g2
      simp only [Bool.false_and]
      go_wp2
      go_ret
      exact ⟨rfl, below_drewN HB.out _⟩
    · cases v2 : velOk x y
      · rw [v1, v2] at h1 g1
        rw [v1] at h2 g2
        clear h1 g1 h2 g2
        simp only [Bool.true_and, Bool.false_and, Bool.and_false]
        have V1 := hid v1
        clear v1 v2
        go_wp2_with (go_at_call 48; refine (iVelocityOk _ _ FA.out FB.out _).mono ?_; rintro e w1 ⟨rfl, rfl⟩; rw [V1.out])
        go_ret
        exact ⟨rfl, below_drewN HB.out _⟩
      · cases v3 : shOk k
        · rw [v1, v2] at h1 g1
          rw [v1, v3] at h2 g2
          clear h1 g1 h2 g2
          simp only [Bool.true_and, Bool.and_false]
          have V1 := hid v1
          clear v1 v2 v3
          go_wp2_with (go_at_call 48; refine (iVelocityOk _ _ FA.out FB.out _).mono ?_; rintro e w1 ⟨rfl, rfl⟩; rw [V1.out])
          go_ret
          exact ⟨rfl, below_drewN HB.out _⟩
        · rw [v1, v2] at h1 g1
          rw [v1, v3] at h2 g2
          simp only [Bool.and_self, if_true] at h1 g1 h2 g2 ⊢
          obtain ⟨⟨af, a1, a2⟩, ⟨bf, b1, b2⟩⟩ := vel_fnt v1
          obtain ⟨⟨xf, x1, x2⟩, ⟨yf, y1, y2⟩⟩ := vel_fnt v2
          obtain ⟨kf, _, _⟩ := sh_fnt v3
          obtain ⟨s1, e1, s1f, s1v⟩ := damp_none af xf a1 a2 x1 x2
          obtain ⟨s2, e2, s2f, s2v⟩ := damp_none bf yf b1 b2 y1 y2
          obtain ⟨s3, e3, s3f, s3v⟩ := damp_self af kf a1 a2
          obtain ⟨s4, e4, s4f, s4v⟩ := damp_self bf kf b1 b2
          rw [e1] at h1; rw [e2] at g1; rw [e3] at h2; rw [e4] at g2
          obtain rfl := h1.eq; obtain rfl := g1.eq; obtain rfl := h2.eq; obtain rfl := g2.eq
          have o1 := order_eq_of s1f af s1v; have o2 := order_eq_of s2f bf s2v; have o3 := order_eq_of s3f af s3v; have o4 := order_eq_of s4f bf s4v
          have b1 : (FloatKind.f32.format.order r1 a == some .eq) = true := by rw [o1]; rfl
          have b2 : (FloatKind.f32.format.order q1 b == some .eq) = true := by rw [o2]; rfl
          have b3 : (FloatKind.f32.format.order r2 a == some .eq) = true := by rw [o3]; rfl
          have b4 : (FloatKind.f32.format.order q2 b == some .eq) = true := by rw [o4]; rfl
          clear v1 v2 v3 h1 g1 h2 g2 af a1 a2 bf xf x1 x2 yf y1 y2 kf e1 e2 e3 e4 s1f s2f s3f s4f s1v s2v s3v s4v
          go_wp2
          go_ret
          exact ⟨by first | rfl | simp [*], below_drewN HB.out _⟩

end Go.Proofs.Ytjllidnkndhgmaa
