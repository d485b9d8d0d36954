/- FromOf, Veer: contracts; the law FnVeerBack. -/
import Derived.Test.YtjllidnkndhgmaaBi
import Derived.Test.YtjllidnkndhgmaaLm
import Derived.Test.YtjllidnkndhgmaaLi
namespace Go.Proofs.Ytjllidnkndhgmaa
open Go.RowKit

theorem bearC_bd (a b : Nat) : -1 ≤ bearC a b ∧ bearC a b < 360 := by
  unfold bearC
  have := bearF_le a b 359
  split <;> omega

theorem neg_val {a : Nat} (h : Fnt .f32 a) (hf : Fit .f32 a) : Fnt .f32 (Op.negFloat .f32 a) ∧ V .f32 (Op.negFloat .f32 a) = -V .f32 a := by
  obtain ⟨s, M, E, hr⟩ := h
  have hn := read_neg .f32 a hf
  rw [hr] at hn
  have hn2 : FloatKind.f32.format.read (Op.negFloat .f32 a) = .number (!s) M E := hn
  refine ⟨⟨_, _, _, hn2⟩, ?_⟩
  rw [V_eq hn2, V_eq hr]
  cases s <;> simp only [sg, Bool.not_true, Bool.not_false, if_true, Bool.false_eq_true, if_false] <;> grind

def okF (a q : Nat) : Bool := velOk a q && !(FloatKind.f32.format.order a 0 == some .eq && FloatKind.f32.format.order q 0 == some .eq)
def FR (a q : Nat) (k : Int) : Prop := (okF a q = false ∧ k = -1) ∨ (okF a q = true ∧ ∃ x y, Cvt .f32 .f64 (Op.negFloat .f32 a) x ∧ Cvt .f32 .f64 (Op.negFloat .f32 q) y ∧ k = bearC x y)

theorem FR.bd {a q : Nat} {k : Int} (h : FR a q k) : -1 ≤ k ∧ k < 360 := by
  rcases h with ⟨_, rfl⟩ | ⟨_, x, y, _, _, rfl⟩
  · omega
  · exact bearC_bd x y
theorem FR.same {a q : Nat} (ha : Fit .f32 a) (hq : Fit .f32 q) {k l : Int} (h : FR a q k) (g : FR a q l) : k = l := by
  rcases h with ⟨e, rfl⟩ | ⟨e, x, y, hx, hy, rfl⟩ <;> rcases g with ⟨e', rfl⟩ | ⟨e', x', y', hx', hy', rfl⟩
  · rfl
  · rw [e] at e'; cases e'
  · rw [e] at e'; cases e'
  · have hv : velOk a q = true := by unfold okF at e; simp only [Bool.and_eq_true] at e; exact e.1
    obtain ⟨⟨f1, a1, a2⟩, ⟨f2, b1, b2⟩⟩ := vel_fnt hv
    have n1 := neg_val f1 ha
    have n2 := neg_val f2 hq
    rw [cvt_det n1.1 (by rw [n1.2]; grind) (by rw [n1.2]; grind) hx hx', cvt_det n2.1 (by rw [n2.2]; grind) (by rw [n2.2]; grind) hy hy']

set_option maxHeartbeats 2000000 in
set_option maxRecDepth 100000 in
theorem iFromOf (a q : Nat) (ha : Fit .f32 a) (hq : Fit .f32 q) (w : World) :
    Calls Try.prog 101 #[.complex .f32 a q] w fun e w' => ∃ k, e = .returned (.int .i64 k) ∧ FR a q k ∧ Below w.heap.size w w' := by
  have hneg := run_neg (P := Try.prog)
  have HA := hid ha
  have HQ := hid hq
  clear ha hq
  have hok : okF a q = (velOk a q && !(FloatKind.f32.format.order a 0 == some .eq && FloatKind.f32.format.order q 0 == some .eq)) := rfl
  go_enter Try.func101, Try.ntmps101
  go_wp2_with fail
  refine (iVelocityOk _ _ HA.out HQ.out _).mono ?_
  rintro e w1 ⟨rfl, rfl⟩
  cases hv : velOk a q
  · have hn : okF a q = false := by rw [hok, hv]; rfl
    have HN := hid hn
    clear hok hn
    go_wp2
    go_ret
    exact ⟨_, rfl, .inl ⟨HN.out, rfl⟩, Below.refl _ _⟩
  · by_cases hz : (FloatKind.f32.format.order a 0 == some .eq) = true ∧ (FloatKind.f32.format.order q 0 == some .eq) = true
    · have hn : okF a q = false := by rw [hok, hv, hz.1, hz.2]; rfl
      have HN := hid hn
      obtain ⟨z1, z2⟩ := hz
      clear hok hn
      go_wp2
      go_ret
      exact ⟨_, rfl, .inl ⟨HN.out, rfl⟩, Below.refl _ _⟩
    · have hn : okF a q = true := by
        rw [hok, hv]
        cases h1 : (FloatKind.f32.format.order a 0 == some .eq) <;> cases h2 : (FloatKind.f32.format.order q 0 == some .eq) <;> simp_all
      have HN := hid hn
      have hcase : (FloatKind.f32.format.order a 0 == some .eq) = false ∨ (FloatKind.f32.format.order a 0 == some .eq) = true ∧ (FloatKind.f32.format.order q 0 == some .eq) = false := by
        cases h1 : (FloatKind.f32.format.order a 0 == some .eq) <;> cases h2 : (FloatKind.f32.format.order q 0 == some .eq) <;> simp_all
      clear hok hn hz
      rcases hcase with ya | ⟨ya, yq⟩
      all_goals
        have tok : True := trivial
        go_wp2_with (first | ((refine wpList_fconv rfl _ _ _ rfl .f32 .f64 _ rfl Try.underlying39 Try.underlying22 (by decide) ?_); have _t := tok; intro x n1 hx; clear tok) | ((refine wpList_fconv rfl _ _ _ rfl .f32 .f64 _ rfl Try.underlying39 Try.underlying22 (by decide) ?_); intro y n2 hy))
        refine (iBearing _ _ (Cvt.fit hx) (Cvt.fit hy) _).mono ?_
        rintro e w2 ⟨rfl, hB⟩
        have HB := hid hB
        have HX := hid hx
        have HY := hid hy
        clear hB hx hy
        go_wp2
        go_ret
        exact ⟨_, rfl, .inr ⟨HN.out, _, _, HX.out, HY.out, rfl⟩, (below_drewN (Below.refl w.heap.size w) _).trans HB.out⟩

set_option maxHeartbeats 2000000 in
set_option maxRecDepth 100000 in
theorem sFromOf (a q : Nat) (ha : Fit .f32 a) (hq : Fit .f32 q) (w : World) :
    Calls Try.prog 102 #[.complex .f32 a q] w fun e w' => ∃ k, e = .returned (.int .i64 k) ∧ FR a q k ∧ Below w.heap.size w w' := by
  have hneg := run_neg (P := Try.prog)
  have HA := hid ha
  have HQ := hid hq
  clear ha hq
  have hok : okF a q = (velOk a q && !(FloatKind.f32.format.order a 0 == some .eq && FloatKind.f32.format.order q 0 == some .eq)) := rfl
  go_enter Try.func102, Try.ntmps102
  go_wp2_with fail
  refine (sVelocityOk _ _ HA.out HQ.out _).mono ?_
  rintro e w1 ⟨rfl, rfl⟩
  cases hv : velOk a q
  · have hn : okF a q = false := by rw [hok, hv]; rfl
    have HN := hid hn
    clear hok hn
    go_wp2
    go_ret
    exact ⟨_, rfl, .inl ⟨HN.out, rfl⟩, Below.refl _ _⟩
  · by_cases hz : (FloatKind.f32.format.order a 0 == some .eq) = true ∧ (FloatKind.f32.format.order q 0 == some .eq) = true
    · have hn : okF a q = false := by rw [hok, hv, hz.1, hz.2]; rfl
      have HN := hid hn
      obtain ⟨z1, z2⟩ := hz
      clear hok hn
      go_wp2
      go_ret
      exact ⟨_, rfl, .inl ⟨HN.out, rfl⟩, Below.refl _ _⟩
    · have hn : okF a q = true := by
        rw [hok, hv]
        cases h1 : (FloatKind.f32.format.order a 0 == some .eq) <;> cases h2 : (FloatKind.f32.format.order q 0 == some .eq) <;> simp_all
      have HN := hid hn
      have hcase : (FloatKind.f32.format.order a 0 == some .eq) = false ∨ (FloatKind.f32.format.order a 0 == some .eq) = true ∧ (FloatKind.f32.format.order q 0 == some .eq) = false := by
        cases h1 : (FloatKind.f32.format.order a 0 == some .eq) <;> cases h2 : (FloatKind.f32.format.order q 0 == some .eq) <;> simp_all
      clear hok hn hz
      rcases hcase with ya | ⟨ya, yq⟩
      all_goals
        go_wp2_with (first | (go_at_call 113; go_in) | ((refine wpList_cconv rfl _ _ _ rfl .f32 .f64 _ _ rfl Try.underlying38 Try.underlying28 (by decide) ?_); intro x y n1 hx hy) | fail)
        refine (sBearing _ _ (Cvt.fit hx) (Cvt.fit hy) _).mono ?_
        rintro e w2 ⟨rfl, m2, rfl⟩
        have HX := hid hx
        have HY := hid hy
        clear hx hy
        go_wp2
        go_ret
        exact ⟨_, rfl, .inr ⟨HN.out, _, _, HX.out, HY.out, rfl⟩, below_drewN (Below.refl _ _) _⟩

def VR (a q x y : Nat) (v : Int) (ok : Bool) : Prop := ∃ k l, FR a q k ∧ FR x y l ∧ ((ok = false ∧ v = 0 ∧ (k < 0 ∨ l < 0)) ∨ (ok = true ∧ v = asd k l ∧ 0 ≤ k ∧ 0 ≤ l))

set_option maxHeartbeats 2000000 in
set_option maxRecDepth 100000 in
theorem iVeer (a q x y : Nat) (ha : Fit .f32 a) (hq : Fit .f32 q) (hx : Fit .f32 x) (hy : Fit .f32 y) (w : World) :
    Calls Try.prog 61 #[.complex .f32 a q, .complex .f32 x y] w fun e w' => ∃ v ok, e = .returned (.tuple #[.int .i64 v, .bool ok]) ∧ VR a q x y v ok ∧ Below w.heap.size w w' := by
  have HA := hid ha; have HQ := hid hq; have HX := hid hx; have HY := hid hy
  clear ha hq hx hy
  go_enter Try.func61, Try.ntmps61
  go_wp2_with fail
  refine (iFromOf _ _ HA.out HQ.out _).mono ?_
  rintro e w1 ⟨k, rfl, hk, hB1⟩
  have HK := hid hk; have HB1 := hid hB1
  clear hk hB1
  go_wp2_with fail
  refine (iFromOf _ _ HX.out HY.out _).mono ?_
  rintro e w2 ⟨l, rfl, hl, hB2⟩
  have HL := hid hl
  have HB2 := hid (HB1.out.trans (hB2.mono HB1.out.size))
  clear hl hB2
  by_cases h1 : k < 0
  · go_wp2
    go_ret2
    exact ⟨_, _, rfl, ⟨k, l, HK.out, HL.out, .inl ⟨rfl, rfl, .inl h1⟩⟩, HB2.out⟩
  · by_cases h2 : l < 0
    · go_wp2
      go_ret2
      exact ⟨_, _, rfl, ⟨k, l, HK.out, HL.out, .inl ⟨rfl, rfl, .inr h2⟩⟩, HB2.out⟩
    · go_wp2_with (go_at_call 35; refine (iAside _ _ _ rfl _).mono ?_; rintro e w1 ⟨rfl, rfl⟩)
      go_ret2
      exact ⟨_, _, rfl, ⟨k, l, HK.out, HL.out, .inr ⟨rfl, rfl, by omega, by omega⟩⟩, HB2.out⟩

theorem sAside (a b v : Int) (h : asd a b = v) (w : World) :
    Calls Try.prog 103 #[.int .i64 a, .int .i64 b] w fun e w' => e = .returned (.int .i64 v) ∧ w = w' := by
  subst h
  go_enter Try.func103, Try.ntmps103
  go_wp2_with ((go_at_call 65; refine (lmod_any _ _).mono ?_; rintro e w' ⟨rfl, rfl⟩))
  all_goals (go_ret; exact ⟨ret_int (by unfold asd; split <;> omega), rfl⟩)

set_option maxHeartbeats 2000000 in
set_option maxRecDepth 100000 in
theorem sVeer (a q x y : Nat) (ha : Fit .f32 a) (hq : Fit .f32 q) (hx : Fit .f32 x) (hy : Fit .f32 y) (w : World) :
    Calls Try.prog 62 #[.complex .f32 a q, .complex .f32 x y] w fun e w' => ∃ v ok, e = .returned (.tuple #[.int .i64 v, .bool ok]) ∧ VR a q x y v ok ∧ Below w.heap.size w w' := by
  have HA := hid ha; have HQ := hid hq; have HX := hid hx; have HY := hid hy
  clear ha hq hx hy
  go_enter Try.func62, Try.ntmps62
  go_wp2_with fail
  refine (sFromOf _ _ HA.out HQ.out _).mono ?_
  rintro e w1 ⟨k, rfl, hk, hB1⟩
  have HK := hid hk; have HB1 := hid hB1
  clear hk hB1
  go_wp2_with fail
  refine (sFromOf _ _ HX.out HY.out _).mono ?_
  rintro e w2 ⟨l, rfl, hl, hB2⟩
  have HL := hid hl
  have HB2 := hid (HB1.out.trans (hB2.mono HB1.out.size))
  clear hl hB2
  by_cases h1 : k < 0
  · go_wp2
    go_ret2
    exact ⟨_, _, rfl, ⟨k, l, HK.out, HL.out, .inl ⟨rfl, rfl, .inl h1⟩⟩, HB2.out⟩
  · by_cases h2 : l < 0
    · go_wp2
      go_ret2
      exact ⟨_, _, rfl, ⟨k, l, HK.out, HL.out, .inl ⟨rfl, rfl, .inr h2⟩⟩, HB2.out⟩
    · go_wp2_with (go_at_call 103; refine (sAside _ _ _ rfl _).mono ?_; rintro e w1 ⟨rfl, rfl⟩)
      go_ret2
      exact ⟨_, _, rfl, ⟨k, l, HK.out, HL.out, .inr ⟨rfl, rfl, by omega, by omega⟩⟩, HB2.out⟩

theorem veer_plain {a q x y : Nat} (ha : Fit .f32 a) (hq : Fit .f32 q) (hx : Fit .f32 x) (hy : Fit .f32 y) {v u : Int} {o p : Bool} {v3 : Int} {r : Bool} (h : VR a q x y v o) (g : VR x y a q u p) (z : VR a q x y v3 r) :
    o = r ∧ o = p ∧ (v = -u ∨ v = 180 ∧ u = 180) ∧ -1000 < u ∧ u < 1000 := by
  obtain ⟨k, l, hk, hl, h⟩ := h
  obtain ⟨l', k', hl', hk', g⟩ := g
  obtain ⟨k3, l3, hk3, hl3, z⟩ := z
  obtain rfl := hk.same ha hq hk'
  obtain rfl := hk.same ha hq hk3
  obtain rfl := hl.same hx hy hl'
  obtain rfl := hl.same hx hy hl3
  have b1 := hk.bd
  have b2 := hl.bd
  rcases h with ⟨rfl, rfl, h⟩ | ⟨rfl, rfl, h1, h2⟩ <;> rcases g with ⟨rfl, rfl, g⟩ | ⟨rfl, rfl, g1, g2⟩ <;> rcases z with ⟨rfl, rfl, z⟩ | ⟨rfl, rfl, z1, z2⟩ <;> first | omega | skip
  · exact ⟨rfl, rfl, .inl (by omega), by omega, by omega⟩
  · refine ⟨rfl, rfl, ?_, ?_, ?_⟩ <;> unfold asd <;> (repeat' split) <;> omega

set_option maxHeartbeats 2000000 in
set_option maxRecDepth 100000 in
theorem lawVeerBack (A : Option Addr) (n c : Nat) (w : World) (hr : RdB w A n) :
    Calls Try.prog 18 #[.slice A n c] w fun e w' => e = .returned (.bool true) ∧ Below w.heap.size w w' := by
  have hn := hr.1
  by_cases hbig : n > 1048576
  · clear hr
    go_enter Try.func18, Try.ntmps18
    go_wp2
    go_ret
    exact ⟨rfl, Below.refl _ _⟩
  · go_enter Try.func18, Try.ntmps18
    go_wp2_with (go_at_call 27; go_in)
    refine (dVeer _ hr (Below.refl _ _)).mono ?_
    clear hr
    rintro e w1 ⟨a, q, x, y, rfl, ⟨fa, fq, fx, fy⟩, hB⟩
    have HB := hid hB
    have FA := hid fa; have FQ := hid fq; have FX := hid fx; have FY := hid fy
    clear hB fa fq fx fy
    go_wp2_with fail
    refine (iVeer _ _ _ _ FA.out FQ.out FX.out FY.out _).mono ?_
    rintro e w2 ⟨v, o, rfl, h1, hB1⟩
    have H1 := hid h1
    have HB1 := hid (HB.out.trans (hB1.mono HB.out.size))
    clear h1 hB1
    go_wp2_with fail
    refine (iVeer _ _ _ _ FX.out FY.out FA.out FQ.out _).mono ?_
    rintro e w3 ⟨u, p, rfl, h2, hB2⟩
    have H2 := hid h2
    have HB2 := hid (HB1.out.trans (hB2.mono HB1.out.size))
    clear h2 hB2
    go_wp2_with fail
    refine (sVeer _ _ _ _ FA.out FQ.out FX.out FY.out _).mono ?_
    rintro e w4 ⟨v3, r, rfl, h3, hB3⟩
    have HB3 := hid (HB2.out.trans (hB3.mono HB2.out.size))
    obtain ⟨rfl, rfl, hv, u1, u2⟩ := veer_plain FA.out FQ.out FX.out FY.out H1.out H2.out h3
    clear h3 hB3
    rcases hv with rfl | ⟨rfl, rfl⟩
    · go_wp2
      all_goals (go_ret; exact ⟨by first | rfl | simp, HB3.out⟩)
    · go_wp2
      all_goals (go_ret; exact ⟨by first | rfl | simp, HB3.out⟩)
end Go.Proofs.Ytjllidnkndhgmaa
