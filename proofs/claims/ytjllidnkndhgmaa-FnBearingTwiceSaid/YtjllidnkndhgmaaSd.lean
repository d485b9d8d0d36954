/- The product of twice a vector and a turn is twice the product. No program. -/
import Derived.Test.YtjllidnkndhgmaaSc
import Derived.Test.YtjllidnkndhgmaaPu
import Derived.Test.YtjllidnkndhgmaaTw
namespace Go.Proofs.Ytjllidnkndhgmaa
open Ieee

def Big (e : Int) (x : Rat) : Prop := p2 e ≤ x ∨ x ≤ -p2 e

theorem mult_any {g : Nat} {Y : Rat} {j : Int} (hg : Fnt .f64 g) (hY : Y = V .f64 g ∨ Y = -V .f64 g) (h : p2 j ≤ Y) : ∃ a : Nat, Y = a * p2 (j - 52) := by
  have hp := p2_pos j
  obtain ⟨s, M, E, _, h1, h2, h3⟩ := grid .f64 hg
  have hn := nn M E
  have hYM : Y = M * p2 E := by
    rcases sg_cases s with hs | hs <;> rw [hs] at h1 <;> rcases hY with hY | hY <;> grind
  rw [fb64] at h2
  have hM : (M : Rat) < ((2 ^ (52 + 1) : Nat) : Rat) := by exact_mod_cast h2
  have h4 := Rat.mul_lt_mul_of_pos_right hM (p2_pos E)
  rw [← p2_nat, ← p2_add] at h4
  have h5 : p2 j < p2 (((52 + 1 : Nat) : Int) + E) := by grind
  have h6 := p2_lt_iff.1 h5
  obtain ⟨n, hn⟩ := units_of (F := 52) (c := M) (t := E) (l := j - 52) (by omega) (Or.inr (by omega))
  exact ⟨n, by rw [hYM, hn]⟩

theorem nat_lt_one {a b : Nat} {u : Rat} (hu : 0 < u) (h1 : (a : Rat) * u < b * u + u) (h2 : (b : Rat) * u < a * u + u) : a = b := by
  have e1 : (a : Rat) * u < (b + 1) * u := by grind
  have e2 : (b : Rat) * u < (a + 1) * u := by grind
  have f1 := (Rat.mul_lt_mul_right hu).1 e1
  have f2 := (Rat.mul_lt_mul_right hu).1 e2
  have g1 : a < b + 1 := by exact_mod_cast f1
  have g2 : b < a + 1 := by exact_mod_cast f2
  omega

theorem absorb {Y X v : Rat} (hm : ∀ j, p2 j ≤ Y → ∃ a : Nat, Y = a * p2 (j - 52)) (hY : p2 (-200) ≤ Y) (h1 : -p2 (-800) ≤ X) (h2 : X ≤ p2 (-800)) (hn : Near FloatKind.f64.format (Y + X) v) : v = Y := by
  obtain ⟨l, k, hv, hl, hk, n1, n2, n3, n4⟩ := hn
  rw [fb64] at n3 n4
  rw [lp64] at hl n3
  have t1 := p2_succ (-201)
  rw [show (-201 : Int) + 1 = -200 by omega] at t1
  have t2 := p2_mono (a := -800) (b := -201) (by omega)
  have c1 : p2 (-201) < p2 (l + ((52 : Nat) : Int) + 1) := by grind
  have c2 := p2_lt_iff.1 c1
  have n5 : p2 (l + ((52 : Nat) : Int)) ≤ Y + X := by
    rcases n3 with h | h
    · omega
    · exact h
  have hp := p2_pos l
  have t3 := p2_mono (a := -800) (b := l - 1 - 1) (by omega)
  have t4 := p2_succ (l - 1 - 1)
  have t5 := p2_succ (l - 1)
  rw [show l - 1 - 1 + 1 = l - 1 by omega] at t4
  rw [show l - 1 + 1 = l by omega] at t5
  have hp2 := p2_pos (l - 1 - 1)
  by_cases hc : p2 (l + ((52 : Nat) : Int)) ≤ Y
  · obtain ⟨a, ha⟩ := hm _ hc
    rw [show l + ((52 : Nat) : Int) - 52 = l by omega] at ha
    have : k = a := nat_lt_one hp (by grind) (by grind)
    rw [hv, ha, this]
  · exfalso
    have t6 := p2_succ (l + ((52 : Nat) : Int) - 1)
    rw [show l + ((52 : Nat) : Int) - 1 + 1 = l + ((52 : Nat) : Int) by omega] at t6
    have t7 := p2_mono (a := -800) (b := l + ((52 : Nat) : Int) - 1) (by omega)
    obtain ⟨a, ha⟩ := hm (l + ((52 : Nat) : Int) - 1) (by grind)
    rw [show l + ((52 : Nat) : Int) - 1 - 52 = l - 1 by omega] at ha
    have hpow : p2 (l + ((52 : Nat) : Int)) = ((2 ^ 53 : Nat) : Rat) * p2 (l - 1) := by
      rw [← p2_nat, ← p2_add]; congr 1; omega
    have hp1 := p2_pos (l - 1)
    have hlt : (a : Rat) * p2 (l - 1) < ((2 ^ 53 : Nat) : Rat) * p2 (l - 1) := by rw [← hpow, ← ha]; grind
    have h3 := (Rat.mul_lt_mul_right hp1).1 hlt
    have h4 : a < 2 ^ 53 := by exact_mod_cast h3
    have h5 : ((a + 1 : Nat) : Rat) ≤ ((2 ^ 53 : Nat) : Rat) := by exact_mod_cast h4
    have h6 := Rat.mul_le_mul_of_nonneg_right h5 (Rat.le_of_lt hp1)
    rw [← hpow] at h6
    push_cast at h6
    grind

theorem absorbS {y : Nat} {X v : Rat} (hy : Fnt .f64 y) (hY : Big (-200) (V .f64 y)) (h1 : -p2 (-800) ≤ X) (h2 : X ≤ p2 (-800)) (hn : NearS FloatKind.f64.format (V .f64 y + X) v) : v = V .f64 y := by
  have t2 := p2_lt (a := -800) (b := -200) (by omega)
  rcases hY with hY | hY
  · rcases hn with ⟨h, _⟩ | ⟨_, h⟩ | ⟨h, _⟩
    · grind
    · exact absorb (fun j hj => mult_any hy (.inl rfl) hj) hY h1 h2 h
    · grind
  · rcases hn with ⟨h, _⟩ | ⟨h, _⟩ | ⟨_, h⟩
    · grind
    · grind
    · have e : -(V .f64 y + X) = -V .f64 y + -X := by grind
      rw [e] at h
      have := absorb (Y := -V .f64 y) (fun j hj => mult_any hy (.inr rfl) hj) (by grind) (by grind) (by grind) h
      grind

theorem big_mul {e f : Int} {x y : Rat} (hx : Big e x) (hy : Big f y) : Big (e + f) (x * y) := by
  have pe := p2_pos e
  have pf := p2_pos f
  unfold Big
  rw [p2_add]
  rcases hx with hx | hx <;> rcases hy with hy | hy
  · have a := Rat.mul_le_mul_of_nonneg_right hx (Rat.le_of_lt pf)
    have b := Rat.mul_le_mul_of_nonneg_left hy (show 0 ≤ x by grind)
    left; grind
  · have a := Rat.mul_le_mul_of_nonneg_right hx (Rat.le_of_lt pf)
    have b := Rat.mul_le_mul_of_nonneg_left (show p2 f ≤ -y by grind) (show 0 ≤ x by grind)
    right; grind
  · have a := Rat.mul_le_mul_of_nonneg_right (show p2 e ≤ -x by grind) (Rat.le_of_lt pf)
    have b := Rat.mul_le_mul_of_nonneg_left hy (show 0 ≤ -x by grind)
    right; grind
  · have a := Rat.mul_le_mul_of_nonneg_right (show p2 e ≤ -x by grind) (Rat.le_of_lt pf)
    have b := Rat.mul_le_mul_of_nonneg_left (show p2 f ≤ -y by grind) (show 0 ≤ -x by grind)
    left; grind

theorem Big.mono {e f : Int} {x : Rat} (h : Big e x) (hf : f ≤ e) : Big f x := by
  have := p2_mono hf
  rcases h with h | h
  · left; grind
  · right; grind

theorem one_p2 (t : Int) : ((1 : Nat) : Rat) * p2 t = p2 t := by simp

/-- a number not below a power of two rounds to one that is not -/
theorem big_round {X v : Rat} {e : Int} (h : NearS FloatKind.f64.format X v) (hX : Big e X) (he : -1074 ≤ e) : Big e v := by
  have hp := p2_pos e
  rcases hX with hX | hX <;> rcases h with ⟨h, _⟩ | ⟨_, h⟩ | ⟨_, h⟩ <;> try grind
  · left
    have := h.ge (c := 1) (t := e) (by rw [one_p2]; exact hX) (by rw [fb64]; decide) (by rw [lp64]; exact he)
    rw [one_p2] at this; exact this
  · right
    have := h.ge (c := 1) (t := e) (by rw [one_p2]; grind) (by rw [fb64]; decide) (by rw [lp64]; exact he)
    rw [one_p2] at this; grind
theorem small_round {X v : Rat} {e : Int} (h : NearS FloatKind.f64.format X v) (h1 : -p2 e ≤ X) (h2 : X ≤ p2 e) (he : -1074 ≤ e) : -p2 e ≤ v ∧ v ≤ p2 e := by
  have hp := p2_pos e
  have hnear : ∀ {X v : Rat}, Near FloatKind.f64.format X v → 0 ≤ v := by
    rintro X v ⟨l, k, hv, _⟩
    rw [hv]; exact nn k l
  rcases h with ⟨_, h⟩ | ⟨_, h⟩ | ⟨_, h⟩
  · grind
  · have := h.le (c := 1) (t := e) (by rw [one_p2]; exact h2) (by rw [fb64]; decide) (by rw [lp64]; exact he)
    rw [one_p2] at this
    have := hnear h
    grind
  · have := h.le (c := 1) (t := e) (by rw [one_p2]; grind) (by rw [fb64]; decide) (by rw [lp64]; exact he)
    rw [one_p2] at this
    have := hnear h
    grind

theorem big_normal {X : Rat} {e : Int} (h : Big e X) (he : -1022 ≤ e) : X = 0 ∨ p2 (FloatKind.f64.format.leastPlace + FloatKind.f64.format.fractionBits) ≤ X ∨ X ≤ -p2 (FloatKind.f64.format.leastPlace + FloatKind.f64.format.fractionBits) := by
  rw [lp64, fb64]
  have := p2_mono (a := -1074 + ((52 : Nat) : Int)) (b := e) (by omega)
  rcases h with h | h
  · right; left; grind
  · right; right; grind

theorem mul2 {x x2 y : Nat} (hx : Fnt .f64 x) (hx2 : Fnt .f64 x2) (hy : Fnt .f64 y) (h2 : V .f64 x2 = 2 * V .f64 x) (b1 : -100000000 ≤ V .f64 x * V .f64 y) (b2 : V .f64 x * V .f64 y ≤ 100000000) :
    ∃ r r2, floatBits .mul .f64 x y = some r ∧ floatBits .mul .f64 x2 y = some r2 ∧ Fnt .f64 r ∧ Fnt .f64 r2 ∧ NearS FloatKind.f64.format (V .f64 x * V .f64 y) (V .f64 r) ∧ NearS FloatKind.f64.format (2 * (V .f64 x * V .f64 y)) (V .f64 r2) ∧
      (Big (-900) (V .f64 x * V .f64 y) → V .f64 r2 = 2 * V .f64 r) := by
  have hbig := p2_mono (a := 40) (b := emax FloatKind.f64.format) (by decide)
  have h40 : p2 40 = 1099511627776 := by have := p2_nat 40; simpa using this
  rw [h40] at hbig
  have e : V .f64 x2 * V .f64 y = 2 * (V .f64 x * V .f64 y) := by rw [h2]; grind
  obtain ⟨r, hr, rf, rn⟩ := mul_fin .f64 hx hy (by constructor <;> grind)
  obtain ⟨r', hr', _, rnE⟩ := mul_finE .f64 hx hy (by constructor <;> grind)
  obtain ⟨s, hs, sf, sn⟩ := mul_fin .f64 hx2 hy (by constructor <;> grind)
  obtain ⟨s', hs', _, snE⟩ := mul_finE .f64 hx2 hy (by constructor <;> grind)
  rw [hr] at hr'; cases hr'
  rw [hs] at hs'; cases hs'
  rw [e] at sn snE
  exact ⟨r, s, hr, hs, rf, sf, rn, sn, fun hb => nears_twice rnE snE (big_normal hb (by omega))⟩

theorem big_split {x : Nat} (hx : Fnt .f64 x) (h : Big (-900) (V .f64 x)) : ∃ i : Int, V .f64 x = i * p2 (-952) := by
  have e : (-900 - 52 : Int) = -952 := by omega
  rcases h with h | h
  · obtain ⟨a, ha⟩ := mult_any hx (.inl rfl) h
    rw [e] at ha
    exact ⟨a, by rw [ha, Rat.intCast_natCast]⟩
  · have h' : p2 (-900) ≤ -V .f64 x := by grind
    obtain ⟨a, ha⟩ := mult_any (Y := -V .f64 x) hx (.inr rfl) h'
    rw [e] at ha
    refine ⟨-(a : Int), ?_⟩
    rw [Rat.intCast_neg, Rat.intCast_natCast]
    grind

theorem Big.twice {e : Int} {x : Rat} (h : Big e x) : Big e (2 * x) := by
  have := p2_pos e
  rcases h with h | h
  · left; grind
  · right; grind

theorem dot_twice {a b a2 b2 u v : Nat} (ha : Fnt .f64 a) (hb : Fnt .f64 b) (ha2 : Fnt .f64 a2) (hb2 : Fnt .f64 b2) (hu : Fnt .f64 u) (hv : Fnt .f64 v)
    (ea : V .f64 a2 = 2 * V .f64 a) (eb : V .f64 b2 = 2 * V .f64 b)
    (A1 : -100000000 ≤ V .f64 a * V .f64 u) (A2 : V .f64 a * V .f64 u ≤ 100000000) (B1 : -100000000 ≤ V .f64 b * V .f64 v) (B2 : V .f64 b * V .f64 v ≤ 100000000)
    (hub : Big (-60) (V .f64 u)) (hvb : Big (-60) (V .f64 v)) (hab : Big (-40) (V .f64 a) ∨ Big (-40) (V .f64 b)) :
    ∃ r r2, dotC (some a) (some b) (some u) (some v) = some r ∧ dotC (some a2) (some b2) (some u) (some v) = some r2 ∧ Fnt .f64 r ∧ Fnt .f64 r2 ∧ V .f64 r2 = 2 * V .f64 r := by
  have hbig := p2_mono (a := 40) (b := emax FloatKind.f64.format) (by decide)
  have h40 : p2 40 = 1099511627776 := by have := p2_nat 40; simpa using this
  rw [h40] at hbig
  have es := e53_val
  have ep := e53_pos
  have ets := t64_tiny
  have etp := t64_pos
  obtain ⟨x, x2, hx, hx2, xf, x2f, xn, x2n, xE⟩ := mul2 ha ha2 hu ea A1 A2
  obtain ⟨y, y2, hy, hy2, yf, y2f, yn, y2n, yE⟩ := mul2 hb hb2 hv eb B1 B2
  have ex := near_b64 xn A1 A2
  have ey := near_b64 yn B1 B2
  have ex2 := near_b64 (B := 200000000) x2n (by grind) (by grind)
  have ey2 := near_b64 (B := 200000000) y2n (by grind) (by grind)
  have bd : -p2 (emax FloatKind.f64.format) < V .f64 x + V .f64 y ∧ V .f64 x + V .f64 y < p2 (emax FloatKind.f64.format) := by constructor <;> grind
  have bd2 : -p2 (emax FloatKind.f64.format) < V .f64 x2 + V .f64 y2 ∧ V .f64 x2 + V .f64 y2 < p2 (emax FloatKind.f64.format) := by constructor <;> grind
  obtain ⟨r, hr, rf, rn⟩ := add_fin .f64 xf yf bd
  obtain ⟨r', hr', _, rnE⟩ := add_finE .f64 xf yf bd
  obtain ⟨s, hs, sf, sn⟩ := add_fin .f64 x2f y2f bd2
  obtain ⟨s', hs', _, snE⟩ := add_finE .f64 x2f y2f bd2
  rw [hr] at hr'; cases hr'
  rw [hs] at hs'; cases hs'
  refine ⟨r, s, ?_, ?_, rf, sf, ?_⟩
  · show fop .add .f64 (fop .mul .f64 (some a) (some u)) (fop .mul .f64 (some b) (some v)) = some r
    have e1 : fop .mul .f64 (some a) (some u) = some x := hx
    have e2 : fop .mul .f64 (some b) (some v) = some y := hy
    rw [e1, e2]; exact hr
  · show fop .add .f64 (fop .mul .f64 (some a2) (some u)) (fop .mul .f64 (some b2) (some v)) = some s
    have e1 : fop .mul .f64 (some a2) (some u) = some x2 := hx2
    have e2 : fop .mul .f64 (some b2) (some v) = some y2 := hy2
    rw [e1, e2]; exact hs
  have l1 := p2_mono (a := -900) (b := -800) (by omega)
  have l2 := p2_mono (a := -899) (b := -800) (by omega)
  have l3 := p2_succ (-900)
  rw [show (-900 : Int) + 1 = -899 by omega] at l3
  by_cases hA : Big (-900) (V .f64 a * V .f64 u)
  · have x22 := xE hA
    by_cases hB : Big (-900) (V .f64 b * V .f64 v)
    · have y22 := yE hB
      have e : V .f64 x2 + V .f64 y2 = 2 * (V .f64 x + V .f64 y) := by rw [x22, y22]; grind
      rw [e] at snE
      obtain ⟨i, hi⟩ := big_split xf (big_round xn hA (by omega))
      obtain ⟨j, hj⟩ := big_split yf (big_round yn hB (by omega))
      refine nears_twice rnE snE ?_
      have hsum : V .f64 x + V .f64 y = ((i + j : Int) : Rat) * p2 (-952) := by rw [hi, hj]; push_cast; grind
      have hp := p2_pos (-952)
      rcases Int.lt_trichotomy (i + j) 0 with hz | hz | hz
      · refine big_normal (e := -952) (.inr ?_) (by omega)
        rw [hsum]
        have h3 := (Rat.intCast_le_intCast (a := i + j) (b := -1)).2 (by omega)
        have h4 := Rat.mul_le_mul_of_nonneg_right h3 (Rat.le_of_lt hp)
        have e : ((-1 : Int) : Rat) = -1 := rfl
        rw [e] at h4; grind
      · left; rw [hsum, hz]; simp
      · refine big_normal (e := -952) (.inl ?_) (by omega)
        rw [hsum]
        have h3 := (Rat.intCast_le_intCast (a := 1) (b := i + j)).2 (by omega)
        have h4 := Rat.mul_le_mul_of_nonneg_right h3 (Rat.le_of_lt hp)
        have e : ((1 : Int) : Rat) = 1 := rfl
        rw [e] at h4; grind
    · have hnb : ¬ Big (-840) (V .f64 b) := fun h => hB (by have := big_mul h hvb; rwa [show (-840 : Int) + -60 = -900 by omega] at this)
      have hba : Big (-40) (V .f64 a) := by
        rcases hab with h | h
        · exact h
        · exact absurd (h.mono (by omega)) hnb
      have hAb : Big (-100) (V .f64 a * V .f64 u) := by have := big_mul hba hub; rwa [show (-40 : Int) + -60 = -100 by omega] at this
      have hxb := (big_round xn hAb (by omega)).mono (show (-200 : Int) ≤ -100 by omega)
      have hx2b : Big (-200) (V .f64 x2) := by rw [x22]; exact hxb.twice
      have hBs : -p2 (-900) ≤ V .f64 b * V .f64 v ∧ V .f64 b * V .f64 v ≤ p2 (-900) := by
        constructor
        · exact Rat.not_lt.1 fun h => hB (.inr (by grind))
        · exact Rat.not_lt.1 fun h => hB (.inl (by grind))
      have s1 := small_round yn hBs.1 hBs.2 (by omega)
      have s2 := small_round (e := -899) y2n (by grind) (by grind) (by omega)
      have q1 := absorbS xf hxb (by grind) (by grind) rn
      have q2 := absorbS x2f hx2b (by grind) (by grind) sn
      rw [q1, q2, x22]
  · have hna : ¬ Big (-840) (V .f64 a) := fun h => hA (by have := big_mul h hub; rwa [show (-840 : Int) + -60 = -900 by omega] at this)
    have hbb : Big (-40) (V .f64 b) := by
      rcases hab with h | h
      · exact absurd (h.mono (by omega)) hna
      · exact h
    have hBb : Big (-100) (V .f64 b * V .f64 v) := by have := big_mul hbb hvb; rwa [show (-40 : Int) + -60 = -100 by omega] at this
    have y22 := yE (hBb.mono (by omega))
    have hyb := (big_round yn hBb (by omega)).mono (show (-200 : Int) ≤ -100 by omega)
    have hy2b : Big (-200) (V .f64 y2) := by rw [y22]; exact hyb.twice
    have hAs : -p2 (-900) ≤ V .f64 a * V .f64 u ∧ V .f64 a * V .f64 u ≤ p2 (-900) := by
      constructor
      · exact Rat.not_lt.1 fun h => hA (.inr (by grind))
      · exact Rat.not_lt.1 fun h => hA (.inl (by grind))
    have s1 := small_round xn hAs.1 hAs.2 (by omega)
    have s2 := small_round (e := -899) x2n (by grind) (by grind) (by omega)
    have c1 : V .f64 x + V .f64 y = V .f64 y + V .f64 x := by grind
    have c2 : V .f64 x2 + V .f64 y2 = V .f64 y2 + V .f64 x2 := by grind
    rw [c1] at rn
    rw [c2] at sn
    have q1 := absorbS yf hyb (by grind) (by grind) rn
    have q2 := absorbS y2f hy2b (by grind) (by grind) sn
    rw [q1, q2, y22]
end Go.Proofs.Ytjllidnkndhgmaa
