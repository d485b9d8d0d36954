/- The law FnBearingTwice. -/
import Derived.Test.YtjllidnkndhgmaaSd
import Derived.Test.YtjllidnkndhgmaaTx
namespace Go.Proofs.Ytjllidnkndhgmaa
open Ieee Go.RowKit

theorem zero_of_isZ {x : Nat} (hx : Fnt .f64 x) (h : isZ (some x) = true) : V .f64 x = 0 := by
  have z := zero_fnt
  have h' : (FloatKind.f64.format.order x 0 == some .eq) = true := h
  rw [order_fin .f64 hx z.1, z.2] at h'
  by_cases h1 : V .f64 x < 0
  · rw [if_pos h1] at h'; cases h'
  · rw [if_neg h1] at h'
    by_cases h2 : V .f64 x = 0
    · exact h2
    · rw [if_neg h2] at h'; cases h'

/-- a vector that has a length is not tiny -/
theorem len_big {a b : Nat} (h : isZ (lenC a b) = false) : vecOk a b = true ∧ (Big (-40) (V .f64 a) ∨ Big (-40) (V .f64 b)) := by
  obtain ⟨L, _, _, _, hv, d, hd, hin, _⟩ := len_spec h
  refine ⟨hv, ?_⟩
  obtain ⟨⟨haf, a1, a2⟩, ⟨hbf, b1, b2⟩⟩ := vec_fnt hv
  have hm := (mid_of_in hin).2.1
  refine Classical.byContradiction fun hn => ?_
  have hp := p2_pos (-40)
  have sm : ∀ x : Rat, ¬ Big (-40) x → -p2 (-40) ≤ x ∧ x ≤ p2 (-40) := fun x hx => ⟨Rat.not_lt.1 fun h => hx (.inr (by grind)), Rat.not_lt.1 fun h => hx (.inl (by grind))⟩
  have sq : ∀ x : Rat, -p2 (-40) ≤ x ∧ x ≤ p2 (-40) → x * x ≤ p2 (-40) * p2 (-40) := by
    intro x ⟨h1, h2⟩
    have := Rat.mul_nonneg (show 0 ≤ p2 (-40) - x by grind) (show 0 ≤ p2 (-40) + x by grind)
    grind
  have xa := sq _ (sm _ fun h => hn (.inl h))
  have xb := sq _ (sm _ fun h => hn (.inr h))
  have h40 := p40_val
  have hlow : p2 (-40) ≤ 1 / 1000000000 := by
    have h := p2_neg 40
    have h2 : p2 40 = 1099511627776 := by have := p2_nat 40; simpa using this
    rw [h2] at h; grind
  have hsq := Rat.mul_le_mul_of_nonneg_right hlow (Rat.le_of_lt hp)
  obtain ⟨d', e1, e2, e3, e4⟩ := dot_self haf hbf (B := p2 (-40) * p2 (-40)) (by grind) xa xb
  rw [hd] at e1; cases e1
  have es := e53_val
  have ep := e53_pos
  have ets := t64_tiny
  have hpp := Rat.mul_nonneg (Rat.le_of_lt hp) (Rat.le_of_lt hp)
  have z := Rat.mul_le_mul_of_nonneg_left (Rat.le_of_lt es) hpp
  generalize p2 (-40) * p2 (-40) = B at *
  grind

theorem dot0 {a b : Nat} (ha : Fnt .f64 a) (hb : Fnt .f64 b) (a1 : -200000000 ≤ V .f64 a) (a2 : V .f64 a ≤ 200000000) :
    ∃ r, dotC (some a) (some b) (some 4607182418800017408) (some 0) = some r ∧ Fnt .f64 r ∧ V .f64 r = V .f64 a := by
  have hbig := p2_mono (a := 40) (b := emax FloatKind.f64.format) (by decide)
  have h40 : p2 40 = 1099511627776 := by have := p2_nat 40; simpa using this
  rw [h40] at hbig
  have h1 := one_fnt
  have h0 := zero_fnt
  have e1 : V .f64 a * V .f64 4607182418800017408 = V .f64 a := by rw [h1.2]; grind
  have e0 : V .f64 b * V .f64 0 = 0 := by rw [h0.2]; grind
  obtain ⟨x, hx, xf, xn⟩ := mul_fin .f64 ha h1.1 (by rw [e1]; constructor <;> grind)
  obtain ⟨y, hy, yf, yn⟩ := mul_fin .f64 hb h0.1 (by rw [e0]; constructor <;> grind)
  rw [e1] at xn
  obtain ⟨s, c, t, f1, f2, f3⟩ := val_form ha
  have ex := xn.exact f1 f2 f3
  have ey := nears_zero yn e0
  obtain ⟨r, hr, rf, rn⟩ := add_fin .f64 xf yf (by rw [ex, ey]; constructor <;> grind)
  refine ⟨r, ?_, rf, by rw [add_zero_val xf ey rn, ex]⟩
  show fop .add .f64 (fop .mul .f64 (some a) (some 4607182418800017408)) (fop .mul .f64 (some b) (some 0)) = some r
  have z1 : fop .mul .f64 (some a) (some 4607182418800017408) = some x := hx
  have z2 : fop .mul .f64 (some b) (some 0) = some y := hy
  rw [z1, z2]; exact hr

theorem prod_bd {x u : Rat} (h1 : -100000000 ≤ x) (h2 : x ≤ 100000000) (g1 : -1 ≤ u) (g2 : u ≤ 1) : -100000000 ≤ x * u ∧ x * u ≤ 100000000 := by
  have a := Rat.mul_nonneg (show 0 ≤ 100000000 - x by grind) (show 0 ≤ 1 - u by grind)
  have b := Rat.mul_nonneg (show 0 ≤ 100000000 + x by grind) (show 0 ≤ 1 + u by grind)
  have c := Rat.mul_nonneg (show 0 ≤ 100000000 - x by grind) (show 0 ≤ 1 + u by grind)
  have d := Rat.mul_nonneg (show 0 ≤ 100000000 + x by grind) (show 0 ≤ 1 - u by grind)
  constructor <;> grind

theorem dotT_twice {a b a2 b2 : Nat} (hv : vecOk a b = true) (hab : Big (-40) (V .f64 a) ∨ Big (-40) (V .f64 b)) (ha2 : Fnt .f64 a2) (hb2 : Fnt .f64 b2)
    (ea : V .f64 a2 = 2 * V .f64 a) (eb : V .f64 b2 = 2 * V .f64 b) (j : Nat) (hj : j < 360) :
    ∃ r r2, dotT a b j = some r ∧ dotT a2 b2 j = some r2 ∧ Fnt .f64 r ∧ Fnt .f64 r2 ∧ V .f64 r2 = 2 * V .f64 r := by
  obtain ⟨⟨haf, a1, a2'⟩, ⟨hbf, b1, b2'⟩⟩ := vec_fnt hv
  rw [dotT, dotT, tab_turn j hj, fc_fnt haf, fc_fnt hbf, fc_fnt ha2, fc_fnt hb2]
  cases j with
  | zero =>
    rw [tab_zero]
    obtain ⟨r, h1, h2, h3⟩ := dot0 haf hbf (by grind) (by grind)
    obtain ⟨s, g1, g2, g3⟩ := dot0 ha2 hb2 (by rw [ea]; grind) (by rw [ea]; grind)
    exact ⟨r, s, h1, g1, h2, g2, by rw [g3, h3, ea]⟩
  | succ j =>
    have hg := tab_good j hj
    have g1 := good_fnt hg.1
    have g2 := good_fnt hg.2
    have p1 := prod_bd a1 a2' g1.2.1 g1.2.2.1
    have p2' := prod_bd b1 b2' g2.2.1 g2.2.2.1
    exact dot_twice haf hbf ha2 hb2 g1.1 g2.1 ea eb p1.1 p1.2 p2'.1 p2'.2 g1.2.2.2 g2.2.2.2 hab

theorem bear_twice {a b a2 b2 : Nat} (hl : isZ (lenC a b) = false) (ha2 : Fnt .f64 a2) (hb2 : Fnt .f64 b2)
    (ea : V .f64 a2 = 2 * V .f64 a) (eb : V .f64 b2 = 2 * V .f64 b) (hv2 : vecOk a2 b2 = true) : bearC a2 b2 = bearC a b ∧ 0 ≤ bearC a b := by
  obtain ⟨hv, hab⟩ := len_big hl
  obtain ⟨⟨haf, a1, a2'⟩, ⟨hbf, b1, b2'⟩⟩ := vec_fnt hv
  have hp := p2_pos (-40)
  have nz : ∀ x y : Nat, Fnt .f64 x → Fnt .f64 y → (V .f64 x = 0 → V .f64 y = 0 → False) → (isZ (fc .f64 x) && isZ (fc .f64 y)) = false := by
    intro x y hx hy h
    rw [fc_fnt hx, fc_fnt hy]
    cases h1 : isZ (some x)
    · rfl
    · cases h2 : isZ (some y)
      · rfl
      · exact absurd (zero_of_isZ hy h2) (fun e => h (zero_of_isZ hx h1) e)
  have z1 := nz a b haf hbf (by intro h1 h2; rw [h1, h2] at hab; rcases hab with (h | h) | (h | h) <;> grind)
  have z2 := nz a2 b2 ha2 hb2 (by intro h1 h2; rw [ea] at h1; rw [eb] at h2; rcases hab with (h | h) | (h | h) <;> grind)
  have key : ∀ n, n < 360 → ∃ k r r2, bearF a b n = (k, some r) ∧ bearF a2 b2 n = (k, some r2) ∧ Fnt .f64 r ∧ Fnt .f64 r2 ∧ V .f64 r2 = 2 * V .f64 r := by
    intro n
    induction n with
    | zero =>
      intro hn
      obtain ⟨r, r2, h1, h2, h3, h4, h5⟩ := dotT_twice hv hab ha2 hb2 ea eb 0 hn
      exact ⟨0, r, r2, by rw [bearF, h1], by rw [bearF, h2], h3, h4, h5⟩
    | succ n ih =>
      intro hn
      obtain ⟨k, r, r2, i1, i2, i3, i4, i5⟩ := ih (by omega)
      obtain ⟨s, s2, h1, h2, h3, h4, h5⟩ := dotT_twice hv hab ha2 hb2 ea eb (n + 1) hn
      have hg1 : gtO (dotT a b (n + 1)) (bearF a b n).2 = decide (V .f64 r < V .f64 s) := by rw [h1, i1]; exact gt_fin h3 i3
      have hg2 : gtO (dotT a2 b2 (n + 1)) (bearF a2 b2 n).2 = decide (V .f64 r2 < V .f64 s2) := by rw [h2, i2]; exact gt_fin h4 i4
      by_cases hlt : V .f64 r < V .f64 s
      · rw [decide_eq_true hlt] at hg1
        rw [decide_eq_true (by rw [h5, i5]; grind)] at hg2
        exact ⟨n + 1, s, s2, by rw [bearF_yes hg1, h1], by rw [bearF_yes hg2, h2], h3, h4, h5⟩
      · rw [decide_eq_false hlt] at hg1
        rw [decide_eq_false (by rw [h5, i5]; grind)] at hg2
        exact ⟨k, r, r2, by rw [bearF_no hg1, i1], by rw [bearF_no hg2, i2], i3, i4, i5⟩
  obtain ⟨k, r, r2, k1, k2, _⟩ := key 359 (by omega)
  have e1 : bearC a b = (k : Int) := by rw [bearC, hv, z1, k1]; rfl
  have e2 : bearC a2 b2 = (k : Int) := by rw [bearC, hv2, z2, k2]; rfl
  exact ⟨by rw [e1, e2], by rw [e1]; omega⟩

theorem twice_fnt {a r : Nat} (ha : Fnt .f64 a) (a1 : -100000000 ≤ V .f64 a) (a2 : V .f64 a ≤ 100000000) (h : FIs .f64 r (fop .mul .f64 (fc .f64 4611686018427387904) (fc .f64 a))) : Fnt .f64 r ∧ V .f64 r = 2 * V .f64 a := by
  have hbig := p2_mono (a := 40) (b := emax FloatKind.f64.format) (by decide)
  have h40 : p2 40 = 1099511627776 := by have := p2_nat 40; simpa using this
  rw [h40] at hbig
  have h2 := two_fnt
  have e : V .f64 4611686018427387904 * V .f64 a = 2 * V .f64 a := by rw [h2.2]
  obtain ⟨x, hx, xf, xn⟩ := mul_fin .f64 h2.1 ha (by rw [e]; constructor <;> grind)
  rw [e] at xn
  obtain ⟨s, c, t, f1, f2, f3⟩ := val_form ha
  have ex := xn.exact (s := s) (c := c) (t := t + 1) (by rw [f1, p2_succ]; grind) f2 (by omega)
  have hc : fop .mul .f64 (fc .f64 4611686018427387904) (fc .f64 a) = some x := by rw [fc_fnt h2.1, fc_fnt ha]; exact hx
  have := h.1
  rw [hc] at this
  rw [← (fc_some this).1]
  exact ⟨xf, ex⟩
end Go.Proofs.Ytjllidnkndhgmaa
