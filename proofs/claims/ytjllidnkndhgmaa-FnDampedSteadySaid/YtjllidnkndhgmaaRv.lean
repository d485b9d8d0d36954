/- Damped winds, plain. -/
import Derived.Test.YtjllidnkndhgmaaRu
namespace Go.Proofs.Ytjllidnkndhgmaa
open Ieee Go.RowKit

theorem small32 {X v : Rat} {e : Int} (h : NearS FloatKind.f32.format X v) (h1 : -p2 e ≤ X) (h2 : X ≤ p2 e) (he : -149 ≤ e) : -p2 e ≤ v ∧ v ≤ p2 e := by
  have one : ((1 : Nat) : Rat) * p2 e = p2 e := by simp
  have hp := p2_pos e
  have hnear : ∀ {X v : Rat}, Near FloatKind.f32.format X v → 0 ≤ v := by
    rintro X v ⟨l, k, hv, _⟩
    rw [hv]; exact nn k l
  rcases h with ⟨_, h⟩ | ⟨_, h⟩ | ⟨_, h⟩
  · grind
  · have := h.le (c := 1) (t := e) (by rw [one]; exact h2) (by rw [fb32]; decide) (by rw [lp32]; exact he)
    rw [one] at this
    have := hnear h
    grind
  · have := h.le (c := 1) (t := e) (by rw [one]; grind) (by rw [fb32]; decide) (by rw [lp32]; exact he)
    rw [one] at this
    have := hnear h
    grind

theorem add_lt32 {x y r : Nat} (h : floatBits .add .f32 x y = some r) : Fit .f32 r := by
  have h' : FloatKind.f32.format.add x y = some r := h
  simp only [Ieee.Format.add, Option.map_eq_some_iff] at h'
  obtain ⟨d, _, rfl⟩ := h'
  exact encode_lt .f32 d

theorem damp_fin {l x k : Nat} (hl : Fnt .f32 l) (hx : Fnt .f32 x) (l1 : -100 ≤ V .f32 l) (l2 : V .f32 l ≤ 100) (x1 : -100 ≤ V .f32 x) (x2 : V .f32 x ≤ 100) (hk : shOk k = true) :
    ∃ r, dampC (fc .f32 l) (fc .f32 x) (fc .f32 k) = some r ∧ Fnt .f32 r ∧ Fit .f32 r := by
  have hpb := p127_big
  obtain ⟨kf, k1, k2⟩ := sh_fnt hk
  have h8 : p2 8 = 256 := by have := p2_nat 8; simpa using this
  have h127 := p2_mono (a := 9) (b := emax FloatKind.f32.format) (by rw [em32]; decide)
  have h9 : p2 9 = 512 := by have := p2_nat 9; simpa using this
  obtain ⟨d, hd, hdf, hdn⟩ := sub_fin .f32 hx hl (by constructor <;> grind)
  have ed := small32 (e := 8) hdn (by grind) (by grind) (by omega)
  have m1 := Rat.mul_nonneg (show 0 ≤ 256 - V .f32 d by grind) k1
  have m2 := Rat.mul_nonneg (show 0 ≤ 256 + V .f32 d by grind) k1
  obtain ⟨p, hp, hpf, hpn⟩ := mul_fin .f32 hdf kf (by constructor <;> grind)
  have ep := small32 (e := 8) hpn (by grind) (by grind) (by omega)
  obtain ⟨r, hr, hrf, _⟩ := add_fin .f32 hl hpf (by constructor <;> grind)
  refine ⟨r, ?_, hrf, add_lt32 hr⟩
  rw [fc_fnt hl, fc_fnt hx, fc_fnt kf]
  show fop .add .f32 (some l) (fop .mul .f32 (fop .sub .f32 (some x) (some l)) (some k)) = some r
  have e1 : fop .sub .f32 (some x) (some l) = some d := hd
  have e2 : fop .mul .f32 (some d) (some k) = some p := hp
  rw [e1, e2]; exact hr

def dampW (l x : Nat × Nat) (k : Nat) : Nat × Nat := ((dampC (fc .f32 l.1) (fc .f32 x.1) (fc .f32 k)).getD 0, (dampC (fc .f32 l.2) (fc .f32 x.2) (fc .f32 k)).getD 0)
def sq (xs : List (Nat × Nat)) (k : Nat) : Nat → Nat × Nat
  | 0 => xs.getD 0 (0, 0)
  | j + 1 => dampW (sq xs k j) (xs.getD (j + 1) (0, 0)) k
def outL (xs : List (Nat × Nat)) (k n : Nat) : List (Nat × Nat) := (List.range n).map (sq xs k)
theorem outL_succ (xs : List (Nat × Nat)) (k n : Nat) : outL xs k (n + 1) = outL xs k n ++ [sq xs k n] := by simp [outL, List.range_succ]
theorem outL_len (xs : List (Nat × Nat)) (k n : Nat) : (outL xs k n).length = n := by simp [outL]
theorem outL_at (xs : List (Nat × Nat)) (k n j : Nat) (h : j < n) : (outL xs k n)[j]'(by rw [outL_len]; exact h) = sq xs k j := by simp [outL]

theorem FIs.eq32 {r p : Nat} {c : Option Nat} (h : FIs .f32 r c) (hc : c = some p) : r = p := by
  have := h.1; rw [hc] at this; exact (fc_some this).1.symm

/-- a step of the damping, where last and next are winds -/
theorem damp_step {a b x y k r q : Nat} (h1 : velOk a b = true) (h2 : velOk x y = true) (h3 : shOk k = true)
    (hr : FIs .f32 r (if dOk a b x y k then dampC (fc .f32 a) (fc .f32 x) (fc .f32 k) else some 0)) (hq : FIs .f32 q (if dOk a b x y k then dampC (fc .f32 b) (fc .f32 y) (fc .f32 k) else some 0)) :
    (r, q) = dampW (a, b) (x, y) k ∧ Fit .f32 r ∧ Fit .f32 q := by
  have hd : dOk a b x y k = true := by rw [dOk, h1, h2, h3]; rfl
  rw [hd, if_pos rfl] at hr hq
  obtain ⟨⟨f1, a1, a2⟩, ⟨f2, b1, b2⟩⟩ := vel_fnt h1
  obtain ⟨⟨g1, c1, c2⟩, ⟨g2, d1, d2⟩⟩ := vel_fnt h2
  obtain ⟨u, hu, _, uf⟩ := damp_fin f1 g1 a1 a2 c1 c2 h3
  obtain ⟨v, hv, _, vf⟩ := damp_fin f2 g2 b1 b2 d1 d2 h3
  have e1 := hr.eq32 hu
  have e2 := hq.eq32 hv
  subst e1 e2
  exact ⟨by rw [dampW, hu, hv]; rfl, uf, vf⟩

def RunOk (xs : List (Nat × Nat)) (k : Nat) : Prop := okAll xs = true ∧ xs.length ≤ 100 ∧ shOk k = true ∧ ∀ j, j + 1 < xs.length → velOk (sq xs k j).1 (sq xs k j).2 = true
def RunR (w : World) (v : Value) (xs : List (Nat × Nat)) (k : Nat) : Prop := (RunOk xs k ∧ RdC w v (outL xs k xs.length)) ∨ (¬ RunOk xs k ∧ RdC w v [])

/-- without damping all are as the first -/
theorem sq_none {xs : List (Nat × Nat)} (h : okAll xs = true) : ∀ j, j < xs.length → Fnt .f32 (sq xs 0 j).1 ∧ Fnt .f32 (sq xs 0 j).2 ∧ V .f32 (sq xs 0 j).1 = V .f32 (sq xs 0 0).1 ∧ V .f32 (sq xs 0 j).2 = V .f32 (sq xs 0 0).2 := by
  intro j
  induction j with
  | zero =>
    intro hj
    have h0 := vel_fnt (okAll_at h hj)
    have e : sq xs 0 0 = xs[0] := by simp [sq, List.getD, hj]
    rw [e]
    exact ⟨h0.1.1, h0.2.1, rfl, rfl⟩
  | succ j ih =>
    intro hj
    obtain ⟨i1, i2, i3, i4⟩ := ih (by omega)
    have h0 := vel_fnt (okAll_at h (show 0 < xs.length by omega))
    have e0 : sq xs 0 0 = xs[0]'(by omega) := by simp [sq, List.getD, show 0 < xs.length by omega]
    have hx := vel_fnt (okAll_at h hj)
    have ex : xs.getD (j + 1) (0, 0) = xs[j + 1] := by simp [List.getD, hj]
    rw [e0] at i3 i4 ⊢
    obtain ⟨r, hr, rf, rv⟩ := damp_none i1 hx.1.1 (by rw [i3]; exact h0.1.2.1) (by rw [i3]; exact h0.1.2.2) hx.1.2.1 hx.1.2.2
    obtain ⟨s, hs, sf, sv⟩ := damp_none i2 hx.2.1 (by rw [i4]; exact h0.2.2.1) (by rw [i4]; exact h0.2.2.2) hx.2.2.1 hx.2.2.2
    have es : sq xs 0 (j + 1) = (r, s) := by
      show dampW (sq xs 0 j) (xs.getD (j + 1) (0, 0)) 0 = _
      rw [ex, dampW, hr, hs]; rfl
    rw [es]
    exact ⟨rf, sf, by rw [rv, i3], by rw [sv, i4]⟩

theorem run_none {xs : List (Nat × Nat)} (h : okAll xs = true) (hl : xs.length ≤ 100) : RunOk xs 0 := by
  refine ⟨h, hl, by decide, fun j hj => ?_⟩
  obtain ⟨h1, h2, h3, h4⟩ := sq_none h j (by omega)
  have h0 := vel_fnt (okAll_at h (show 0 < xs.length by omega))
  have e0 : sq xs 0 0 = xs[0]'(by omega) := by simp [sq, List.getD, show 0 < xs.length by omega]
  rw [e0] at h3 h4
  exact vel_of h1 h2 (by rw [h3]; exact h0.1.2.1) (by rw [h3]; exact h0.1.2.2) (by rw [h4]; exact h0.2.2.1) (by rw [h4]; exact h0.2.2.2)

theorem sq_none_eq {xs : List (Nat × Nat)} (h : okAll xs = true) (j : Nat) (hj : j < xs.length) :
    FloatKind.f32.format.order (sq xs 0 j).1 (xs[0]'(by omega)).1 = some .eq ∧ FloatKind.f32.format.order (sq xs 0 j).2 (xs[0]'(by omega)).2 = some .eq := by
  obtain ⟨h1, h2, h3, h4⟩ := sq_none h j hj
  obtain ⟨g1, g2, _, _⟩ := sq_none h 0 (by omega)
  have e0 : sq xs 0 0 = xs[0]'(by omega) := by simp [sq, List.getD, show 0 < xs.length by omega]
  rw [e0] at h3 h4 g1 g2
  exact ⟨order_eq_of h1 g1 h3, order_eq_of h2 g2 h4⟩
end Go.Proofs.Ytjllidnkndhgmaa
