/- Roots of squares of whole numbers: the last step is exact. No program. -/
import Derived.Test.YtjllidnkndhgmaaPd
namespace Go.Proofs.Ytjllidnkndhgmaa
open Ieee

/-- a finite number not below a power of two is a multiple of its last digit's place -/
theorem mult_of {k : FloatKind} {g : Nat} {j : Int} (hg : Fnt k g) (h0 : 0 < V k g) (h : p2 j ≤ V k g) : ∃ a : Nat, V k g = a * p2 (j - k.format.fractionBits) := by
  obtain ⟨s, M, E, _, h1, h2, h3⟩ := grid k hg
  have hs : sg s = 1 := by
    rcases sg_cases s with hs | hs
    · exact hs
    · rw [hs] at h1; have := nn M E; grind
  rw [hs, Rat.one_mul] at h1
  have hM : (M : Rat) < ((2 ^ (k.format.fractionBits + 1) : Nat) : Rat) := by exact_mod_cast h2
  have h4 := Rat.mul_lt_mul_of_pos_right hM (p2_pos E)
  rw [← p2_nat, ← p2_add] at h4
  have h5 : p2 j < p2 (((k.format.fractionBits + 1 : Nat) : Int) + E) := by grind
  have h6 := p2_lt_iff.1 h5
  obtain ⟨n, hn⟩ := units_of (F := k.format.fractionBits) (c := M) (t := E) (l := j - k.format.fractionBits) (by omega) (Or.inr (by omega))
  exact ⟨n, by rw [h1, hn]⟩

theorem int_close {i : Int} {u : Rat} (hu : 0 < u) {d : Rat} (hd : d = i * u) (h1 : -u < d) (h2 : d < 2 * u) : i = 0 ∨ i = 1 := by
  have a : -1 < i := by
    rcases Int.lt_or_le (-1) i with h | h
    · exact h
    · exfalso
      have h3 := (Rat.intCast_le_intCast (a := i) (b := -1)).2 h
      have h4 := Rat.mul_le_mul_of_nonneg_right h3 (Rat.le_of_lt hu)
      have e : ((-1 : Int) : Rat) = -1 := rfl
      rw [e] at h4
      grind
  have b : i < 2 := by
    rcases Int.lt_or_le i 2 with h | h
    · exact h
    · exfalso
      have h3 := (Rat.intCast_le_intCast (a := 2) (b := i)).2 h
      have h4 := Rat.mul_le_mul_of_nonneg_right h3 (Rat.le_of_lt hu)
      have e : ((2 : Int) : Rat) = 2 := rfl
      rw [e] at h4
      grind
  omega

theorem nears_pos {f : Format} {X v : Rat} (h : NearS f X v) (h0 : 0 < X) : Near f X v := by
  rcases h with ⟨h, _⟩ | ⟨_, h⟩ | ⟨h, _⟩
  · grind
  · exact h
  · grind

theorem last_step {x g n : Nat} (h1 : 1 ≤ n) (h2 : n ≤ 9999) (hx : Fnt .f64 x) (hxv : V .f64 x = n * n) (hg : Fnt .f64 g) (hG0 : 0 < V .f64 g)
    (ha : V .f64 x * (1 - 1 / 1000000000000000) ≤ V .f64 g * V .f64 g) (hb : V .f64 g * V .f64 g ≤ V .f64 x * (1 + 2 / 1000000000000000)) :
    ∃ r, rstep (fc .f64 x) (fc .f64 g) = some r ∧ Fnt .f64 r ∧ V .f64 r = n := by
  have n1 : (1 : Rat) ≤ n := by exact_mod_cast h1
  have n2 : (n : Rat) ≤ 9999 := by exact_mod_cast h2
  have n0 : (0 : Rat) < n := by grind
  rw [hxv] at ha hb
  have nn2 := Rat.mul_pos n0 n0
  have hp := p1023_big
  -- G between
  have g2 : V .f64 g ≤ n * (1 + 1 / 1000000000000000) := by
    refine sq_le (Rat.le_of_lt hG0) (by grind) ?_
    grind
  have g1 : n * (1 - 1 / 1000000000000000) ≤ V .f64 g := by
    refine sq_le (by grind) (Rat.le_of_lt hG0) ?_
    grind
  -- the quotient
  have hQG : V .f64 x / V .f64 g * V .f64 g = n * n := by rw [hxv]; have := Rat.ne_of_gt hG0; grind
  have hQ0 : 0 < V .f64 x / V .f64 g := rdiv_pos (by rw [hxv]; exact nn2) hG0
  have q2 : V .f64 x / V .f64 g ≤ n * (1 + 2 / 1000000000000000) := by
    rw [rdiv_le hG0, hxv]
    have := Rat.mul_le_mul_of_nonneg_left g1 (show (0 : Rat) ≤ (n : Rat) * (1 + 2 / 1000000000000000) by grind)
    grind
  have q1 : n * (1 - 2 / 1000000000000000) ≤ V .f64 x / V .f64 g := by
    rw [rle_div hG0, hxv]
    have := Rat.mul_le_mul_of_nonneg_left g2 (show (0 : Rat) ≤ (n : Rat) * (1 - 2 / 1000000000000000) by grind)
    grind
  obtain ⟨q, hq, hqf, hqn⟩ := div_fin .f64 hx hg (Rat.ne_of_gt hG0) (by constructor <;> grind)
  have hqN := nears_pos hqn hQ0
  have hQeq : V .f64 g = n → V .f64 x / V .f64 g = n := by
    intro h; rw [h] at hQG ⊢; have := Rat.ne_of_gt n0; grind
  have hmid : V .f64 g + V .f64 x / V .f64 g - 2 * n = (V .f64 g - n) * (V .f64 g - n) / V .f64 g := by
    have := Rat.ne_of_gt hG0
    grind
  generalize V .f64 x / V .f64 g = Q at *
  -- places
  obtain ⟨j, hj⟩ : ∃ j : Nat, j = n.log2 := ⟨_, rfl⟩
  have hn0 : n ≠ 0 := by omega
  have lo : 2 ^ j ≤ n := by rw [hj]; exact log2_lo hn0
  have hi : n < 2 ^ (j + 1) := by rw [hj]; exact log2_hi
  have hj13 : j ≤ 13 := by
    have : ¬ 14 ≤ j := by
      intro h
      have : 2 ^ 14 ≤ 2 ^ j := Nat.pow_le_pow_right (by omega) h
      omega
    omega
  have lor : p2 j ≤ n := by rw [p2_nat]; exact_mod_cast lo
  have hir : (n : Rat) + 1 ≤ p2 ((j : Int) + 1) := by
    have e : ((j : Int) + 1) = ((j + 1 : Nat) : Int) := by omega
    rw [e, p2_nat]
    exact_mod_cast hi
  have hjm : p2 ((j : Int) - 1) ≤ n / 2 := by
    have := p2_succ ((j : Int) - 1)
    rw [Int.sub_add_cancel] at this
    grind
  -- the unit
  obtain ⟨μ, hμ⟩ : ∃ μ, μ = p2 ((j : Int) - 53) := ⟨_, rfl⟩
  have hμ0 : 0 < μ := by rw [hμ]; exact p2_pos _
  have hμlo : 1 / 10000000000000000 ≤ μ := by
    rw [hμ]
    have := p2_mono (a := -53) (b := (j : Int) - 53) (by omega)
    have h := p2_neg 53
    have h3 : p2 53 = 9007199254740992 := by have := p2_nat 53; simpa using this
    rw [h3] at h
    grind
  have hu := hqN.ulp (j := (j : Int)) (by grind) (by rw [lp64, fb64]; omega)
  have eμ : ((j : Int) - ((FloatKind.f64.format.fractionBits : Nat) : Int) - 1) = (j : Int) - 53 := by rw [fb64]; omega
  rw [eμ, ← hμ] at hu
  have hμ1 : μ ≤ 1 := by
    rw [hμ]
    have := p2_mono (a := (j : Int) - 53) (b := 0) (by omega)
    rw [p2_zero] at this; exact this
  have hsumhi : V .f64 g + V .f64 q ≤ 100000 := by grind
  -- multiples
  have hqlo : n / 2 ≤ V .f64 q := by
    have : μ ≤ n / 4 := by
      have := p2_mono (a := (j : Int) - 53) (b := (j : Int) - 2) (by omega)
      have h5 := p2_succ ((j : Int) - 2)
      have e5 : ((j : Int) - 2 + 1) = (j : Int) - 1 := by omega
      rw [e5] at h5
      rw [hμ]; grind
    grind
  have e2 : ((j : Int) - 1 - ((FloatKind.f64.format.fractionBits : Nat) : Int)) = (j : Int) - 53 := by rw [fb64]; omega
  obtain ⟨a, haG⟩ := mult_of (j := (j : Int) - 1) hg hG0 (by grind)
  obtain ⟨b, hbq⟩ := mult_of (j := (j : Int) - 1) hqf (by grind) (by grind)
  rw [e2, ← hμ] at haG hbq
  have hc : ∃ c : Nat, 2 * (n : Rat) = c * μ ∧ (n : Rat) = ((n * 2 ^ (53 - j) : Nat) : Rat) * μ := by
    have hu1 : ((2 ^ (53 - j) : Nat) : Rat) * μ = 1 := by
      rw [hμ, ← p2_nat, ← p2_add]
      have : ((53 - j : Nat) : Int) + ((j : Int) - 53) = 0 := by omega
      rw [this, p2_zero]
    refine ⟨2 * n * 2 ^ (53 - j), ?_, ?_⟩
    · push_cast at hu1 ⊢; grind
    · push_cast at hu1 ⊢; grind
  obtain ⟨c, hc, hnμ⟩ := hc
  -- the difference
  have hd : V .f64 g + V .f64 q - 2 * n = (((a : Int) + b - c : Int) : Rat) * μ := by
    rw [haG, hbq, hc]; push_cast; grind
  have hsq : 0 ≤ (V .f64 g - n) * (V .f64 g - n) / V .f64 g := by
    rw [Rat.div_def]
    exact Rat.mul_nonneg (sqn _) (by have := rdiv_pos (show (0:Rat) < 1 by decide) hG0; rw [Rat.div_def, Rat.one_mul] at this; exact Rat.le_of_lt this)
  have hsq2 : (V .f64 g - n) * (V .f64 g - n) / V .f64 g < μ := by
    have h5 : (V .f64 g - n) * (V .f64 g - n) ≤ n * (1 / 1000000000000000) * (n * (1 / 1000000000000000)) := by
      have k1 := Rat.mul_nonneg (show (0 : Rat) ≤ (n : Rat) * (1 / 1000000000000000) - (V .f64 g - n) by grind) (show (0 : Rat) ≤ (n : Rat) * (1 / 1000000000000000) + (V .f64 g - n) by grind)
      grind
    rw [Rat.div_lt_iff hG0]
    have h6 := Rat.mul_le_mul_of_nonneg_left n2 (Rat.le_of_lt n0)
    have h7 := Rat.mul_le_mul_of_nonneg_right hμlo (Rat.le_of_lt hG0)
    grind
  have hi01 : ((a : Int) + b - c) = 0 ∨ ((a : Int) + b - c) = 1 := by
    by_cases he : V .f64 g = n
    · left
      have hQn := hQeq he
      have hqv : V .f64 q = n := by
        rw [hQn] at hqN
        refine hqN.exact (c := n) (t := 0) (by rw [p2_zero]; grind) (by rw [fb64]; omega) (by rw [lp64]; omega)
      have hz : (((a : Int) + b - c : Int) : Rat) * μ = ((0 : Int) : Rat) * μ := by rw [← hd, he, hqv]; grind
      have h8 := Rat.ne_of_gt hμ0
      have : (((a : Int) + b - c : Int) : Rat) = ((0 : Int) : Rat) := by grind
      exact Rat.intCast_inj.1 this
    · have hpos : 0 < (V .f64 g - n) * (V .f64 g - n) / V .f64 g := by
        refine rdiv_pos ?_ hG0
        have hne : V .f64 g - n ≠ 0 := by grind
        rcases (Rat.le_total : 0 ≤ V .f64 g - n ∨ V .f64 g - n ≤ 0) with h | h
        · have h' : 0 < V .f64 g - n := by grind
          exact Rat.mul_pos h' h'
        · have h' : 0 < -(V .f64 g - n) := by grind
          have := Rat.mul_pos h' h'
          grind
      exact int_close hμ0 hd (by grind) (by grind)
  -- the sum
  have hsum0 : 0 < V .f64 g + V .f64 q := by
    clear hc hnμ hd hsq hsq2 hi01
    grind
  obtain ⟨s, hs, hsf, hsn⟩ := add_fin .f64 hg hqf (by clear hc hnμ hd hsq hsq2 hi01 hmid hQG; constructor <;> grind)
  have hsN := nears_pos hsn hsum0
  have hs2 : V .f64 s = 2 * n := by
    rcases hi01 with h0 | h0
    · rw [h0] at hd
      have hX : V .f64 g + V .f64 q = 2 * n := by
        have e : ((0 : Int) : Rat) = 0 := rfl
        rw [e] at hd; grind
      rw [hX] at hsN
      exact hsN.exact (c := 2 * n) (t := 0) (by rw [p2_zero]; push_cast; grind) (by rw [fb64]; omega) (by rw [lp64]; omega)
    · rw [h0] at hd
      have hX : V .f64 g + V .f64 q = 2 * n + μ := by
        have e : ((1 : Int) : Rat) = 1 := rfl
        rw [e] at hd; grind
      rw [hX] at hsN
      obtain ⟨l, kept, hv, hl, _, k1, k2, k3, k4⟩ := hsN
      have p1 := p2_succ (j : Int)
      have p3 := p2_succ ((j : Int) + 1)
      have e3 : ((j : Int) + 1 + 1) = (j : Int) + 2 := by omega
      rw [e3] at p3
      have hl1 : (j : Int) - 51 ≤ l := by
        have h5 : p2 ((j : Int) + 1) < p2 (l + ((FloatKind.f64.format.fractionBits : Nat) : Int) + 1) := by grind
        have := p2_lt_iff.1 h5
        rw [fb64] at this
        omega
      have hl2 : l ≤ (j : Int) - 51 := by
        rcases k3 with k3 | k3
        · rw [k3, lp64]; omega
        · have h5 : p2 (l + ((FloatKind.f64.format.fractionBits : Nat) : Int)) < p2 ((j : Int) + 2) := by grind
          have := p2_lt_iff.1 h5
          rw [fb64] at this
          omega
      have hl3 : l = (j : Int) - 51 := by omega
      subst hl3
      have h4μ : p2 ((j : Int) - 51) = 4 * μ := by
        have a1 := p2_succ ((j : Int) - 53)
        have a2 := p2_succ ((j : Int) - 52)
        have f1 : ((j : Int) - 53 + 1) = (j : Int) - 52 := by omega
        have f2 : ((j : Int) - 52 + 1) = (j : Int) - 51 := by omega
        rw [f1] at a1
        rw [f2] at a2
        rw [a2, a1, hμ]; grind
      rw [h4μ] at hv k1 k2
      have hc4 : 2 * (n : Rat) = ((n * 2 ^ (52 - j) : Nat) : Rat) * (4 * μ) := by
        have : n * 2 ^ (53 - j) = 2 * (n * 2 ^ (52 - j)) := by
          have : 53 - j = (52 - j) + 1 := by omega
          rw [this, Nat.pow_succ]
          rw [← Nat.mul_assoc, Nat.mul_comm]
        rw [this] at hnμ
        push_cast at hnμ ⊢
        grind
      have hkc : kept = n * 2 ^ (52 - j) := by
        rcases Nat.lt_trichotomy kept (n * 2 ^ (52 - j)) with h | h | h
        · exfalso
          have h6 : ((kept + 1 : Nat) : Rat) ≤ ((n * 2 ^ (52 - j) : Nat) : Rat) := by exact_mod_cast h
          have h7 := Rat.mul_le_mul_of_nonneg_right h6 (show 0 ≤ 4 * μ by grind)
          push_cast at h7 hc4
          grind
        · exact h
        · exfalso
          have h6 : ((n * 2 ^ (52 - j) + 1 : Nat) : Rat) ≤ (kept : Rat) := by exact_mod_cast h
          have h7 := Rat.mul_le_mul_of_nonneg_right h6 (show 0 ≤ 4 * μ by grind)
          push_cast at h7 hc4
          grind
      rw [hv, hkc, hc4]
  -- the half
  have h22 := two_fnt
  have hdiv : V .f64 s / V .f64 4611686018427387904 = n := by rw [h22.2, hs2]; grind
  obtain ⟨r, hr, hrf, hrn⟩ := div_fin .f64 hsf h22.1 (by rw [h22.2]; decide) (by rw [hdiv]; constructor <;> grind)
  rw [hdiv] at hrn
  refine ⟨r, ?_, hrf, (nears_pos hrn n0).exact (c := n) (t := 0) (by rw [p2_zero]; grind) (by rw [fb64]; omega) (by rw [lp64]; omega)⟩
  unfold rstep
  rw [fc_fnt hx, fc_fnt hg]
  have e1 : fop .quo .f64 (some x) (some g) = some q := hq
  rw [e1]
  have e2 : fop .add .f64 (some g) (some q) = some s := hs
  rw [e2, fc_fnt h22.1]
  exact hr

/-- THE ROOT of the square of a whole number up to 9999 -/
theorem roots_plain {n : Nat} (h : n ≤ 9999) : ∃ x r, fop .mul .f64 (fc .f64 (floatOfInt .f64 n)) (fc .f64 (floatOfInt .f64 n)) = some x ∧ rootC x = some r ∧ FloatKind.f64.format.order r (floatOfInt .f64 n) = some .eq := by
  have hp := p1023_big
  have hi := ofInt_fin .f64 n (by rw [fb64]; omega)
  have hiv : V .f64 (floatOfInt .f64 n) = (n : Rat) := hi.2
  have n2 : (n : Rat) ≤ 9999 := by exact_mod_cast h
  have n0 : (0 : Rat) ≤ n := by exact_mod_cast Nat.zero_le n
  have nn2 := Rat.mul_nonneg n0 n0
  have nn3 := Rat.mul_le_mul_of_nonneg_left n2 n0
  obtain ⟨x, hx, hxf, hxn⟩ := mul_fin .f64 hi.1 hi.1 (by rw [hiv]; constructor <;> grind)
  rw [hiv] at hxn
  have hxv : V .f64 x = n * n := by
    have hle : n * n ≤ 2 ^ (52 + 1) := by
      have := Nat.mul_le_mul h h
      omega
    refine hxn.exact (s := false) (c := n * n) (t := 0) ?_ (by rw [fb64]; exact hle) (by rw [lp64]; omega)
    rw [p2_zero]; simp only [sg]; push_cast; grind
  have hx1 : fop .mul .f64 (fc .f64 (floatOfInt .f64 n)) (fc .f64 (floatOfInt .f64 n)) = some x := by rw [fc_fnt hi.1]; exact hx
  by_cases h0 : n = 0
  · subst h0
    have hx0 : V .f64 x = 0 := by rw [hxv]; simp
    have hm := min_fnt
    have hin : rootIn x = false := by
      unfold rootIn
      rw [order_fin .f64 hxf hm.1]
      have : V .f64 x < V .f64 4427486594234968593 := by have := p2_pos (-40); grind
      rw [if_pos this]; rfl
    have hz := zero_fnt
    refine ⟨x, 0, hx1, rootC_out hin, order_eq_of hz.1 hi.1 ?_⟩
    rw [hiv, hz.2]; rfl
  · have h1 : 1 ≤ n := by omega
    have n1 : (1 : Rat) ≤ n := by exact_mod_cast h1
    have hx1' : 1 ≤ V .f64 x := by
      rw [hxv]
      have := Rat.mul_le_mul_of_nonneg_left n1 n0
      grind
    have hin : rootIn x = true := by
      have hm := min_fnt
      have hM := max_fnt
      have hmv := min_val
      have hMv : 100000000 ≤ V .f64 4861130398305394688 := by
        have hr : FloatKind.f64.format.read 4861130398305394688 = .number false 6250000000000000 4 := by decide +kernel
        rw [V_eq hr]
        have h2 : p2 4 = 16 := by have := p2_nat 4; simpa using this
        rw [h2]
        simp only [sg]
        grind
      unfold rootIn
      rw [order_fin .f64 hxf hm.1, order_fin .f64 hxf hM.1]
      rw [if_neg (by grind), if_neg (by grind), if_pos (by rw [hxv]; grind)]
      rfl
    have hmid := mid_of_in hin
    have hs : rstart x = x := by
      unfold rstart
      rw [if_neg]
      rw [order_fin .f64 hxf one_fnt.1, one_fnt.2, if_neg (by grind)]
      split <;> simp
    have hX : 0 < V .f64 x := by grind
    obtain ⟨g, g1, g2, g3, g4, g5⟩ := inv_late hmid hxf hX (by have := Rat.mul_le_mul_of_nonneg_left hx1' (Rat.le_of_lt hX); grind) (Rat.mul_le_mul_of_nonneg_left hmid.2.2 (Rat.le_of_lt hX)) 18
    have h53 := e53_val
    obtain ⟨r, r1, r2, r3⟩ := last_step h1 h hxf hxv g2 g3 (by have := Rat.mul_lt_mul_of_pos_left h53 hX; grind) g5
    refine ⟨x, r, hx1, ?_, order_eq_of r2 hi.1 (by rw [r3, hiv])⟩
    unfold rootC
    rw [if_pos hin, hs]
    show rstep (fc .f64 x) (riter (fc .f64 x) (fc .f64 x) 59) = some r
    have e : riter (fc .f64 x) (fc .f64 x) 59 = some g := g1
    rw [e, ← fc_fnt g2]; exact r1

end Go.Proofs.Ytjllidnkndhgmaa
