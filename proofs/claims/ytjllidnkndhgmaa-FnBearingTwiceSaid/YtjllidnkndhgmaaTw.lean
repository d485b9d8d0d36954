/- The bearing of a turn is its number of degrees: plain. -/
import Derived.Test.YtjllidnkndhgmaaTb
import Derived.Test.YtjllidnkndhgmaaRe
namespace Go.Proofs.Ytjllidnkndhgmaa
open Ieee

theorem chain_at : ∀ (l : List (Nat × Nat)), chain l = true → ∀ j (h : j + 1 < l.length), stepOk (l[j]'(by omega)) l[j + 1] = true
  | [], _, j, h => by simp at h
  | [p], _, j, h => by simp at h
  | p :: q :: r, hc, 0, _ => by simp only [chain, Bool.and_eq_true] at hc; exact hc.1
  | p :: q :: r, hc, j + 1, h => by
    simp only [chain, Bool.and_eq_true] at hc
    exact chain_at (q :: r) hc.2 j (by simpa using h)

theorem good_fnt {b : Nat} (h : good b = true) : Fnt .f64 b ∧ -1 ≤ V .f64 b ∧ V .f64 b ≤ 1 ∧ (p2 (-60) ≤ V .f64 b ∨ V .f64 b ≤ -p2 (-60)) := by
  unfold good at h
  cases hr : FloatKind.f64.format.read b with
  | nan => rw [hr] at h; cases h
  | infinity => rw [hr] at h; cases h
  | number s M E =>
    rw [hr] at h
    simp only [Bool.and_eq_true, decide_eq_true_eq] at h
    obtain ⟨⟨⟨h1, h2⟩, h3⟩, h4⟩ := h
    refine ⟨⟨s, M, E, hr⟩, ?_⟩
    have hp := p2_pos E
    have c1 : (4503599627370496 : Rat) ≤ M := by exact_mod_cast h1
    have c2 : (M : Rat) ≤ 9007199254740992 := by exact_mod_cast (by omega : M ≤ 9007199254740992)
    have m1 := p2_mono (a := -112) (b := E) h3
    have m2 := p2_mono (a := E) (b := -53) h4
    have e53 : p2 (-53) * 9007199254740992 = 1 := by have := p2_neg 53; have h5 : p2 53 = 9007199254740992 := by have := p2_nat 53; simpa using this
                                                     rw [h5] at this; grind
    have e60 : p2 (-112) * 4503599627370496 = p2 (-60) := by
      have h5 : p2 52 = 4503599627370496 := by have := p2_nat 52; simpa using this
      rw [← h5, ← p2_add]; rfl
    have k1 := Rat.mul_le_mul_of_nonneg_right c1 (Rat.le_of_lt hp)
    have k2 := Rat.mul_le_mul_of_nonneg_right c2 (Rat.le_of_lt hp)
    rw [V_eq hr]
    cases s <;> simp only [sg, Bool.false_eq_true, if_false, if_true, Rat.one_mul]
    · exact ⟨by grind, by grind, .inl (by grind)⟩
    · exact ⟨by grind, by grind, .inr (by grind)⟩

theorem tab_zero : tab[0]'(by rw [tab_len]; decide) = (4607182418800017408, 0) := by decide +kernel

theorem tab_good (j : Nat) (h : j + 1 < 360) : good (tab[j + 1]'(by rw [tab_len]; exact h)).1 = true ∧ good (tab[j + 1]'(by rw [tab_len]; exact h)).2 = true := by
  have hl := tab_len
  have hm : tab[j + 1]'(by rw [tab_len]; exact h) ∈ tab.drop 1 := by
    have h1 : j < (tab.drop 1).length := by rw [List.length_drop, hl]; omega
    have h2 : (tab.drop 1)[j] = tab[j + 1]'(by rw [tab_len]; exact h) := by rw [List.getElem_drop]; congr 1; omega
    rw [← h2]; exact List.getElem_mem h1
  have := List.all_eq_true.1 good_ok _ hm
  simpa only [Bool.and_eq_true] using this

theorem tab_fnt (j : Nat) (h : j < 360) : (Fnt .f64 (tab[j]'(by rw [tab_len]; exact h)).1 ∧ -1 ≤ V .f64 (tab[j]'(by rw [tab_len]; exact h)).1 ∧ V .f64 (tab[j]'(by rw [tab_len]; exact h)).1 ≤ 1) ∧
    (Fnt .f64 (tab[j]'(by rw [tab_len]; exact h)).2 ∧ -1 ≤ V .f64 (tab[j]'(by rw [tab_len]; exact h)).2 ∧ V .f64 (tab[j]'(by rw [tab_len]; exact h)).2 ≤ 1) := by
  cases j with
  | zero =>
    rw [tab_zero]
    have h1 := one_fnt
    have h2 := zero_fnt
    exact ⟨⟨h1.1, by rw [h1.2]; grind, by rw [h1.2]; grind⟩, ⟨h2.1, by rw [h2.2]; grind, by rw [h2.2]; grind⟩⟩
  | succ j =>
    have hg := tab_good j h
    have g1 := good_fnt hg.1
    have g2 := good_fnt hg.2
    exact ⟨⟨g1.1, g1.2.1, g1.2.2.1⟩, ⟨g2.1, g2.2.1, g2.2.2.1⟩⟩

theorem tab_turn (j : Nat) (h : j < 360) : turnC j = (some (tab[j]'(by rw [tab_len]; exact h)).1, some (tab[j]'(by rw [tab_len]; exact h)).2) := by
  induction j with
  | zero => rw [tab_zero]; rfl
  | succ j ih =>
    have hs := chain_at tab chain_ok j (by rw [tab_len]; exact h)
    have hf := tab_fnt j (by omega)
    have hi := ih (by omega)
    simp only [stepOk, fc_fnt hf.1.1, fc_fnt hf.2.1, beq_iff_eq] at hs
    show timesC (turnC j).1 (turnC j).2 _ _ = _
    rw [hi]; exact hs

theorem nears_at : ∀ (l : List (Nat × Nat)) (m : List (Int × Int)), nears l m = true → ∀ j (h : j < l.length) (g : j < m.length), near20 l[j].1 m[j].1 = true ∧ near20 l[j].2 m[j].2 = true
  | [], _, _, j, h, _ => by simp at h
  | _ :: _, [], _, j, _, g => by simp at g
  | p :: r, q :: s, hc, 0, _, _ => by simp only [nears, Bool.and_eq_true] at hc; exact hc.1
  | p :: r, q :: s, hc, j + 1, h, g => by
    simp only [nears, Bool.and_eq_true] at hc
    exact nears_at r s hc.2 j (by simpa using h) (by simpa using g)

theorem near20_val {b : Nat} {A : Int} (h : near20 b A = true) : (A : Rat) ≤ V .f64 b * 1048576 ∧ V .f64 b * 1048576 ≤ A + 1 := by
  unfold near20 at h
  cases hr : FloatKind.f64.format.read b with
  | nan => rw [hr] at h; cases h
  | infinity => rw [hr] at h; cases h
  | number s M E =>
    rw [hr] at h
    simp only [Bool.and_eq_true, decide_eq_true_eq] at h
    obtain ⟨⟨h1, h2⟩, h3⟩ := h
    obtain ⟨u, hu⟩ : ∃ u : Nat, E = -20 - (u : Int) := ⟨(-20 - E).toNat, by omega⟩
    have hu2 : (-20 - E).toNat = u := by omega
    rw [hu2] at h2 h3
    have hp := p2_pos (-(u : Int))
    have hpp := p2_neg (u : Int)
    rw [p2_nat] at hpp
    have e20 : p2 E * 1048576 = p2 (-(u : Int)) := by
      have h5 : p2 20 = 1048576 := by have := p2_nat 20; simpa using this
      rw [hu, ← h5, ← p2_add]; congr 1; omega
    have hv : V .f64 b * 1048576 = (signed s M 0 : Int) * p2 (-(u : Int)) := by
      rw [V_eq hr, ← e20]
      cases s <;> simp only [sg, signed, Bool.false_eq_true, if_false, if_true, Nat.shiftLeft_zero] <;> push_cast <;> grind
    rw [hv]
    have a2 : (A : Rat) * (2 ^ u : Nat) ≤ (signed s M 0 : Int) := by
      have : A * ((2 ^ u : Nat) : Int) ≤ signed s M 0 := by push_cast; exact h2
      have := Rat.intCast_le_intCast.2 this
      push_cast at this ⊢; exact this
    have a3 : ((signed s M 0 : Int) : Rat) ≤ (A + 1) * (2 ^ u : Nat) := by
      have : signed s M 0 ≤ (A + 1) * ((2 ^ u : Nat) : Int) := by push_cast; exact h3
      have := Rat.intCast_le_intCast.2 this
      push_cast at this ⊢; exact this
    have b2 := Rat.mul_le_mul_of_nonneg_right a2 (Rat.le_of_lt hp)
    have b3 := Rat.mul_le_mul_of_nonneg_right a3 (Rat.le_of_lt hp)
    generalize p2 (-(u : Int)) = P at *
    generalize ((2 ^ u : Nat) : Rat) = U at *
    have e1 : (A : Rat) * U * P = A := by rw [Rat.mul_assoc, hpp, Rat.mul_one]
    have e2 : ((A : Rat) + 1) * U * P = A + 1 := by rw [Rat.mul_assoc, hpp, Rat.mul_one]
    rw [e1] at b2
    rw [e2] at b3
    exact ⟨b2, b3⟩

theorem farAll_at (p : Int × Int) (k : Nat) : ∀ (l : List (Int × Int)) (j0 : Nat), farAll p l k j0 = true → ∀ j (h : j < l.length), k ≠ j0 + j → far p l[j] = true
  | [], _, _, j, h, _ => by simp at h
  | q :: r, j0, hc, 0, _, hne => by
    simp only [farAll, Bool.and_eq_true, Bool.or_eq_true, beq_iff_eq] at hc
    rcases hc.1 with h | h
    · exact absurd h (by simpa using hne)
    · exact h
  | q :: r, j0, hc, j + 1, h, hne => by
    simp only [farAll, Bool.and_eq_true] at hc
    exact farAll_at p k r (j0 + 1) hc.2 j (by simpa using h) (by omega)

theorem farRows_at : ∀ (l : List (Int × Int)) (k0 : Nat), farRows l k0 = true → ∀ k (h : k < l.length), farAll l[k] apx (k0 + k) 0 = true
  | [], _, _, k, h => by simp at h
  | p :: r, k0, hc, 0, _ => by simp only [farRows, Bool.and_eq_true] at hc; exact hc.1
  | p :: r, k0, hc, k + 1, h => by
    simp only [farRows, Bool.and_eq_true] at hc
    have := farRows_at r (k0 + 1) hc.2 k (by simpa using h)
    rw [show k0 + (k + 1) = k0 + 1 + k by omega]; exact this

theorem prod_near {x y A B : Rat} (h1 : A ≤ x) (h2 : x ≤ A + 1) (g1 : B ≤ y) (g2 : y ≤ B + 1) (hx1 : -1048576 ≤ x) (hx2 : x ≤ 1048576) (hy1 : -1048576 ≤ y) (hy2 : y ≤ 1048576) :
    x * y ≤ A * B + 2097153 ∧ A * B ≤ x * y + 2097153 := by
  obtain ⟨s, rfl⟩ : ∃ s, x = A + s := ⟨x - A, by grind⟩
  obtain ⟨t, rfl⟩ : ∃ t, y = B + t := ⟨y - B, by grind⟩
  have s0 : 0 ≤ s := by grind
  have s1 : s ≤ 1 := by grind
  have t0 : 0 ≤ t := by grind
  have t1 : t ≤ 1 := by grind
  have a1 := Rat.mul_nonneg s0 (show (0 : Rat) ≤ B + t + 1048576 by grind)
  have a2 := Rat.mul_nonneg s0 (show (0 : Rat) ≤ 1048576 - (B + t) by grind)
  have b1 := Rat.mul_nonneg t0 (show (0 : Rat) ≤ A + s + 1048576 by grind)
  have b2 := Rat.mul_nonneg t0 (show (0 : Rat) ≤ 1048576 - (A + s) by grind)
  have c1 := Rat.mul_nonneg s0 t0
  have c2 := Rat.mul_nonneg s0 (show (0 : Rat) ≤ 1 - t by grind)
  constructor <;> grind

/-- the product of a turn and another is less than that of the turn and itself -/
theorem tab_far (k j : Nat) (hk : k < 360) (hj : j < 360) (hne : k ≠ j) :
    V .f64 (tab[k]'(by rw [tab_len]; exact hk)).1 * V .f64 (tab[j]'(by rw [tab_len]; exact hj)).1 + V .f64 (tab[k]'(by rw [tab_len]; exact hk)).2 * V .f64 (tab[j]'(by rw [tab_len]; exact hj)).2 + 1 / 100000 <
      V .f64 (tab[k]'(by rw [tab_len]; exact hk)).1 * V .f64 (tab[k]'(by rw [tab_len]; exact hk)).1 + V .f64 (tab[k]'(by rw [tab_len]; exact hk)).2 * V .f64 (tab[k]'(by rw [tab_len]; exact hk)).2 := by
  have hfa := farAll_at _ _ _ _ (farRows_at apx 0 far_ok k (by rw [apx_len]; exact hk)) j (by rw [apx_len]; exact hj) (by omega)
  have nk := nears_at tab apx nears_ok k (by rw [tab_len]; exact hk) (by rw [apx_len]; exact hk)
  have nj := nears_at tab apx nears_ok j (by rw [tab_len]; exact hj) (by rw [apx_len]; exact hj)
  have fk := tab_fnt k hk
  have fj := tab_fnt j hj
  have k1 := near20_val nk.1
  have k2 := near20_val nk.2
  have j1 := near20_val nj.1
  have j2 := near20_val nj.2
  simp only [far, decide_eq_true_eq] at hfa
  generalize (apx[k]'(by rw [apx_len]; exact hk)) = p at *
  generalize (apx[j]'(by rw [apx_len]; exact hj)) = q at *
  generalize V .f64 (tab[k]'(by rw [tab_len]; exact hk)).1 = a at *
  generalize V .f64 (tab[k]'(by rw [tab_len]; exact hk)).2 = b at *
  generalize V .f64 (tab[j]'(by rw [tab_len]; exact hj)).1 = c at *
  generalize V .f64 (tab[j]'(by rw [tab_len]; exact hj)).2 = d at *
  have hf := Rat.intCast_lt_intCast.2 hfa
  push_cast at hf
  have e1 := prod_near k1.1 k1.2 j1.1 j1.2 (by grind) (by grind) (by grind) (by grind)
  have e2 := prod_near k2.1 k2.2 j2.1 j2.2 (by grind) (by grind) (by grind) (by grind)
  have e3 := prod_near k1.1 k1.2 k1.1 k1.2 (by grind) (by grind) (by grind) (by grind)
  have e4 := prod_near k2.1 k2.2 k2.1 k2.2 (by grind) (by grind) (by grind) (by grind)
  have z1 : a * 1048576 * (c * 1048576) = a * c * 1099511627776 := by grind
  have z2 : b * 1048576 * (d * 1048576) = b * d * 1099511627776 := by grind
  have z3 : a * 1048576 * (a * 1048576) = a * a * 1099511627776 := by grind
  have z4 : b * 1048576 * (b * 1048576) = b * b * 1099511627776 := by grind
  rw [z1] at e1; rw [z2] at e2; rw [z3] at e3; rw [z4] at e4
  generalize a * c = ac at *
  generalize b * d = bd at *
  generalize a * a = aa at *
  generalize b * b = bb at *
  grind
end Go.Proofs.Ytjllidnkndhgmaa
