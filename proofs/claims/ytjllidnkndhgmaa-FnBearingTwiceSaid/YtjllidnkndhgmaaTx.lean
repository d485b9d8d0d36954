/- The law FnTurnsBack. -/
import Derived.Test.YtjllidnkndhgmaaTw
import Derived.Test.YtjllidnkndhgmaaBi
import Derived.Test.YtjllidnkndhgmaaLi
namespace Go.Proofs.Ytjllidnkndhgmaa
open Ieee Go.RowKit

/-- a product of numbers up to 1 with others, as good as exact -/
theorem dot_gen {a b c d : Nat} (ha : Fnt .f64 a) (hb : Fnt .f64 b) (hc : Fnt .f64 c) (hd : Fnt .f64 d)
    (a1 : -1 ≤ V .f64 a * V .f64 c) (a2 : V .f64 a * V .f64 c ≤ 1) (b1 : -1 ≤ V .f64 b * V .f64 d) (b2 : V .f64 b * V .f64 d ≤ 1) :
    ∃ r, dotC (some a) (some b) (some c) (some d) = some r ∧ Fnt .f64 r ∧ V .f64 r ≤ V .f64 a * V .f64 c + V .f64 b * V .f64 d + 1 / 10000000 ∧ V .f64 a * V .f64 c + V .f64 b * V .f64 d ≤ V .f64 r + 1 / 10000000 := by
  have hbig := p2_mono (a := 40) (b := emax FloatKind.f64.format) (by decide)
  have h40 : p2 40 = 1099511627776 := by have := p2_nat 40; simpa using this
  rw [h40] at hbig
  have es := e53_val
  have ep := e53_pos
  have ets := t64_tiny
  have etp := t64_pos
  obtain ⟨x, hx, xf, xn⟩ := mul_fin .f64 ha hc (by constructor <;> grind)
  obtain ⟨y, hy, yf, yn⟩ := mul_fin .f64 hb hd (by constructor <;> grind)
  have ex := near_b64 xn a1 a2
  have ey := near_b64 yn b1 b2
  obtain ⟨r, hr, rf, rn⟩ := add_fin .f64 xf yf (by constructor <;> grind)
  have er := near_b64 (B := 4) rn (by grind) (by grind)
  refine ⟨r, ?_, rf, by grind, by grind⟩
  show fop .add .f64 (fop .mul .f64 (some a) (some c)) (fop .mul .f64 (some b) (some d)) = some r
  have e1 : fop .mul .f64 (some a) (some c) = some x := hx
  have e2 : fop .mul .f64 (some b) (some d) = some y := hy
  rw [e1, e2]; exact hr

theorem sq_bd {x y : Rat} (h1 : -1 ≤ x) (h2 : x ≤ 1) (g1 : -1 ≤ y) (g2 : y ≤ 1) : -1 ≤ x * y ∧ x * y ≤ 1 := by
  have a := Rat.mul_nonneg (show 0 ≤ 1 - x by grind) (show 0 ≤ 1 - y by grind)
  have b := Rat.mul_nonneg (show 0 ≤ 1 + x by grind) (show 0 ≤ 1 + y by grind)
  have c := Rat.mul_nonneg (show 0 ≤ 1 - x by grind) (show 0 ≤ 1 + y by grind)
  have d := Rat.mul_nonneg (show 0 ≤ 1 + x by grind) (show 0 ≤ 1 - y by grind)
  constructor <;> grind

theorem gt_fin {x y : Nat} (hx : Fnt .f64 x) (hy : Fnt .f64 y) : gtO (some x) (some y) = decide (V .f64 y < V .f64 x) := by
  show (FloatKind.f64.format.order x y == some .gt) = _
  rw [order_fin .f64 hx hy]
  by_cases h1 : V .f64 x < V .f64 y
  · rw [if_pos h1, decide_eq_false (by grind)]; rfl
  · rw [if_neg h1]
    by_cases h2 : V .f64 x = V .f64 y
    · rw [if_pos h2, decide_eq_false (by grind)]; rfl
    · rw [if_neg h2, decide_eq_true (by grind)]; rfl

theorem dot_tab (k j : Nat) (hk : k < 360) (hj : j < 360) : ∃ r, dotT (tab[k]'(by rw [tab_len]; exact hk)).1 (tab[k]'(by rw [tab_len]; exact hk)).2 j = some r ∧ Fnt .f64 r ∧
    V .f64 r ≤ V .f64 (tab[k]'(by rw [tab_len]; exact hk)).1 * V .f64 (tab[j]'(by rw [tab_len]; exact hj)).1 + V .f64 (tab[k]'(by rw [tab_len]; exact hk)).2 * V .f64 (tab[j]'(by rw [tab_len]; exact hj)).2 + 1 / 10000000 ∧
    V .f64 (tab[k]'(by rw [tab_len]; exact hk)).1 * V .f64 (tab[j]'(by rw [tab_len]; exact hj)).1 + V .f64 (tab[k]'(by rw [tab_len]; exact hk)).2 * V .f64 (tab[j]'(by rw [tab_len]; exact hj)).2 ≤ V .f64 r + 1 / 10000000 := by
  have fk := tab_fnt k hk
  have fj := tab_fnt j hj
  have s1 := sq_bd fk.1.2.1 fk.1.2.2 fj.1.2.1 fj.1.2.2
  have s2 := sq_bd fk.2.2.1 fk.2.2.2 fj.2.2.1 fj.2.2.2
  obtain ⟨r, h⟩ := dot_gen fk.1.1 fk.2.1 fj.1.1 fj.2.1 s1.1 s1.2 s2.1 s2.2
  refine ⟨r, ?_, h.2⟩
  rw [dotT, tab_turn j hj, fc_fnt fk.1.1, fc_fnt fk.2.1]
  exact h.1

theorem bearF_mem (a b n : Nat) : ∃ j, j ≤ n ∧ bearF a b n = (j, dotT a b j) := by
  induction n with
  | zero => exact ⟨0, Nat.le_refl _, rfl⟩
  | succ n ih =>
    cases h : gtO (dotT a b (n + 1)) (bearF a b n).2
    · obtain ⟨j, hj, hb⟩ := ih
      exact ⟨j, by omega, by rw [bearF_no h]; exact hb⟩
    · exact ⟨n + 1, Nat.le_refl _, bearF_yes h⟩

/-- the best one is the one whose product is greatest -/
theorem bearF_best {a b k : Nat} (hk : k < 360) (h1 : ∀ j, j < k → gtO (dotT a b k) (dotT a b j) = true) (h2 : ∀ j, k < j → j < 360 → gtO (dotT a b j) (dotT a b k) = false) (n : Nat) (hn : n < 360) (hkn : k ≤ n) :
    bearF a b n = (k, dotT a b k) := by
  induction n with
  | zero => obtain rfl : k = 0 := by omega
            rfl
  | succ n ih =>
    by_cases he : k = n + 1
    · subst he
      obtain ⟨j, hj, hb⟩ := bearF_mem a b n
      exact bearF_yes (by rw [hb]; exact h1 j (by omega))
    · have := ih (by omega) (by omega)
      have h3 := h2 (n + 1) (by omega) hn
      rw [bearF_no (by rw [this]; exact h3), this]

theorem turns_back (m a b : Nat) (hm : m < 360) (ha : FIs .f64 a (turnC m).1) (hb : FIs .f64 b (turnC m).2) : bearC a b = m := by
  have ht := tab_turn m hm
  rw [ht] at ha hb
  have ea := (fc_some ha.1).1
  have eb := (fc_some hb.1).1
  have fm := tab_fnt m hm
  have hbest : bearF a b 359 = (m, dotT a b m) := by
    rw [← ea, ← eb]
    obtain ⟨r, r1, r2, r3, r4⟩ := dot_tab m m hm hm
    refine bearF_best hm ?_ ?_ 359 (by omega) (by omega)
    · intro j hj
      obtain ⟨s, s1, s2, s3, s4⟩ := dot_tab m j hm (by omega)
      have hf := tab_far m j hm (by omega) (by omega)
      rw [r1, s1, gt_fin r2 s2]
      exact decide_eq_true (by grind)
    · intro j hj hj2
      obtain ⟨s, s1, s2, s3, s4⟩ := dot_tab m j hm hj2
      have hf := tab_far m j hm hj2 (by omega)
      rw [r1, s1, gt_fin s2 r2]
      exact decide_eq_false (by grind)
  have hv : vecOk a b = true := by
    rw [← ea, ← eb]
    exact vec_of fm.1.1 fm.2.1 (by grind) (by grind) (by grind) (by grind)
  have hz : (isZ (fc .f64 a) && isZ (fc .f64 b)) = false := by
    rw [← ea, ← eb, fc_fnt fm.1.1, fc_fnt fm.2.1]
    cases hx : isZ (some (tab[m]'(by rw [tab_len]; exact hm)).1)
    · rfl
    · cases hy : isZ (some (tab[m]'(by rw [tab_len]; exact hm)).2)
      · rfl
      · exfalso
        have z := zero_fnt
        have vz : ∀ {x : Nat}, Fnt .f64 x → isZ (some x) = true → V .f64 x = 0 := by
          intro x hx h
          have h' : (FloatKind.f64.format.order x 0 == some .eq) = true := h
          rw [order_fin .f64 hx z.1, z.2] at h'
          by_cases h1 : V .f64 x < 0
          · rw [if_pos h1] at h'; cases h'
          · rw [if_neg h1] at h'
            by_cases h2 : V .f64 x = 0
            · exact h2
            · rw [if_neg h2] at h'; cases h'
        have va := vz fm.1.1 hx
        have vb := vz fm.2.1 hy
        obtain ⟨j, hj, hne⟩ : ∃ j, j < 360 ∧ m ≠ j := by
          by_cases h0 : m = 0
          · exact ⟨1, by omega, by omega⟩
          · exact ⟨0, by omega, h0⟩
        have hf := tab_far m j hm hj hne
        rw [va, vb] at hf
        grind
  rw [bearC, hv, hz, hbest]; rfl

set_option maxHeartbeats 2000000 in
set_option maxRecDepth 100000 in
theorem lawTurnsBack (A : Option Addr) (n c : Nat) (w : World) (hr : RdB w A n) :
    Calls Try.prog 11 #[.slice A n c] w fun e w' => e = .returned (.bool true) ∧ Below w.heap.size w w' := by
  have hn := hr.1
  by_cases hbig : n > 1048576
  · clear hr
    go_enter Try.func11, Try.ntmps11
    go_wp2
    go_ret
    exact ⟨rfl, Below.refl _ _⟩
  · go_enter Try.func11, Try.ntmps11
    go_wp2_with (go_at_call 27; go_in)
    refine (dTurn _ hr (Below.refl _ _)).mono ?_
    clear hr
    rintro e w1 ⟨k, rfl, hB⟩
    have HB := hid hB
    clear hB
    have hm0 : 0 ≤ k % 360 := by omega
    have hm1 : k % 360 < 360 := by omega
    obtain ⟨m, hm⟩ : ∃ m : Nat, k % 360 = m := ⟨(k % 360).toNat, by omega⟩
    have HM := hid hm
    have hlt : m < 360 := by omega
    have HL := hid hlt
    clear hm hm0 hm1 hlt
    go_wp2_with fail
    refine (iTurn _ _).mono ?_
    rintro e w2 ⟨r, q, rfl, hr, hq, m1, rfl⟩
    rw [HM.out] at hr hq
    have hb := hid (turns_back m r q HL.out hr hq)
    have HR := hid (FIs.fit hr)
    have HQ := hid (FIs.fit hq)
    clear hr hq
    go_wp2_with fail
    refine (iBearing _ _ HR.out HQ.out _).mono ?_
    rintro e w3 ⟨rfl, hB2⟩
    have HB2 := hid ((below_drewN HB.out m1).trans (hB2.mono HB.out.size))
    clear hB2
    rw [hb.out]
    go_wp2_with fail
    refine (gmod_any _ _).mono ?_
    rintro e w4 ⟨rfl, rfl⟩
    rw [HM.out]
    go_wp2
    go_ret
    exact ⟨by simp, HB2.out⟩
end Go.Proofs.Ytjllidnkndhgmaa
