/- The singles of a polar that is right: bounds. Whole numbers as singles. -/
import Derived.Test.YtgjfpclpnobggaaPt
namespace Go.Proofs.Ytgjfpclpnobggaa
open Go.RowKit
open Ieee (Format Datum)

theorem NearS.exact {f : Format} {X v : Rat} (h : NearS f X v) {s : Bool} {c : Nat} {t : Int} (hX : X = sg s * (c * p2 t)) (hc : c ≤ 2 ^ (f.fractionBits + 1)) (ht : f.leastPlace ≤ t) : v = X := by
  have hn := nn c t
  rcases h with ⟨h, g⟩ | ⟨h, g⟩ | ⟨h, g⟩
  · rw [h, g]
  · rcases sg_cases s with hs | hs
    · rw [hs, Rat.one_mul] at hX
      exact g.exact hX hc ht
    · rw [hs] at hX; grind
  · rcases sg_cases s with hs | hs
    · rw [hs] at hX; grind
    · rw [hs] at hX
      have := g.exact (show -X = c * p2 t by grind) hc ht
      grind
/-- a whole number as a float -/
theorem ofInt_fin (k : FloatKind) (n : Int) (h : n.natAbs ≤ 2 ^ (k.format.fractionBits + 1)) : Fnt k (floatOfInt k n) ∧ V k (floatOfInt k n) = n := by
  have h0 : p2 0 = 1 := p2_zero
  have hlt : ((n.natAbs : Nat) : Rat) * p2 0 < p2 (emax k.format) := by
    rw [h0, Rat.mul_one]
    have h1 : ((n.natAbs : Nat) : Rat) ≤ ((2 ^ (k.format.fractionBits + 1) : Nat) : Rat) := by exact_mod_cast h
    rw [← p2_nat] at h1
    have := p2_lt (a := ((k.format.fractionBits + 1 : Nat) : Int)) (b := emax k.format) (by cases k <;> decide)
    grind
  obtain ⟨M, E, hr, hn⟩ := write_num k.format (wide_of k) (decide (n < 0)) n.natAbs 0 hlt
  have hv := natAbs_val n (decide (n < 0)) (fun _ => rfl)
  have hX : sg (decide (n < 0)) * ((n.natAbs : Nat) * p2 0) = (n : Rat) := by rw [h0, Rat.mul_one]; exact hv
  have he := hn.exact (s := decide (n < 0)) (c := n.natAbs) (t := 0) rfl h (by cases k <;> decide)
  have hb : k.format.read (floatOfInt k n) = .number (decide (n < 0)) M E := hr
  refine ⟨⟨_, _, _, hb⟩, ?_⟩
  rw [V_eq hb, he, hX]

theorem c_zero : Fnt .f32 0 ∧ V .f32 0 = 0 := by
  have h : FloatKind.f32.format.read 0 = .number false 0 (-149) := by decide
  exact ⟨⟨_, _, _, h⟩, by rw [V_eq h]; simp [sg]⟩
theorem c100 : Fnt .f32 1120403456 ∧ V .f32 1120403456 = 100 := by
  have h : FloatKind.f32.format.read 1120403456 = .number false 13107200 (-17) := by decide
  refine ⟨⟨_, _, _, h⟩, ?_⟩
  rw [V_eq h]
  have h1 := p2_neg 17
  have : p2 17 = 131072 := by have := p2_nat 17; simpa using this
  rw [this] at h1
  simp only [sg]
  grind
theorem c50 : Fnt .f32 1112014848 ∧ V .f32 1112014848 = 50 := by
  have h : FloatKind.f32.format.read 1112014848 = .number false 13107200 (-18) := by decide
  refine ⟨⟨_, _, _, h⟩, ?_⟩
  rw [V_eq h]
  have h1 := p2_neg 18
  have : p2 18 = 262144 := by have := p2_nat 18; simpa using this
  rw [this] at h1
  simp only [sg]
  grind
theorem fin_of_le {x c : Nat} (hc : Fnt .f32 c) (h0 : FloatKind.f32.format.order x 0 = some .gt ∨ FloatKind.f32.format.order x 0 = some .eq) (h1 : FloatKind.f32.format.order x c = some .lt ∨ FloatKind.f32.format.order x c = some .eq) : Fnt .f32 x := by
  obtain ⟨s, m, e, hc⟩ := hc
  have hz : FloatKind.f32.format.read 0 = .number false 0 (-149) := by decide
  unfold Format.order at h0 h1
  rw [hz] at h0
  rw [hc] at h1
  cases h : FloatKind.f32.format.read x with
  | nan t q => rw [h] at h0; simp [Datum.order] at h0
  | infinity t => rw [h] at h0 h1; cases t <;> simp [Datum.order] at h0 h1
  | number t q p => exact ⟨t, q, p, h⟩
theorem gt_val {x c : Nat} (hx : Fnt .f32 x) (hc : Fnt .f32 c) (h : FloatKind.f32.format.order x c = some .gt) : V .f32 c < V .f32 x := by
  rw [order_fin .f32 hx hc] at h
  split at h
  · cases h
  · split at h
    · cases h
    · grind
theorem le_val {x c : Nat} (hx : Fnt .f32 x) (hc : Fnt .f32 c) (h : FloatKind.f32.format.order x c = some .lt ∨ FloatKind.f32.format.order x c = some .eq) : V .f32 x ≤ V .f32 c := by
  rw [order_fin .f32 hx hc] at h
  split at h
  · grind
  · split at h
    · grind
    · rcases h with h | h <;> cases h
theorem ge_val {x c : Nat} (hx : Fnt .f32 x) (hc : Fnt .f32 c) (h : FloatKind.f32.format.order x c = some .gt ∨ FloatKind.f32.format.order x c = some .eq) : V .f32 c ≤ V .f32 x := by
  rw [order_fin .f32 hx hc] at h
  split at h
  · rcases h with h | h <;> cases h
  · grind
theorem WindOk.val {x : Nat} (h : WindOk x) : Fnt .f32 x ∧ 0 < V .f32 x ∧ V .f32 x ≤ 100 := by
  have hf := fin_of_le c100.1 (.inl h.1) h.2
  have h1 := gt_val hf c_zero.1 h.1
  have h2 := le_val hf c100.1 h.2
  rw [c_zero.2] at h1
  rw [c100.2] at h2
  exact ⟨hf, h1, h2⟩
theorem BoatOk.val {x : Nat} (h : BoatOk x) : Fnt .f32 x ∧ 0 ≤ V .f32 x ∧ V .f32 x ≤ 50 := by
  have hf := fin_of_le c50.1 h.1 h.2
  have h1 := ge_val hf c_zero.1 h.1
  have h2 := le_val hf c50.1 h.2
  rw [c_zero.2] at h1
  rw [c50.2] at h2
  exact ⟨hf, h1, h2⟩
theorem p2_six : p2 6 = 64 := by have := p2_nat 6; simpa using this
theorem BoatOk.bd {x : Nat} (h : BoatOk x) : Bd 6 x := by
  obtain ⟨h1, h2, h3⟩ := h.val
  refine ⟨h1, ?_, ?_⟩ <;> rw [p2_six] <;> grind
end Go.Proofs.Ytgjfpclpnobggaa
