/- Exact sums and products of singles: damped winds that stay, winds that come back. No program. -/
import Derived.Test.YtjllidnkndhgmaaPu
import Derived.Test.YtjllidnkndhgmaaFo
namespace Go.Proofs.Ytjllidnkndhgmaa
open Ieee

theorem NearS.exact {f : Format} {X v : Rat} (h : NearS f X v) {s : Bool} {c : Nat} {t : Int} (hX : X = sg s * (c * p2 t)) (hc : c ≤ 2 ^ (f.fractionBits + 1)) (ht : f.leastPlace ≤ t) : v = X := by
  have hn := nn c t
  rcases h with ⟨h, g⟩ | ⟨h, g⟩ | ⟨h, g⟩
  · rw [h, g]
  · rcases sg_cases s with hs | hs
    · rw [hs, Rat.one_mul] at hX
      exact g.exact hX hc ht
    · rw [hs] at hX; grind
  · rcases sg_cases s with hs | hs
    · rw [hs] at hX; grind
    · rw [hs] at hX
      have := g.exact (show -X = c * p2 t by grind) hc ht
      grind

theorem em32 : emax FloatKind.f32.format = 127 := by decide
theorem lp32 : FloatKind.f32.format.leastPlace = -149 := by decide
theorem fb32 : FloatKind.f32.format.fractionBits = 23 := rfl
theorem p127_big : (1000000000000000000 : Rat) < p2 (emax FloatKind.f32.format) := by
  rw [em32]
  have h2 : p2 100 = 1267650600228229401496703205376 := by have := p2_nat 100; simpa using this
  have := p2_lt (a := 100) (b := 127) (by omega)
  grind

/-- a value of the kind is a value that its words have -/
theorem val_form {k : FloatKind} {b : Nat} (h : Fnt k b) : ∃ (s : Bool) (c : Nat) (t : Int), V k b = sg s * (c * p2 t) ∧ c ≤ 2 ^ (k.format.fractionBits + 1) ∧ k.format.leastPlace ≤ t := by
  obtain ⟨s, M, E, _, h1, h2, h3⟩ := grid k h
  exact ⟨s, M, E, h1, by omega, h3⟩

/-- adding nothing -/
theorem add_zero_val {k : FloatKind} {x y r : Nat} (hx : Fnt k x) (hy : V k y = 0) (hn : NearS k.format (V k x + V k y) (V k r)) : V k r = V k x := by
  obtain ⟨s, c, t, h1, h2, h3⟩ := val_form hx
  have e : V k x + V k y = V k x := by rw [hy]; grind
  rw [e] at hn
  exact hn.exact h1 h2 h3

theorem nears_zero {f : Format} {X v : Rat} (h : NearS f X v) (hX : X = 0) : v = 0 := by
  rcases h with ⟨_, g⟩ | ⟨h, _⟩ | ⟨h, _⟩
  · exact g
  · grind
  · grind

theorem speed_fnt : Fnt .f32 1120403456 ∧ V .f32 1120403456 = 100 := by
  have hr : FloatKind.f32.format.read 1120403456 = .number false 13107200 (-17) := by decide +kernel
  refine ⟨⟨_, _, _, hr⟩, ?_⟩
  rw [V_eq hr]
  have h := p2_neg 17
  have : p2 17 = 131072 := by have := p2_nat 17; simpa using this
  rw [this] at h
  simp only [sg]
  grind
theorem one32 : Fnt .f32 1065353216 ∧ V .f32 1065353216 = 1 := by
  have hr : FloatKind.f32.format.read 1065353216 = .number false 8388608 (-23) := by decide +kernel
  refine ⟨⟨_, _, _, hr⟩, ?_⟩
  rw [V_eq hr]
  have h := p2_neg 23
  have : p2 23 = 8388608 := by have := p2_nat 23; simpa using this
  rw [this] at h
  simp only [sg]
  grind
theorem zero32f : Fnt .f32 0 ∧ V .f32 0 = 0 := by
  have hr : FloatKind.f32.format.read 0 = .number false 0 (-149) := by decide +kernel
  exact ⟨⟨_, _, _, hr⟩, by rw [V_eq hr]; simp⟩

theorem vel_fnt {a b : Nat} (h : velOk a b = true) : (Fnt .f32 a ∧ -100 ≤ V .f32 a ∧ V .f32 a ≤ 100) ∧ (Fnt .f32 b ∧ -100 ≤ V .f32 b ∧ V .f32 b ≤ 100) := by
  unfold velOk at h
  rw [Bool.and_eq_true] at h
  have h1 := amt_fnt speed_fnt.1 h.1
  have h2 := amt_fnt speed_fnt.1 h.2
  rw [speed_fnt.2] at h1 h2
  exact ⟨h1, h2⟩
theorem vel_of {a b : Nat} (ha : Fnt .f32 a) (hb : Fnt .f32 b) (a1 : -100 ≤ V .f32 a) (a2 : V .f32 a ≤ 100) (b1 : -100 ≤ V .f32 b) (b2 : V .f32 b ≤ 100) : velOk a b = true := by
  unfold velOk
  rw [amt_of speed_fnt.1 ha (by rw [speed_fnt.2]; exact a1) (by rw [speed_fnt.2]; exact a2), amt_of speed_fnt.1 hb (by rw [speed_fnt.2]; exact b1) (by rw [speed_fnt.2]; exact b2)]
  rfl
theorem sh_fnt {k : Nat} (h : shOk k = true) : Fnt .f32 k ∧ 0 ≤ V .f32 k ∧ V .f32 k ≤ 1 := by
  unfold shOk at h
  simp only [Bool.and_eq_true, Bool.or_eq_true, beq_iff_eq] at h
  have hf := fnt_between h.1 h.2 zero32f.1 one32.1
  have h1 := order_gt_eq hf zero32f.1 h.1
  have h2 := order_lt_eq hf one32.1 h.2
  rw [zero32f.2] at h1
  rw [one32.2] at h2
  exact ⟨hf, h1, h2⟩

theorem order_eq_of {k : FloatKind} {x y : Nat} (hx : Fnt k x) (hy : Fnt k y) (h : V k x = V k y) : k.format.order x y = some .eq := by
  rw [order_fin k hx hy, if_neg (by rw [h]; exact Rat.lt_irrefl), if_pos h]

/-- damped with the share 0 -/
theorem damp_none {l x : Nat} (hl : Fnt .f32 l) (hx : Fnt .f32 x) (l1 : -100 ≤ V .f32 l) (l2 : V .f32 l ≤ 100) (x1 : -100 ≤ V .f32 x) (x2 : V .f32 x ≤ 100) :
    ∃ r, dampC (fc .f32 l) (fc .f32 x) (fc .f32 0) = some r ∧ Fnt .f32 r ∧ V .f32 r = V .f32 l := by
  have hpb := p127_big
  have hz := zero32f
  obtain ⟨d, hd, hdf, hdn⟩ := sub_fin .f32 hx hl (by constructor <;> grind)
  obtain ⟨p, hp, hpf, hpn⟩ := mul_fin .f32 hdf hz.1 (by rw [hz.2, Rat.mul_zero]; constructor <;> grind)
  have hp0 := nears_zero hpn (by rw [hz.2, Rat.mul_zero])
  obtain ⟨r, hr, hrf, hrn⟩ := add_fin .f32 hl hpf (by rw [hp0]; constructor <;> grind)
  refine ⟨r, ?_, hrf, add_zero_val hl hp0 hrn⟩
  unfold dampC
  rw [fc_fnt hl, fc_fnt hx, fc_fnt hz.1]
  have e1 : fop .sub .f32 (some x) (some l) = some d := hd
  have e2 : fop .mul .f32 (some d) (some 0) = some p := hp
  rw [e1, e2]; exact hr

/-- damped toward itself -/
theorem damp_self {l k : Nat} (hl : Fnt .f32 l) (hk : Fnt .f32 k) (l1 : -100 ≤ V .f32 l) (l2 : V .f32 l ≤ 100) :
    ∃ r, dampC (fc .f32 l) (fc .f32 l) (fc .f32 k) = some r ∧ Fnt .f32 r ∧ V .f32 r = V .f32 l := by
  have hpb := p127_big
  obtain ⟨d, hd, hdf, hdn⟩ := sub_fin .f32 hl hl (by constructor <;> grind)
  have hd0 := nears_zero hdn (by grind)
  obtain ⟨p, hp, hpf, hpn⟩ := mul_fin .f32 hdf hk (by rw [hd0, Rat.zero_mul]; constructor <;> grind)
  have hp0 := nears_zero hpn (by rw [hd0, Rat.zero_mul])
  obtain ⟨r, hr, hrf, hrn⟩ := add_fin .f32 hl hpf (by rw [hp0]; constructor <;> grind)
  refine ⟨r, ?_, hrf, add_zero_val hl hp0 hrn⟩
  unfold dampC
  rw [fc_fnt hl, fc_fnt hk]
  have e1 : fop .sub .f32 (some l) (some l) = some d := hd
  have e2 : fop .mul .f32 (some d) (some k) = some p := hp
  rw [e1, e2]; exact hr

/-- a single that is n eighths -/
def E8 (r : Nat) (n : Int) : Prop := Fnt .f32 r ∧ V .f32 r = n / 8

theorem int_form (n : Int) (t : Int) : ∃ s : Bool, (n : Rat) * p2 t = sg s * ((n.natAbs : Nat) * p2 t) := by
  refine ⟨decide (n < 0), ?_⟩
  have := natAbs_val n (decide (n < 0)) (fun _ => rfl)
  rw [← this]; grind
theorem p2m3 : p2 (-3) = 1 / 8 := by
  have h := p2_neg 3
  have : p2 3 = 8 := by have := p2_nat 3; simpa using this
  rw [this] at h
  grind
theorem nears8 {X v : Rat} {n : Int} (h : NearS FloatKind.f32.format X v) (hX : X = n / 8) (hn : n.natAbs ≤ 16777216) : v = X := by
  obtain ⟨s, hs⟩ := int_form n (-3)
  refine h.exact (s := s) (c := n.natAbs) (t := -3) ?_ (by rw [fb32]; exact hn) (by rw [lp32]; omega)
  rw [← hs, p2m3, hX]; grind

theorem e8_bound {n : Int} (h : n.natAbs ≤ 16777216) : -2097152 ≤ (n : Rat) / 8 ∧ (n : Rat) / 8 ≤ 2097152 := by
  have h1 : (-16777216 : Rat) ≤ n := (Rat.intCast_le_intCast (a := -16777216) (b := n)).2 (by omega)
  have h2 : (n : Rat) ≤ 16777216 := (Rat.intCast_le_intCast (a := n) (b := 16777216)).2 (by omega)
  constructor <;> grind

theorem add8 {x y : Nat} {n m : Int} (hx : E8 x n) (hy : E8 y m) (h : (n + m).natAbs ≤ 16777216) : ∃ r, floatBits .add .f32 x y = some r ∧ E8 r (n + m) := by
  have hb := e8_bound h
  have hpb := p127_big
  have hX : V .f32 x + V .f32 y = ((n + m : Int) : Rat) / 8 := by rw [hx.2, hy.2]; push_cast; grind
  obtain ⟨r, hr, hf, hn⟩ := add_fin .f32 hx.1 hy.1 (by rw [hX]; constructor <;> grind)
  exact ⟨r, hr, hf, by rw [nears8 hn hX h, hX]⟩
theorem sub8 {x y : Nat} {n m : Int} (hx : E8 x n) (hy : E8 y m) (h : (n - m).natAbs ≤ 16777216) : ∃ r, floatBits .sub .f32 x y = some r ∧ E8 r (n - m) := by
  have hb := e8_bound h
  have hpb := p127_big
  have hX : V .f32 x - V .f32 y = ((n - m : Int) : Rat) / 8 := by rw [hx.2, hy.2]; push_cast; grind
  obtain ⟨r, hr, hf, hn⟩ := sub_fin .f32 hx.1 hy.1 (by rw [hX]; constructor <;> grind)
  exact ⟨r, hr, hf, by rw [nears8 hn hX h, hX]⟩
theorem mul_one8 {x : Nat} {n : Int} (hx : E8 x n) (h : n.natAbs ≤ 16777216) : ∃ r, floatBits .mul .f32 x 1065353216 = some r ∧ E8 r n := by
  have hb := e8_bound h
  have hpb := p127_big
  have hX : V .f32 x * V .f32 1065353216 = (n : Rat) / 8 := by rw [one32.2, hx.2]; grind
  obtain ⟨r, hr, hf, hn⟩ := mul_fin .f32 hx.1 one32.1 (by rw [hX]; constructor <;> grind)
  exact ⟨r, hr, hf, by rw [nears8 hn hX h, hX]⟩

/-- a whole number as a float -/
theorem ofInt_fin (k : FloatKind) (n : Int) (h : n.natAbs ≤ 2 ^ (k.format.fractionBits + 1)) : Fnt k (floatOfInt k n) ∧ V k (floatOfInt k n) = n := by
  have h0 : p2 0 = 1 := p2_zero
  have hlt : ((n.natAbs : Nat) : Rat) * p2 0 < p2 (emax k.format) := by
    rw [h0, Rat.mul_one]
    have h1 : ((n.natAbs : Nat) : Rat) ≤ ((2 ^ (k.format.fractionBits + 1) : Nat) : Rat) := by exact_mod_cast h
    rw [← p2_nat] at h1
    have := p2_lt (a := ((k.format.fractionBits + 1 : Nat) : Int)) (b := emax k.format) (by cases k <;> decide)
    grind
  obtain ⟨M, E, hr, hn⟩ := write_num k.format (wide_of k) (decide (n < 0)) n.natAbs 0 hlt
  have hv := natAbs_val n (decide (n < 0)) (fun _ => rfl)
  have hX : sg (decide (n < 0)) * ((n.natAbs : Nat) * p2 0) = (n : Rat) := by rw [h0, Rat.mul_one]; exact hv
  have he := hn.exact (s := decide (n < 0)) (c := n.natAbs) (t := 0) rfl h (by cases k <;> decide)
  have hb : k.format.read (floatOfInt k n) = .number (decide (n < 0)) M E := hr
  refine ⟨⟨_, _, _, hb⟩, ?_⟩
  rw [V_eq hb, he, hX]

theorem eight32 : Fnt .f32 1090519040 ∧ V .f32 1090519040 = 8 := by
  have hr : FloatKind.f32.format.read 1090519040 = .number false 8388608 (-20) := by decide +kernel
  refine ⟨⟨_, _, _, hr⟩, ?_⟩
  rw [V_eq hr]
  have h := p2_neg 20
  have : p2 20 = 1048576 := by have := p2_nat 20; simpa using this
  rw [this] at h
  simp only [sg]
  grind
theorem eighths (n : Int) (h : n.natAbs ≤ 16777216) : ∃ r, floatBits .quo .f32 (floatOfInt .f32 n) 1090519040 = some r ∧ E8 r n := by
  have hi := ofInt_fin .f32 n (by rw [fb32]; exact h)
  have hb := e8_bound h
  have hpb := p127_big
  have he := eight32
  have hX : V .f32 (floatOfInt .f32 n) / V .f32 1090519040 = (n : Rat) / 8 := by rw [he.2, hi.2]
  obtain ⟨r, hr, hf, hn⟩ := div_fin .f32 hi.1 he.1 (by rw [he.2]; decide) (by rw [hX]; constructor <;> grind)
  exact ⟨r, hr, hf, by rw [nears8 hn hX h, hX]⟩

theorem e8_vel {r q : Nat} {n m : Int} (h1 : E8 r n) (h2 : E8 q m) (hn : n.natAbs ≤ 800) (hm : m.natAbs ≤ 800) : velOk r q = true := by
  have a1 : (-800 : Rat) ≤ n := (Rat.intCast_le_intCast (a := -800) (b := n)).2 (by omega)
  have a2 : (n : Rat) ≤ 800 := (Rat.intCast_le_intCast (a := n) (b := 800)).2 (by omega)
  have b1 : (-800 : Rat) ≤ m := (Rat.intCast_le_intCast (a := -800) (b := m)).2 (by omega)
  have b2 : (m : Rat) ≤ 800 := (Rat.intCast_le_intCast (a := m) (b := 800)).2 (by omega)
  refine vel_of h1.1 h2.1 ?_ ?_ ?_ ?_
  · rw [h1.2]; grind
  · rw [h1.2]; grind
  · rw [h2.2]; grind
  · rw [h2.2]; grind

end Go.Proofs.Ytjllidnkndhgmaa
