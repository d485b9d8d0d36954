/- Units: the plain law that a unit has the length one, but for a very small part. No program. -/
import Derived.Test.YtjllidnkndhgmaaRt
import Derived.Test.YtjllidnkndhgmaaFn
namespace Go.Proofs.Ytjllidnkndhgmaa
open Ieee

def t64 : Rat := p2 (-1075)
theorem t64_pos : 0 < t64 := p2_pos _
theorem t64_small : t64 < p2 (-1000) := p2_lt (by omega)
theorem t64_tiny : t64 < 1 / 1000000000000000000000000000000 := by
  have h := p2_neg 100
  have h2 : p2 100 = 1267650600228229401496703205376 := by have := p2_nat 100; simpa using this
  rw [h2] at h
  have := p2_lt (a := -1075) (b := -100) (by omega)
  unfold t64
  grind
theorem e53_val : e53 < 112 / 1000000000000000000 := by
  have h := p2_neg 53
  have : p2 53 = 9007199254740992 := by have := p2_nat 53; simpa using this
  rw [this] at h
  unfold e53
  grind

/-- the error of a rounding, by a bound of the amount -/
theorem near_b64 {X v B : Rat} (h : NearS FloatKind.f64.format X v) (h1 : -B ≤ X) (h2 : X ≤ B) : v ≤ X + (B * e53 + t64) ∧ X ≤ v + (B * e53 + t64) := by
  have he := e53_pos
  have ht := t64_pos
  have e : (-(((FloatKind.f64.format.fractionBits : Nat) : Int) + 1)) = -53 := by rw [fb64]; omega
  have e2 : FloatKind.f64.format.leastPlace - 1 = -1075 := by rw [lp64]; omega
  rcases h with ⟨h, g⟩ | ⟨h, g⟩ | ⟨h, g⟩
  · have : 0 ≤ B * e53 := Rat.mul_nonneg (by grind) (Rat.le_of_lt he)
    grind
  · have := g.abs (Rat.le_of_lt h)
    rw [e, e2] at this
    have hb := Rat.mul_le_mul_of_nonneg_right h2 (Rat.le_of_lt he)
    unfold e53 t64 at *
    grind
  · have := g.abs (by grind)
    rw [e, e2] at this
    have hb := Rat.mul_le_mul_of_nonneg_right (show -X ≤ B by grind) (Rat.le_of_lt he)
    unfold e53 t64 at *
    grind

theorem mag_val {k : FloatKind} {x : Nat} (h : Fnt k x) : Fnt k (mag k x) ∧ ((0 ≤ V k x ∧ V k (mag k x) = V k x) ∨ (V k x ≤ 0 ∧ V k (mag k x) = -V k x)) := by
  obtain ⟨s, m, e, hr⟩ := h
  have hm : k.format.read (mag k x) = .number false m e := by rw [read_mag, hr]; rfl
  refine ⟨⟨_, _, _, hm⟩, ?_⟩
  rw [V_eq hm, V_eq hr]
  have hn := nn m e
  cases s
  · left; simp only [sg, Bool.false_eq_true, if_false]; exact ⟨by grind, by first | rfl | trivial⟩
  · right; simp only [sg, Bool.false_eq_true, if_false, if_true]; exact ⟨by grind, by grind⟩

theorem amt_fnt {k : FloatKind} {x M : Nat} (hM : Fnt k M) (h : amtOk k x M = true) : Fnt k x ∧ -V k M ≤ V k x ∧ V k x ≤ V k M := by
  rw [amtOk_def] at h
  simp only [Bool.or_eq_true, beq_iff_eq] at h
  have hx : Fnt k x := by
    obtain ⟨s2, m2, e2, r2⟩ := hM
    cases hx : k.format.read x with
    | number s m e => exact ⟨s, m, e, hx⟩
    | infinity s =>
      exfalso
      simp only [Format.order, read_mag, hx, r2, pos, Datum.order] at h
      simp at h
    | nan s t =>
      exfalso
      simp only [Format.order, read_mag, hx, r2, pos, Datum.order] at h
      simp at h
  have hm := mag_val hx
  have hle := order_lt_eq hm.1 hM h
  refine ⟨hx, ?_⟩
  rcases hm.2 with ⟨a, b⟩ | ⟨a, b⟩ <;> constructor <;> grind
theorem amt_of {k : FloatKind} {x M : Nat} (hM : Fnt k M) (hx : Fnt k x) (h1 : -V k M ≤ V k x) (h2 : V k x ≤ V k M) : amtOk k x M = true := by
  have hm := mag_val hx
  have hle : V k (mag k x) ≤ V k M := by rcases hm.2 with ⟨a, b⟩ | ⟨a, b⟩ <;> grind
  rw [amtOk_def, order_fin k hm.1 hM]
  by_cases h : V k (mag k x) < V k M
  · rw [if_pos h]; rfl
  · rw [if_neg h]
    have : V k (mag k x) = V k M := by grind
    rw [if_pos this]; rfl

theorem plane_fnt : Fnt .f64 4726483295884279808 ∧ V .f64 4726483295884279808 = 100000000 := by
  have hr : FloatKind.f64.format.read 4726483295884279808 = .number false 6710886400000000 (-26) := by decide +kernel
  refine ⟨⟨_, _, _, hr⟩, ?_⟩
  rw [V_eq hr]
  have h := p2_neg 26
  have : p2 26 = 67108864 := by have := p2_nat 26; simpa using this
  rw [this] at h
  simp only [sg]
  grind

theorem vec_fnt {a b : Nat} (h : vecOk a b = true) : (Fnt .f64 a ∧ -100000000 ≤ V .f64 a ∧ V .f64 a ≤ 100000000) ∧ (Fnt .f64 b ∧ -100000000 ≤ V .f64 b ∧ V .f64 b ≤ 100000000) := by
  unfold vecOk at h
  rw [Bool.and_eq_true] at h
  have h1 := amt_fnt plane_fnt.1 h.1
  have h2 := amt_fnt plane_fnt.1 h.2
  rw [plane_fnt.2] at h1 h2
  exact ⟨h1, h2⟩
theorem vec_of {a b : Nat} (ha : Fnt .f64 a) (hb : Fnt .f64 b) (a1 : -100000000 ≤ V .f64 a) (a2 : V .f64 a ≤ 100000000) (b1 : -100000000 ≤ V .f64 b) (b2 : V .f64 b ≤ 100000000) : vecOk a b = true := by
  unfold vecOk
  rw [amt_of plane_fnt.1 ha (by rw [plane_fnt.2]; exact a1) (by rw [plane_fnt.2]; exact a2), amt_of plane_fnt.1 hb (by rw [plane_fnt.2]; exact b1) (by rw [plane_fnt.2]; exact b2)]
  rfl

theorem p1000_big : (1000000000000000000 : Rat) < p2 1000 := by
  have h2 : p2 100 = 1267650600228229401496703205376 := by have := p2_nat 100; simpa using this
  have := p2_lt (a := 100) (b := 1000) (by omega)
  grind
theorem p1023_big : (1000000000000000000 : Rat) < p2 (emax FloatKind.f64.format) := by
  rw [em64]
  have := p1000_big
  have := p2_lt (a := 1000) (b := 1023) (by omega)
  grind

/-- the sum of the squares of a bounded vector, as it is reckoned -/
theorem dot_self {a b : Nat} {B : Rat} (ha : Fnt .f64 a) (hb : Fnt .f64 b) (hB1 : B ≤ 10000000000000000) (ha2 : V .f64 a * V .f64 a ≤ B) (hb2 : V .f64 b * V .f64 b ≤ B) :
    ∃ d, dotC (fc .f64 a) (fc .f64 b) (fc .f64 a) (fc .f64 b) = some d ∧ Fnt .f64 d ∧
      V .f64 d ≤ V .f64 a * V .f64 a + V .f64 b * V .f64 b + (5 * B * e53 + 5 * t64) ∧ V .f64 a * V .f64 a + V .f64 b * V .f64 b ≤ V .f64 d + (5 * B * e53 + 5 * t64) := by
  have he := e53_pos
  have ht := t64_pos
  have hs := e53_val
  have hts := t64_tiny
  have hpb := p1023_big
  have sqn : ∀ x : Rat, 0 ≤ x * x := fun x => by
    rcases (Rat.le_total : 0 ≤ x ∨ x ≤ 0) with h | h
    · exact Rat.mul_nonneg h h
    · have h' : 0 ≤ -x := by grind
      have := Rat.mul_nonneg h' h'
      grind
  have n1 := sqn (V .f64 a)
  have n2 := sqn (V .f64 b)
  have hB0 : 0 ≤ B := by grind
  have hBe := Rat.mul_nonneg hB0 (Rat.le_of_lt he)
  have hBe2 := Rat.mul_le_mul_of_nonneg_right hB1 (Rat.le_of_lt he)
  obtain ⟨p, hp, hpf, hpn⟩ := mul_fin .f64 ha ha (by constructor <;> grind)
  obtain ⟨q, hq, hqf, hqn⟩ := mul_fin .f64 hb hb (by constructor <;> grind)
  have p1 := near_b64 hpn (B := B) (by grind) ha2
  have q1 := near_b64 hqn (B := B) (by grind) hb2
  obtain ⟨d, hd, hdf, hdn⟩ := add_fin .f64 hpf hqf (by constructor <;> grind)
  have hBee := Rat.mul_le_mul_of_nonneg_right (Rat.le_of_lt hs) hBe
  have d1 := near_b64 hdn (B := 2 * B + 2 * (B * e53 + t64)) (by grind) (by grind)
  have hte := Rat.mul_le_mul_of_nonneg_right (Rat.le_of_lt hs) (Rat.le_of_lt ht)
  refine ⟨d, ?_, hdf, by grind, by grind⟩
  unfold dotC
  rw [fc_fnt ha, fc_fnt hb]
  have e1 : fop .mul .f64 (some a) (some a) = some p := hp
  have e2 : fop .mul .f64 (some b) (some b) = some q := hq
  rw [e1, e2]
  exact hd

theorem zero_fnt : Fnt .f64 0 ∧ V .f64 0 = 0 := by
  have hr : FloatKind.f64.format.read 0 = .number false 0 (-1074) := by decide +kernel
  exact ⟨⟨_, _, _, hr⟩, by rw [V_eq hr]; simp⟩

theorem rootC_out {c : Nat} (h : rootIn c = false) : rootC c = some 0 := by unfold rootC; rw [if_neg]; simp [h]

/-- where there is a length: the vector, its length's square -/
theorem len_spec {a b : Nat} (h : isZ (lenC a b) = false) :
    ∃ L, lenC a b = some L ∧ Fnt .f64 L ∧ 0 < V .f64 L ∧ vecOk a b = true ∧
      ∃ d, dotC (fc .f64 a) (fc .f64 b) (fc .f64 a) (fc .f64 b) = some d ∧ rootIn d = true ∧ V .f64 d * (1 - 1 / 1000000000000000) ≤ V .f64 L * V .f64 L ∧ V .f64 L * V .f64 L ≤ V .f64 d * (1 + 2 / 1000000000000000) := by
  unfold lenC at h ⊢
  by_cases hv : vecOk a b = true
  · rw [if_pos hv] at h ⊢
    cases hd : dotC (fc .f64 a) (fc .f64 b) (fc .f64 a) (fc .f64 b) with
    | none => rw [hd] at h; exact absurd h (by decide)
    | some d =>
      rw [hd] at h
      by_cases hin : rootIn d = true
      · obtain ⟨r, r1, r2, r3, r4, r5⟩ := root_spec hin
        exact ⟨r, r1, r2, r3, hv, d, rfl, hin, r4, r5⟩
      · rw [Bool.not_eq_true] at hin
        have : rootO (some d) = some 0 := rootC_out hin
        rw [this] at h
        exact absurd h (by decide)
  · rw [if_neg hv] at h
    exact absurd h (by decide)

theorem sqn (x : Rat) : 0 ≤ x * x := by
  rcases (Rat.le_total : 0 ≤ x ∨ x ≤ 0) with h | h
  · exact Rat.mul_nonneg h h
  · have h' : 0 ≤ -x := by grind
    have := Rat.mul_nonneg h' h'
    grind

theorem abs_of_sq {x B : Rat} (hB : 0 ≤ B) (h : x * x ≤ B * B) : -B ≤ x ∧ x ≤ B := by
  rcases (Rat.le_total : 0 ≤ x ∨ x ≤ 0) with h0 | h0
  · have := sq_le h0 hB h; grind
  · have := sq_le (G := -x) (by grind) hB (by grind); grind

theorem lo_fnt : Fnt .f64 4607182409792818153 ∧ V .f64 4607182409792818153 ≤ 9999991 / 10000000 := by
  have hr : ∃ M : Nat, FloatKind.f64.format.read 4607182409792818153 = .number false M (-53) ∧ M ≤ 9007190247541737 := by
    refine ⟨9007190247541737, by decide +kernel, by decide⟩
  obtain ⟨M, hr, hM⟩ := hr
  refine ⟨⟨_, _, _, hr⟩, ?_⟩
  rw [V_eq hr]
  have h := p2_neg 53
  have h2 : p2 53 = 9007199254740992 := by have := p2_nat 53; simpa using this
  rw [h2] at h
  have hp := p2_pos (-53)
  have hMr : (M : Rat) ≤ 9007190247541737 := by exact_mod_cast hM
  have := Rat.mul_le_mul_of_nonneg_right hMr (Rat.le_of_lt hp)
  simp only [sg]
  grind
theorem hi_fnt : Fnt .f64 4607182423303617035 ∧ 10000009 / 10000000 ≤ V .f64 4607182423303617035 := by
  have hr : ∃ M : Nat, FloatKind.f64.format.read 4607182423303617035 = .number false M (-52) ∧ 4503604130970123 ≤ M := by
    refine ⟨4503604130970123, by decide +kernel, by decide⟩
  obtain ⟨M, hr, hM⟩ := hr
  refine ⟨⟨_, _, _, hr⟩, ?_⟩
  rw [V_eq hr]
  have h := p2_neg 52
  have h2 : p2 52 = 4503599627370496 := by have := p2_nat 52; simpa using this
  rw [h2] at h
  have hp := p2_pos (-52)
  have hMr : (4503604130970123 : Rat) ≤ M := by exact_mod_cast hM
  have := Rat.mul_le_mul_of_nonneg_right hMr (Rat.le_of_lt hp)
  simp only [sg]
  grind

theorem p40_val : 9 / 10000000000000 ≤ p2 (-40) := by
  have h := p2_neg 40
  have h2 : p2 40 = 1099511627776 := by have := p2_nat 40; simpa using this
  rw [h2] at h
  grind

theorem min_val : V .f64 4427486594234968593 ≤ 2 / 1000000000000 := by
  have hr : FloatKind.f64.format.read 4427486594234968593 = .number false 4951760157141521 (-92) := by decide +kernel
  rw [V_eq hr]
  have h := p2_neg 92
  have h2 : p2 92 = 4951760157141521099596496896 := by have := p2_nat 92; simpa using this
  rw [h2] at h
  simp only [sg]
  grind
theorem max_val : 10 ≤ V .f64 4861130398305394688 := by
  have hr : FloatKind.f64.format.read 4861130398305394688 = .number false 6250000000000000 4 := by decide +kernel
  rw [V_eq hr]
  have h2 : p2 4 = 16 := by have := p2_nat 4; simpa using this
  rw [h2]
  simp only [sg]
  grind

theorem in_of {d : Nat} (hd : Fnt .f64 d) (h1 : 1 / 2 ≤ V .f64 d) (h2 : V .f64 d ≤ 2) : rootIn d = true := by
  have a := min_val
  have b := max_val
  unfold rootIn
  rw [order_fin .f64 hd min_fnt.1, order_fin .f64 hd max_fnt.1]
  rw [if_neg (by grind), if_neg (by grind), if_pos (by grind)]
  rfl

/-- a part of a unit -/
theorem part_spec {a L : Nat} {d : Rat} (ha : Fnt .f64 a) (hL : Fnt .f64 L) (hL0 : 0 < V .f64 L) (h : V .f64 a * V .f64 a ≤ V .f64 L * V .f64 L * (11 / 10)) (_hd : d = V .f64 a / V .f64 L) :
    ∃ u, fop .quo .f64 (fc .f64 a) (some L) = some u ∧ Fnt .f64 u ∧ -(11 / 10) ≤ d ∧ d ≤ 11 / 10 ∧ V .f64 u ≤ d + (11 / 10 * e53 + t64) ∧ d ≤ V .f64 u + (11 / 10 * e53 + t64) := by
  have hpb := p1023_big
  have hdd : d * d ≤ 11 / 10 * (11 / 10) := by
    have h1 : d * V .f64 L = V .f64 a := by have := Rat.ne_of_gt hL0; grind
    have h2 := Rat.mul_pos hL0 hL0
    have h3 : V .f64 L * V .f64 L * (d * d) ≤ V .f64 L * V .f64 L * (11 / 10) := by
      have : V .f64 L * V .f64 L * (d * d) = V .f64 a * V .f64 a := by rw [← h1]; grind
      rw [this]; exact h
    have h4 := Rat.le_of_mul_le_mul_left h3 h2
    grind
  have hb := abs_of_sq (by grind) hdd
  obtain ⟨u, hu, huf, hun⟩ := div_fin .f64 ha hL (Rat.ne_of_gt hL0) (by rw [← _hd]; constructor <;> grind)
  rw [← _hd] at hun
  have := near_b64 hun hb.1 hb.2
  exact ⟨u, by rw [fc_fnt ha]; exact hu, huf, hb.1, hb.2, this.1, this.2⟩

/-- THE UNIT: it has the length one, but for a millionth -/
theorem unit_plain {a b : Nat} (h : isZ (lenC a b) = false) :
    ∃ L u v n, lenC a b = some L ∧ FloatKind.f64.format.order L 0 = some .gt ∧ fop .quo .f64 (fc .f64 a) (lenC a b) = some u ∧ fop .quo .f64 (fc .f64 b) (lenC a b) = some v ∧
      lenC u v = some n ∧ FloatKind.f64.format.order n 4607182409792818153 = some .gt ∧ FloatKind.f64.format.order n 4607182423303617035 = some .lt := by
  obtain ⟨L, hL, hLf, hL0, hv, d, hd, hin, r1, r2⟩ := len_spec h
  obtain ⟨⟨haf, a1, a2⟩, ⟨hbf, b1, b2⟩⟩ := vec_fnt hv
  have he := e53_pos
  have ht := t64_pos
  have hs := e53_val
  have hts := t64_tiny
  have na := sqn (V .f64 a)
  have nb := sqn (V .f64 b)
  -- the sum of the squares, S, and d
  have hmid := mid_of_in hin
  have h40 := p40_val
  have hd40 := hmid.2.1
  let S : Rat := V .f64 a * V .f64 a + V .f64 b * V .f64 b
  have hS : S = V .f64 a * V .f64 a + V .f64 b * V .f64 b := rfl
  have hSle : S ≤ 20000000000000000 := by
    have x1 := Rat.mul_nonneg (show 0 ≤ 100000000 - V .f64 a by grind) (show 0 ≤ 100000000 + V .f64 a by grind)
    have x2 := Rat.mul_nonneg (show 0 ≤ 100000000 - V .f64 b by grind) (show 0 ≤ 100000000 + V .f64 b by grind)
    grind
  have hB : ∀ B : Rat, V .f64 a * V .f64 a ≤ B → V .f64 b * V .f64 b ≤ B → B ≤ 10000000000000000 → V .f64 d ≤ S + (5 * B * e53 + 5 * t64) ∧ S ≤ V .f64 d + (5 * B * e53 + 5 * t64) := by
    intro B x1 x2 x3
    obtain ⟨d', e1, e2, e3, e4⟩ := dot_self haf hbf x3 x1 x2
    rw [hd] at e1; cases e1
    exact ⟨e3, e4⟩
  have hdS : V .f64 d ≤ S * (1 + 1 / 100000000000000) ∧ S * (1 - 1 / 100000000000000) ≤ V .f64 d := by
    have ha100 : V .f64 a * V .f64 a ≤ 10000000000000000 := by
      have x1 := Rat.mul_nonneg (show 0 ≤ 100000000 - V .f64 a by grind) (show 0 ≤ 100000000 + V .f64 a by grind)
      grind
    have hb100 : V .f64 b * V .f64 b ≤ 10000000000000000 := by
      have x1 := Rat.mul_nonneg (show 0 ≤ 100000000 - V .f64 b by grind) (show 0 ≤ 100000000 + V .f64 b by grind)
      grind
    have key : ∀ B : Rat, V .f64 a * V .f64 a ≤ B → V .f64 b * V .f64 b ≤ B → B ≤ 10000000000000000 → B ≤ S → V .f64 d ≤ S * (1 + 1 / 100000000000000) ∧ S * (1 - 1 / 100000000000000) ≤ V .f64 d := by
      intro B x1 x2 x3 x4
      have hb := hB B x1 x2 x3
      have hBe := Rat.mul_le_mul_of_nonneg_right x4 (Rat.le_of_lt he)
      have hSp : 0 ≤ S := by grind
      have hSe := Rat.mul_le_mul_of_nonneg_left (Rat.le_of_lt hs) hSp
      constructor <;> grind
    rcases (Rat.le_total : V .f64 a * V .f64 a ≤ V .f64 b * V .f64 b ∨ V .f64 b * V .f64 b ≤ V .f64 a * V .f64 a) with hc | hc
    · exact key _ hc (by grind) hb100 (by grind)
    · exact key _ (by grind) hc ha100 (by grind)
  have hSp : 0 < S := by grind
  have hdp : 0 < V .f64 d := by grind
  -- the parts
  let N : Rat := V .f64 L * V .f64 L
  have hN : N = V .f64 L * V .f64 L := rfl
  have hNp : 0 < N := Rat.mul_pos hL0 hL0
  have n1 : S * (1 - 2 / 100000000000000) ≤ N := by grind
  have n2 : N ≤ S * (1 + 2 / 100000000000000) := by grind
  obtain ⟨u, hu, huf, u1, u2, u3, u4⟩ := part_spec haf hLf hL0 (d := V .f64 a / V .f64 L) (by grind) rfl
  obtain ⟨v, hv2, hvf, v1, v2, v3, v4⟩ := part_spec hbf hLf hL0 (d := V .f64 b / V .f64 L) (by grind) rfl
  have hsum : (V .f64 a / V .f64 L) * (V .f64 a / V .f64 L) + (V .f64 b / V .f64 L) * (V .f64 b / V .f64 L) = S / N := by
    have := Rat.ne_of_gt hL0
    grind
  have hq1 : S / N ≤ 1 + 3 / 100000000000000 := by rw [rdiv_le hNp]; grind
  have hq2 : 1 - 3 / 100000000000000 ≤ S / N := by rw [rle_div hNp]; grind
  rw [← hsum] at hq1 hq2
  generalize V .f64 a / V .f64 L = α at *
  generalize V .f64 b / V .f64 L = β at *
  have hη : 11 / 10 * e53 + t64 ≤ 1 / 5000000000000000 := by grind
  have hη0 : 0 ≤ 11 / 10 * e53 + t64 := by grind
  generalize 11 / 10 * e53 + t64 = η at *
  -- squares of the rounded parts
  have sqd : ∀ x y : Rat, -(11 / 10) ≤ x → x ≤ 11 / 10 → y ≤ x + η → x ≤ y + η → y * y ≤ x * x + 1 / 1000000000000000 ∧ x * x ≤ y * y + 1 / 1000000000000000 := by
    intro x y h1 h2 h3 h4
    have g1 : (y - x) * (y + x) ≤ 1 / 1000000000000000 := by
      have k1 := Rat.mul_nonneg (show 0 ≤ η - (y - x) by grind) (show 0 ≤ 23 / 10 + (y + x) by grind)
      have k2 := Rat.mul_nonneg (show 0 ≤ η + (y - x) by grind) (show 0 ≤ 23 / 10 - (y + x) by grind)
      grind
    have g2 : (x - y) * (y + x) ≤ 1 / 1000000000000000 := by
      have k1 := Rat.mul_nonneg (show 0 ≤ η - (x - y) by grind) (show 0 ≤ 23 / 10 + (y + x) by grind)
      have k2 := Rat.mul_nonneg (show 0 ≤ η + (x - y) by grind) (show 0 ≤ 23 / 10 - (y + x) by grind)
      grind
    constructor <;> grind
  have su := sqd α (V .f64 u) u1 u2 u3 u4
  have sv := sqd β (V .f64 v) v1 v2 v3 v4
  have nα := sqn α
  have nβ := sqn β
  obtain ⟨d2, e1, e2, e3, e4⟩ := dot_self huf hvf (B := 2) (by grind) (by grind) (by grind)
  have hd2a : V .f64 d2 ≤ 1 + 1 / 10000000000000 := by grind
  have hd2b : 1 - 1 / 10000000000000 ≤ V .f64 d2 := by grind
  have hin2 := in_of e2 (by grind) (by grind)
  obtain ⟨n, m1, m2, m3, m4, m5⟩ := root_spec hin2
  have hvu : vecOk u v = true := vec_of huf hvf (by grind) (by grind) (by grind) (by grind)
  have hz := zero_fnt
  have hlo := lo_fnt
  have hhi := hi_fnt
  refine ⟨L, u, v, n, hL, ?_, by rw [hL]; exact hu, by rw [hL]; exact hv2, ?_, ?_, ?_⟩
  · rw [order_fin .f64 hLf hz.1, hz.2, if_neg (by grind), if_neg (by grind)]
  · unfold lenC; rw [if_pos hvu, e1]; exact m1
  · have : ¬ V .f64 n ≤ 9999991 / 10000000 := by
      intro hc
      have k1 := Rat.mul_le_mul_of_nonneg_left hc (Rat.le_of_lt m3)
      grind
    rw [order_fin .f64 m2 hlo.1, if_neg (by grind), if_neg (by grind)]
  · have : ¬ 10000009 / 10000000 ≤ V .f64 n := by
      intro hc
      have k1 := Rat.mul_le_mul_of_nonneg_left hc (Rat.le_of_lt m3)
      grind
    rw [order_fin .f64 m2 hhi.1, if_pos (by grind)]

end Go.Proofs.Ytjllidnkndhgmaa
