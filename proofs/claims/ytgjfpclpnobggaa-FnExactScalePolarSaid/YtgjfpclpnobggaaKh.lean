/- At its own winds and angles a polar tells its own numbers. No program. -/
import Derived.Test.YtgjfpclpnobggaaQf
namespace Go.Proofs.Ytgjfpclpnobggaa
open Go.Shelf Go.RowKit

theorem val_form {k : FloatKind} {b : Nat} (h : Fnt k b) : ∃ (s : Bool) (c : Nat) (t : Int), V k b = sg s * (c * p2 t) ∧ c ≤ 2 ^ (k.format.fractionBits + 1) ∧ k.format.leastPlace ≤ t := by
  obtain ⟨s, M, E, _, h1, h2, h3⟩ := grid k h
  exact ⟨s, M, E, h1, by omega, h3⟩
theorem nears_self {k : FloatKind} {x r : Nat} {X : Rat} (hx : Fnt k x) (hX : X = V k x) (hn : NearS k.format X (V k r)) : V k r = V k x := by
  obtain ⟨s, c, t, h1, h2, h3⟩ := val_form hx
  have e : X = sg s * (c * p2 t) := hX.trans h1
  exact (hn.exact e h2 h3).trans hX
theorem nears_nil {k : FloatKind} {r : Nat} {X : Rat} (h : NearS k.format X (V k r)) (hX : X = 0) : V k r = 0 := by
  rcases h with ⟨_, g⟩ | ⟨h, _⟩ | ⟨h, _⟩
  · exact g
  · grind
  · grind
theorem c_one : Fnt .f32 1065353216 ∧ V .f32 1065353216 = 1 := by
  have hr : FloatKind.f32.format.read 1065353216 = .number false 8388608 (-23) := by decide +kernel
  refine ⟨⟨_, _, _, hr⟩, ?_⟩
  rw [V_eq hr]
  have h := p2_neg 23
  have : p2 23 = 8388608 := by have := p2_nat 23; simpa using this
  rw [this] at h
  simp only [sg]
  grind
theorem order_eq_of {k : FloatKind} {x y : Nat} (hx : Fnt k x) (hy : Fnt k y) (h : V k x = V k y) : k.format.order x y = some .eq := by
  rw [order_fin k hx hy, if_neg (by rw [h]; exact Rat.lt_irrefl), if_pos h]

theorem an_lt {ws : List Nat} {an : List Int} {ss : List (List Nat)} (h : PolOk ws an ss) : ∀ d i (hi : i + d + 1 < an.length), an[i] < an[i + d + 1] := by
  intro d
  induction d with
  | zero => intro i hi; exact h.ang i hi
  | succ d ih =>
    intro i hi
    have h1 := ih i (by omega)
    have h2 := h.ang (i + d + 1) (by omega)
    have e : an[i + (d + 1) + 1] = an[i + d + 1 + 1] := rfl
    omega
theorem an_mono {ws : List Nat} {an : List Int} {ss : List (List Nat)} (h : PolOk ws an ss) {i j : Nat} (hij : i < j) (hj : j < an.length) : an[i] < an[j] := by
  have := an_lt h (j - i - 1) i (by omega)
  have e : an[i + (j - i - 1) + 1]'(by omega) = an[j] := by congr 1; omega
  omega
theorem ws_lt {ws : List Nat} {an : List Int} {ss : List (List Nat)} (h : PolOk ws an ss) : ∀ d i (hi : i + d + 1 < ws.length), V .f32 ws[i] < V .f32 ws[i + d + 1] := by
  intro d
  induction d with
  | zero => intro i hi; exact gt_val (h.wind (i + 1) hi).val.1 (h.wind i (by omega)).val.1 (h.incr i hi)
  | succ d ih =>
    intro i hi
    have h1 := ih i (by omega)
    have h2 := gt_val (h.wind (i + d + 1 + 1) (by omega)).val.1 (h.wind (i + d + 1) (by omega)).val.1 (h.incr (i + d + 1) (by omega))
    have e : ws[i + (d + 1) + 1] = ws[i + d + 1 + 1] := rfl
    rw [e]
    grind
theorem ws_mono {ws : List Nat} {an : List Int} {ss : List (List Nat)} (h : PolOk ws an ss) {i j : Nat} (hij : i < j) (hj : j < ws.length) : V .f32 ws[i] < V .f32 ws[j] := by
  have := ws_lt h (j - i - 1) i (by omega)
  have e : ws[i + (j - i - 1) + 1]'(by omega) = ws[j] := by congr 1; omega
  rw [e] at this
  exact this
/-- a row at one of its angles -/
theorem row_point {ws : List Nat} {an : List Int} {ss : List (List Nat)} (h : PolOk ws an ss) {row : List Nat} {k k' s : Nat} (hk : k < an.length) (hr : RowR an row an[k] k' s) : ∃ h2 : k < row.length, s = row[k] := by
  obtain ⟨h1, h2, h3, h4⟩ := hr
  have e : k' = k := by
    rcases Nat.lt_trichotomy k' k with hlt | rfl | hgt
    · have := an_mono h hlt hk
      rcases h4 with ⟨h4, _⟩ | ⟨h4, _⟩ <;> omega
    · rfl
    · have := h3 k hk hgt; omega
  subst e
  refine ⟨h2, ?_⟩
  rcases h4 with ⟨_, h4⟩ | ⟨h4, _⟩
  · exact h4
  · omega
theorem bd_of {x : Nat} {B : Rat} (h0 : 0 ≤ V .f32 x) (h1 : V .f32 x ≤ B) (hB : B ≤ 1000000) : -p2 (emax FloatKind.f32.format) < V .f32 x ∧ V .f32 x < p2 (emax FloatKind.f32.format) := by
  have h2 : p2 100 = 1267650600228229401496703205376 := by have := p2_nat 100; simpa using this
  have := lt_emax (j := 100) (by omega)
  constructor <;> grind
theorem points {ws : List Nat} {an : List Int} {ss : List (List Nat)} (h : PolOk ws an ss) {i k r : Nat} (hi : i < ws.length) (hk : k < an.length) (his : i < ss.length) (hks : k < ss[i].length) (hr : SpR ws an ss ws[i] an[k] r) : FloatKind.f32.format.order r ss[i][k] = some .eq := by
  obtain ⟨n, hn, hs, hr⟩ := hr
  obtain ⟨fi, zi, ui⟩ := (h.wind i hi).val
  obtain ⟨f0, z0, u0⟩ := (h.wind 0 (by omega)).val
  obtain ⟨fn, zn, un⟩ := (h.wind n (by omega)).val
  obtain ⟨fs, zs, us⟩ := (h.boat i his k hks).val
  have hem : (1000000 : Rat) < p2 (emax FloatKind.f32.format) := by
    have h2 : p2 100 = 1267650600228229401496703205376 := by have := p2_nat 100; simpa using this
    have := lt_emax (j := 100) (by omega)
    grind
  rcases hr with ⟨h1, q, k', s, h2, h3, h4⟩ | ⟨h1, h2, k', h3⟩ | ⟨h1, h2, i', hi', h3, h4, d1, d2, q, k1, s, k2, t, h5, h6, h7, h8, h9, h10⟩
  · have hle := (leB_val fi f0).1 h1
    have e : i = 0 := by
      rcases Nat.eq_zero_or_pos i with e | e
      · exact e
      · have := ws_mono h e hi; grind
    subst e
    obtain ⟨_, hsr⟩ := row_point h hk h3
    subst hsr
    have hq1 : V .f32 ws[0] / V .f32 ws[0] = 1 := by rw [Rat.div_def]; exact Rat.mul_inv_cancel _ (by grind)
    obtain ⟨q', g1, g2, g3⟩ := div_fin .f32 f0 f0 (by grind) (by rw [hq1]; constructor <;> grind)
    obtain rfl := Option.some.inj (h2.symm.trans g1)
    have hq : V .f32 q = 1 := by
      have := nears_self c_one.1 (by rw [hq1, c_one.2]) g3
      rw [c_one.2] at this; exact this
    have hm1 : V .f32 q * V .f32 ss[0][k] = V .f32 ss[0][k] := by rw [hq, Rat.one_mul]
    obtain ⟨r', g4, g5, g6⟩ := mul_fin .f32 g2 fs (by rw [hm1]; constructor <;> grind)
    obtain rfl := Option.some.inj (h4.symm.trans g4)
    exact order_eq_of g5 fs (nears_self fs hm1 g6)
  · have hge := (geB_val fi fn).1 h2
    have e : i = n := by
      rcases Nat.lt_trichotomy i n with e | e | e
      · have := ws_mono h e (by omega); grind
      · exact e
      · omega
    subst e
    obtain ⟨_, hsr⟩ := row_point h hk h3
    subst hsr
    exact order_eq_of fs fs rfl
  · have e : i' = i := by
      have f1 := (h.wind (i' + 1) hi').val.1
      rcases Nat.lt_trichotomy i' i with e | e | e
      · have hle : ¬ V .f32 ws[i' + 1] ≤ V .f32 ws[i] := fun hc => by rw [(leB_val f1 fi).2 hc] at h4; cases h4
        rcases Nat.lt_trichotomy (i' + 1) i with e2 | e2 | e2
        · have := ws_mono h e2 hi; grind
        · subst e2; exact absurd Rat.le_refl hle
        · omega
      · exact e
      · have := (leB_val (h.wind (i + 1) (by omega)).val.1 fi).1 (h3 i (by omega) e)
        have := ws_mono h (Nat.lt_succ_self i) (by omega)
        grind
    subst e
    obtain ⟨f1, z1, u1⟩ := (h.wind (i' + 1) hi').val
    obtain ⟨_, hs1⟩ := row_point h hk h8
    obtain ⟨hk2, hs2⟩ := row_point h hk h9
    subst hs1; subst hs2
    obtain ⟨ft, zt, ut⟩ := (h.boat (i' + 1) (by omega) k hk2).val
    have hlt := ws_mono h (Nat.lt_succ_self i') hi'
    obtain ⟨d1', g1, g2, g3⟩ := sub_fin .f32 fi fi (by constructor <;> grind)
    obtain rfl := Option.some.inj (h5.symm.trans g1)
    have hd1 := nears_nil g3 (by grind)
    obtain ⟨d2', g4, g5, g6⟩ := sub_fin .f32 f1 fi (by constructor <;> grind)
    obtain rfl := Option.some.inj (h6.symm.trans g4)
    have hd2 : 0 < V .f32 d2 := by
      have t2 := sub_two f1 fi (by grind) g6
      grind
    have hq0 : V .f32 d1 / V .f32 d2 = 0 := by rw [hd1]; grind
    obtain ⟨q', g7, g8, g9⟩ := div_fin .f32 g2 g5 (by grind) (by rw [hq0]; constructor <;> grind)
    obtain rfl := Option.some.inj (h7.symm.trans g7)
    have hqv := nears_nil g9 hq0
    obtain ⟨d, m, m1, m2, m3⟩ := h10
    obtain ⟨d', g10, g11, g12⟩ := sub_fin .f32 ft fs (by constructor <;> grind)
    obtain rfl := Option.some.inj (m1.symm.trans g10)
    have hm0 : V .f32 d * V .f32 q = 0 := by rw [hqv, Rat.mul_zero]
    obtain ⟨m', g13, g14, g15⟩ := mul_fin .f32 g11 g8 (by rw [hm0]; constructor <;> grind)
    obtain rfl := Option.some.inj (m2.symm.trans g13)
    have hmv := nears_nil g15 hm0
    have ha : V .f32 ss[i'][k] + V .f32 m = V .f32 ss[i'][k] := by rw [hmv]; grind
    obtain ⟨r', g16, g17, g18⟩ := add_fin .f32 fs g14 (by rw [ha]; constructor <;> grind)
    obtain rfl := Option.some.inj (m3.symm.trans g16)
    exact order_eq_of g17 fs (nears_self fs ha g18)
end Go.Proofs.Ytgjfpclpnobggaa
