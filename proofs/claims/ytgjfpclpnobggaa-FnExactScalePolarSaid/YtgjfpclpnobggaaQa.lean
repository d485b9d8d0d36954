/- Between two singles: both sides. The first angle that is not less. -/
import Derived.Test.YtgjfpclpnobggaaPv
namespace Go.Proofs.Ytgjfpclpnobggaa
open Go.Shelf Go.RowKit

def Mix (s t q r : Nat) : Prop := ∃ d m, floatBits .sub .f32 t s = some d ∧ floatBits .mul .f32 d q = some m ∧ floatBits .add .f32 s m = some r
theorem Mix.one {s t q r r' : Nat} (h : Mix s t q r) (g : Mix s t q r') : r = r' := by
  obtain ⟨d, m, h1, h2, h3⟩ := h
  obtain ⟨d', m', g1, g2, g3⟩ := g
  obtain rfl := Option.some.inj (h1.symm.trans g1)
  obtain rfl := Option.some.inj (h2.symm.trans g2)
  exact Option.some.inj (h3.symm.trans g3)
theorem mix_ok {s t q : Nat} {j : Int} (hj : 0 ≤ j) (hj2 : j ≤ 40) (hs : Bd j s) (ht : Bd j t) (hq : Bd 8 q) : ∃ r, Mix s t q r ∧ Bd (j + 10) r := by
  obtain ⟨d, hd, bd, _⟩ := sub_bd ht hs (by omega) (by omega)
  obtain ⟨m, hm, bm⟩ := mul_bd bd hq (by omega) (by omega)
  obtain ⟨r, hr, br⟩ := add_bd (j := j + 1 + 8) (hs.mono (by omega)) bm (by omega) (by omega)
  exact ⟨r, ⟨d, m, hd, hm, hr⟩, by rw [show j + 10 = j + 1 + 8 + 1 by omega]; exact br⟩
theorem run_fop {op : BinOp} {t : TypeId} {x y r : Nat} (h : floatBits op .f32 x y = some r) : ∀ w : World, (binOp op t (.float .f32 x) (.float .f32 y)).run Try.prog w = .ok (.float .f32 r) w :=
  fun w => run_float_arith w op t .f32 x y r h

theorem iBetween {s t q r : Nat} (h : Mix s t q r) (w : World) :
    Calls Try.prog 70 #[.float .f32 s, .float .f32 t, .float .f32 q] w fun e w' => e = .returned (.float .f32 r) ∧ w = w' := by
  obtain ⟨d, m, h1, h2, h3⟩ := h
  have e1 := run_fop (t := 36) h1
  have e2 := run_fop (t := 36) h2
  have e3 := run_fop (t := 36) h3
  clear h1 h2 h3
  go_enter Try.func70, Try.ntmps70
  go_wp2
  go_ret
  exact ⟨rfl, rfl⟩
theorem sMixC {s t q r : Nat} (h : Mix s t q r) (w : World) :
    Calls Try.prog 48 #[.float .f32 s, .float .f32 t, .float .f32 q] w fun e w' => e = .returned (.float .f32 r) ∧ w = w' := by
  obtain ⟨d, m, h1, h2, h3⟩ := h
  have e1 := run_fop (t := 36) h1
  have e2 := run_fop (t := 36) h2
  have e3 := run_fop (t := 36) h3
  clear h1 h2 h3
  go_enter Try.func48, Try.ntmps48
  go_wp2
  go_ret
  exact ⟨rfl, rfl⟩

/-- what a row says at an angle, k being the first angle that is not less -/
def RowR (an : List Int) (row : List Nat) (angle : Int) (k : Nat) (r : Nat) : Prop :=
  ∃ h : k < an.length, ∃ h2 : k < row.length, (∀ j (hj : j < an.length), j < k → an[j] < angle) ∧
    ((an[k] = angle ∧ r = row[k]) ∨ (angle < an[k] ∧ ∃ h3 : 0 < k, ∃ q, floatBits .quo .f32 (floatOfInt .f32 (angle - an[k - 1])) (floatOfInt .f32 (an[k] - an[k - 1])) = some q ∧ Mix row[k - 1] row[k] q r))
theorem RowR.same {an : List Int} {row : List Nat} {angle : Int} {k k' r r' : Nat} (h : RowR an row angle k r) (g : RowR an row angle k' r') : k = k' := by
  obtain ⟨h1, _, h2, h3⟩ := h
  obtain ⟨g1, _, g2, g3⟩ := g
  by_cases e : k < k'
  · have := g2 k h1 e; omega
  · by_cases e' : k' < k
    · have := h2 k' g1 e'; omega
    · omega
theorem RowR.one {an : List Int} {row : List Nat} {angle : Int} {k k' r r' : Nat} (h : RowR an row angle k r) (g : RowR an row angle k' r') : r = r' := by
  obtain rfl := h.same g
  obtain ⟨h1, _, h2, h3⟩ := h
  obtain ⟨g1, _, g2, g3⟩ := g
  rcases h3 with ⟨e, rfl⟩ | ⟨e, hk, q, hq, hm⟩ <;> rcases g3 with ⟨e', rfl⟩ | ⟨e', hk', q', hq', hm'⟩
  · rfl
  · omega
  · omega
  · obtain rfl := Option.some.inj (hq.symm.trans hq')
    exact hm.one hm'
theorem first_ge (P : Nat → Prop) (n : Nat) (h : P n) : ∃ k, k ≤ n ∧ P k ∧ ∀ j, j < k → ¬ P j := by
  classical
  induction n with
  | zero => exact ⟨0, by omega, h, fun j hj => by omega⟩
  | succ n ih =>
    by_cases hn : ∃ m, m ≤ n ∧ P m
    · obtain ⟨m, hm, hp⟩ := hn
      induction m using Nat.strongRecOn with
      | _ m ihm =>
        by_cases hex : ∃ j, j < m ∧ P j
        · obtain ⟨j, hj, hpj⟩ := hex
          exact ihm j hj (by omega) hpj
        · exact ⟨m, by omega, hp, fun j hj hpj => hex ⟨j, hj, hpj⟩⟩
    · exact ⟨n + 1, by omega, h, fun j hj hpj => hn ⟨j, by omega, hpj⟩⟩
theorem an_range {ws : List Nat} {an : List Int} {ss : List (List Nat)} (h : PolOk ws an ss) : ∀ k (hk : k < an.length), 0 ≤ an[k] ∧ an[k] ≤ 180 := by
  have a0 := h.first (by have := h.a2; omega)
  have aL := h.last (by have := h.a2; omega)
  have mono : ∀ d i (hi : i + d < an.length), an[i] ≤ an[i + d] := by
    intro d
    induction d with
    | zero => intro i hi; exact Int.le_refl _
    | succ d ih =>
      intro i hi
      have h1 := ih i (by omega)
      have h2 := h.ang (i + d) (by omega)
      have e : an[i + (d + 1)] = an[i + d + 1] := rfl
      omega
  intro k hk
  have m1 := mono k 0 (by omega)
  have m2 := mono (an.length - 1 - k) k (by omega)
  have e1 : an[0 + k] = an[k] := by congr 1; omega
  have e2 : an[k + (an.length - 1 - k)] = an[an.length - 1] := by congr 1; omega
  omega
theorem row_ok {ws : List Nat} {an : List Int} {ss : List (List Nat)} (h : PolOk ws an ss) (i : Nat) (hi : i < ss.length) (angle : Int) (a0 : 0 ≤ angle) (a1 : angle ≤ 180) : ∃ k r, RowR an ss[i] angle k r ∧ Bd 16 r := by
  have hl := h.row i hi
  have hr := an_range h
  have h2 := h.a2
  have hlast := h.last (by omega)
  obtain ⟨k, hk, hp, hno⟩ := first_ge (fun j => ∃ hj : j < an.length, angle ≤ an[j]) (an.length - 1) ⟨by omega, by omega⟩
  obtain ⟨hk1, hpk⟩ := hp
  have hkr : k < ss[i].length := by rw [hl]; exact hk1
  have hlt : ∀ j (hj : j < an.length), j < k → an[j] < angle := fun j hj hjk => by
    have := hno j hjk
    exact Int.not_le.1 (fun e => this ⟨hj, e⟩)
  by_cases heq : an[k] = angle
  · exact ⟨k, ss[i][k], ⟨hk1, hkr, hlt, .inl ⟨heq, rfl⟩⟩, (h.boat i hi k hkr).bd.mono (by omega)⟩
  · have hgt : angle < an[k] := by omega
    have hk0 : 0 < k := by
      rcases Nat.eq_zero_or_pos k with rfl | h0
      · have := h.first (by omega); omega
      · exact h0
    have hb := hlt (k - 1) (by omega) (by omega)
    have hb0 := hr (k - 1) (by omega)
    have hb1 := hr k hk1
    have f1 := ofInt_fin .f32 (angle - an[k - 1]) (by rw [show FloatKind.f32.format.fractionBits = 23 by decide]; omega)
    have f2 := ofInt_fin .f32 (an[k] - an[k - 1]) (by rw [show FloatKind.f32.format.fractionBits = 23 by decide]; omega)
    have c1 : (0 : Rat) < ((angle - an[k - 1] : Int) : Rat) := (Rat.intCast_lt_intCast (a := 0) (b := angle - an[k - 1])).2 (by omega)
    have c2 : (0 : Rat) < ((an[k] - an[k - 1] : Int) : Rat) := (Rat.intCast_lt_intCast (a := 0) (b := an[k] - an[k - 1])).2 (by omega)
    have c3 : ((angle - an[k - 1] : Int) : Rat) ≤ ((an[k] - an[k - 1] : Int) : Rat) := (Rat.intCast_le_intCast (a := angle - an[k - 1]) (b := an[k] - an[k - 1])).2 (by omega)
    obtain ⟨q, hq, bq⟩ := div_bd (j := 8) f1.1 f2.1 (by rw [f2.2]; exact c2) (by
      rw [f1.2, f2.2]
      have p8 : p2 8 = 256 := by have := p2_nat 8; simpa using this
      rw [p8]
      constructor <;> grind) (by omega) (by omega)
    obtain ⟨r, hm, br⟩ := mix_ok (j := 6) (by omega) (by omega) (h.boat i hi (k - 1) (by omega)).bd (h.boat i hi k hkr).bd bq
    exact ⟨k, r, ⟨hk1, hkr, hlt, .inr ⟨hgt, hk0, q, hq, hm⟩⟩, br⟩
end Go.Proofs.Ytgjfpclpnobggaa
