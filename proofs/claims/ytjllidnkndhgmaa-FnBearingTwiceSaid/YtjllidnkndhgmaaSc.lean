/- Twice a number, rounded, is twice the number rounded. No program. -/
import Derived.Test.YtjllidnkndhgmaaPr
namespace Go.Proofs.Ytjllidnkndhgmaa
open Ieee

theorem rcancel {a b c : Rat} (hc : c ≠ 0) (h : a * c = b * c) : a = b := by grind

theorem cut_tie (neg : Bool) (n drop : Nat) (h : 2 * n = 2 * (Toward.even.cut neg n drop * 2 ^ drop) + 2 ^ drop ∨ 2 * (Toward.even.cut neg n drop * 2 ^ drop) = 2 * n + 2 ^ drop) :
    Toward.even.cut neg n drop % 2 = 0 := by
  have hlog : n < 2 ^ (n.log2 + 1) := Nat.lt_log2_self
  have key : ∀ g low rest : Nat, 0 < g → n = low * g + rest → rest < g → (2 * n = 2 * ((low + (decide (g < 2 * rest) || (g == 2 * rest && low % 2 == 1)).toNat) * g) + g ∨ 2 * ((low + (decide (g < 2 * rest) || (g == 2 * rest && low % 2 == 1)).toNat) * g) = 2 * n + g) →
      (low + (decide (g < 2 * rest) || (g == 2 * rest && low % 2 == 1)).toNat) % 2 = 0 := by
    intro g low rest hg hn hr ht
    by_cases h1 : g < 2 * rest
    · rw [decide_eq_true h1, Bool.true_or, Bool.toNat_true, Nat.add_mul, Nat.one_mul] at ht
      omega
    · rw [decide_eq_false h1, Bool.false_or] at ht ⊢
      by_cases h2 : g = 2 * rest
      · have e2 : (g == 2 * rest) = true := by simpa using h2
        rw [e2, Bool.true_and] at ht ⊢
        by_cases h3 : low % 2 = 1
        · have e3 : (low % 2 == 1) = true := by simpa using h3
          rw [e3, Bool.toNat_true]; omega
        · have e3 : (low % 2 == 1) = false := by simpa using h3
          rw [e3, Bool.toNat_false]; omega
      · have e2 : (g == 2 * rest) = false := by simpa using h2
        rw [e2, Bool.false_and, Bool.toNat_false, Nat.add_zero] at ht
        omega
  have e : Toward.even.cut neg n drop = n / 2 ^ min drop (n.log2 + 2) + (decide (2 ^ min drop (n.log2 + 2) < 2 * (n % 2 ^ min drop (n.log2 + 2))) || (2 ^ min drop (n.log2 + 2) == 2 * (n % 2 ^ min drop (n.log2 + 2)) && n / 2 ^ min drop (n.log2 + 2) % 2 == 1)).toNat := by
    simp only [Toward.cut, Nat.one_shiftLeft]
  by_cases hd : drop ≤ n.log2 + 2
  · rw [e, Nat.min_eq_left hd] at h ⊢
    refine key _ _ _ (Nat.two_pow_pos _) ?_ (Nat.mod_lt _ (Nat.two_pow_pos _)) h
    rw [Nat.mul_comm]; exact (Nat.div_add_mod _ _).symm
  · rw [e, Nat.min_eq_right (by omega)]
    have hb : 2 ^ (n.log2 + 2) = 2 * 2 ^ (n.log2 + 1) := by rw [Nat.pow_succ]; omega
    have h1 : n < 2 ^ (n.log2 + 2) := by omega
    rw [Nat.div_eq_of_lt h1, Nat.mod_eq_of_lt h1, decide_eq_false (by omega)]
    have e2 : (2 ^ (n.log2 + 2) == 2 * n) = false := by simp; omega
    rw [e2]; rfl

theorem kept_tie (f : Format) (neg : Bool) (mag : Nat) (place : Int)
    (h : (mag : Rat) * p2 place = keptOf f neg mag place * p2 (lastOf f mag place) + p2 (lastOf f mag place) / 2 ∨ (keptOf f neg mag place : Rat) * p2 (lastOf f mag place) = mag * p2 place + p2 (lastOf f mag place) / 2) :
    keptOf f neg mag place % 2 = 0 := by
  unfold keptOf at *
  generalize lastOf f mag place = last at *
  have hpl := p2_pos last
  rcases Int.le_total last place with hl | hl
  · obtain ⟨d, rfl⟩ : ∃ d : Nat, place = last + d := ⟨(place - last).toNat, by omega⟩
    rw [show (last + (d : Int) - last).toNat = d by omega, show (last - (last + (d : Int))).toNat = 0 by omega] at h
    have hc := cut_even neg (mag <<< d) 0
    have : Toward.even.cut neg (mag <<< d) 0 = mag <<< d := by simp only [Nat.pow_zero, Nat.mul_one] at hc; omega
    rw [this, Nat.shiftLeft_eq, p2_add, p2_nat] at h
    push_cast at h
    exfalso
    rcases h with h | h <;> grind
  · obtain ⟨d, rfl⟩ : ∃ d : Nat, last = place + d := ⟨(last - place).toNat, by omega⟩
    rw [show (place - (place + (d : Int))).toNat = 0 by omega, show (place + (d : Int) - place).toNat = d by omega, Nat.shiftLeft_zero] at h ⊢
    apply cut_tie
    generalize Toward.even.cut neg mag d = c at *
    rw [p2_add, p2_nat] at h
    have hp := p2_pos place
    have hne : p2 place ≠ 0 := by grind
    rcases h with h | h
    · left
      have h2 : (2 * (mag : Rat)) * p2 place = (2 * (c * ((2 ^ d : Nat) : Rat)) + ((2 ^ d : Nat) : Rat)) * p2 place := by grind
      have h3 := rcancel hne h2
      exact_mod_cast h3
    · right
      have h2 : (2 * (c * ((2 ^ d : Nat) : Rat))) * p2 place = (2 * (mag : Rat) + ((2 ^ d : Nat) : Rat)) * p2 place := by grind
      have h3 := rcancel hne h2
      exact_mod_cast h3

/-- v is the number of the format that is nearest to X, the even one of two -/
def NearE (f : Format) (X v : Rat) : Prop :=
  ∃ (l : Int) (kept : Nat), v = kept * p2 l ∧ f.leastPlace ≤ l ∧ v ≤ X + p2 l / 2 ∧ X ≤ v + p2 l / 2 ∧
    (l = f.leastPlace ∨ p2 (l + f.fractionBits) ≤ X) ∧ X < p2 (l + f.fractionBits + 1) ∧ (X = v + p2 l / 2 ∨ v = X + p2 l / 2 → kept % 2 = 0)

theorem nearest_NearE (f : Format) (hw : Wide f) (neg : Bool) (mag : Nat) (place : Int) (hm : mag ≠ 0) (hX : (mag : Rat) * p2 place < p2 (emax f)) :
    ∃ (M : Nat) (E : Int), f.read (f.nearest neg mag place) = .number neg M E ∧ NearE f (mag * p2 place) (M * p2 E) := by
  have hb := mag_bounds hm place
  have hP : place + mag.log2 < emax f := p2_lt_iff.1 (by grind)
  obtain ⟨M, E, h1, h2, h3, h4⟩ := nearest_read f hw neg mag place hm hP
  refine ⟨M, E, h1, ?_⟩
  have he := kept_err f neg mag place
  have ht := kept_tie f neg mag place
  have hlast : f.leastPlace ≤ lastOf f mag place ∧ place + mag.log2 - f.fractionBits ≤ lastOf f mag place := by unfold lastOf; omega
  refine ⟨lastOf f mag place, keptOf f neg mag place, h2, hlast.1, by rw [h2]; exact he.1, by rw [h2]; exact he.2, ?_, ?_, by rw [h2]; exact ht⟩
  · by_cases h : lastOf f mag place = f.leastPlace
    · exact .inl h
    · right
      have : lastOf f mag place + f.fractionBits = place + mag.log2 := by unfold lastOf at *; omega
      rw [this]; exact hb.1
  · have := p2_mono (a := place + mag.log2 + 1) (b := lastOf f mag place + f.fractionBits + 1) (by omega)
    grind

theorem near_twice {f : Format} {X v v' : Rat} (h : NearE f X v) (g : NearE f (2 * X) v') (hn : p2 (f.leastPlace + f.fractionBits) ≤ X) : v' = 2 * v := by
  obtain ⟨l, k, hv, hl, h1, h2, h3, h4, h5⟩ := h
  obtain ⟨l', k', gv, gl, g1, g2, g3, g4, g5⟩ := g
  have hXp : 0 < X := by have := p2_pos (f.leastPlace + f.fractionBits); grind
  have a1 : p2 (l + f.fractionBits) ≤ X := by rcases h3 with rfl | h3 <;> assumption
  have a2 : p2 (l' + f.fractionBits) ≤ 2 * X := by
    rcases g3 with rfl | g3
    · grind
    · exact g3
  have s1 := p2_succ (l + f.fractionBits)
  have s2 := p2_succ (l + f.fractionBits + 1)
  have b1 : l + f.fractionBits + 1 < l' + f.fractionBits + 1 := p2_lt_iff.1 (by grind)
  have b2 : l' + f.fractionBits < l + f.fractionBits + 1 + 1 := p2_lt_iff.1 (by grind)
  obtain rfl : l' = l + 1 := by omega
  rw [p2_succ] at gv g1 g2 g5
  have hp := p2_pos l
  subst hv gv
  generalize p2 l = P at *
  have hkk : k = k' := by
    rcases Nat.lt_trichotomy k k' with hlt | he | hlt
    · have c1 : ((k + 1 : Nat) : Rat) ≤ k' := by exact_mod_cast hlt
      have c2 := Rat.mul_le_mul_of_nonneg_right c1 (Rat.le_of_lt hp)
      push_cast at c2
      have t1 : X = k * P + P / 2 := by grind
      have t2 : (k' : Rat) * (2 * P) = 2 * X + 2 * P / 2 := by grind
      have e1 := h5 (.inl t1)
      have e2 := g5 (.inr t2)
      have hne : P ≠ 0 := by grind
      have t3 : (k' : Rat) * P = ((k + 1 : Nat) : Rat) * P := by push_cast; grind
      have t4 := rcancel hne t3
      have t5 : k' = k + 1 := by exact_mod_cast t4
      omega
    · exact he
    · have c1 : ((k' + 1 : Nat) : Rat) ≤ k := by exact_mod_cast hlt
      have c2 := Rat.mul_le_mul_of_nonneg_right c1 (Rat.le_of_lt hp)
      push_cast at c2
      have t1 : (k : Rat) * P = X + P / 2 := by grind
      have t2 : 2 * X = k' * (2 * P) + 2 * P / 2 := by grind
      have e1 := h5 (.inr t1)
      have e2 := g5 (.inl t2)
      have hne : P ≠ 0 := by grind
      have t3 : (k : Rat) * P = ((k' + 1 : Nat) : Rat) * P := by push_cast; grind
      have t4 := rcancel hne t3
      have t5 : k = k' + 1 := by exact_mod_cast t4
      omega
  subst hkk
  grind

def NearSE (f : Format) (X v : Rat) : Prop := (X = 0 ∧ v = 0) ∨ (0 < X ∧ NearE f X v) ∨ (X < 0 ∧ NearE f (-X) (-v))

theorem nears_twice {f : Format} {X v v' : Rat} (h : NearSE f X v) (g : NearSE f (2 * X) v') (hn : X = 0 ∨ p2 (f.leastPlace + f.fractionBits) ≤ X ∨ X ≤ -p2 (f.leastPlace + f.fractionBits)) : v' = 2 * v := by
  have hp := p2_pos (f.leastPlace + f.fractionBits)
  rcases h with ⟨hx, hv⟩ | ⟨hx, h⟩ | ⟨hx, h⟩ <;> rcases g with ⟨gx, gv⟩ | ⟨gx, g⟩ | ⟨gx, g⟩ <;> try grind
  · exact near_twice h g (by grind)
  · have e : -(2 * X) = 2 * -X := by grind
    rw [e] at g
    have := near_twice h g (by grind)
    grind

theorem write_numE (f : Format) (hw : Wide f) (s : Bool) (m : Nat) (e : Int) (hX : (m : Rat) * p2 e < p2 (emax f)) :
    ∃ (M : Nat) (E : Int), f.read (f.write (.number s m e)) = .number s M E ∧ NearSE f (sg s * (m * p2 e)) (sg s * (M * p2 E)) := by
  by_cases hm : m = 0
  · subst hm
    have hb : f.binade = 2 ^ f.fractionBits := rfl
    have hbp : 0 < f.binade := Nat.two_pow_pos _
    have hi : 0 < f.signWeight := Nat.two_pow_pos _
    refine ⟨0, f.leastPlace, ?_, .inl ⟨by simp, by simp⟩⟩
    simp only [Format.write, Format.nearest, if_true, Format.read, word_mod f s hi, word_neg f s hi, if_pos hbp]
  · obtain ⟨M, E, h1, h2⟩ := nearest_NearE f hw s m e hm hX
    refine ⟨M, E, h1, ?_⟩
    have hp : (0 : Rat) < m * p2 e := Rat.mul_pos (nat_ne_zero_rat hm) (p2_pos e)
    cases s
    · right; left
      simp only [sg, Bool.false_eq_true, if_false, Rat.one_mul]
      exact ⟨hp, h2⟩
    · right; right
      simp only [sg, if_true]
      refine ⟨by grind, ?_⟩
      have e1 : -(-1 * ((m : Rat) * p2 e)) = m * p2 e := by grind
      have e2 : -(-1 * ((M : Rat) * p2 E)) = M * p2 E := by grind
      rw [e1, e2]; exact h2

theorem sum_finE (f : Format) (hw : Wide f) {x y : Datum} {s t : Bool} {m n : Nat} {i j : Int} (hx : x = .number s m i) (hy : y = .number t n j)
    (hB : -p2 (emax f) < dv x + dv y ∧ dv x + dv y < p2 (emax f)) :
    ∃ d, x.sum y = some d ∧ ∃ b M E, f.read (f.write d) = .number b M E ∧ NearSE f (dv x + dv y) (sg b * (M * p2 E)) := by
  subst hx hy
  refine ⟨_, rfl, ?_⟩
  have hv : dv (.number s m i) + dv (.number t n j) = ((signed s m (i - min i j).toNat + signed t n (j - min i j).toNat : Int) : Rat) * p2 (min i j) := by
    have h1 := signed_p2 s m (i := i) (b := min i j) (by omega)
    have h2 := signed_p2 t n (i := j) (b := min i j) (by omega)
    simp only [dv]
    rw [← h1, ← h2]
    push_cast
    grind
  rw [hv] at hB ⊢
  generalize (signed s m (i - min i j).toNat + signed t n (j - min i j).toNat : Int) = T at *
  generalize hbb : (if T = 0 then s && t else decide (T < 0)) = b
  have hva := natAbs_val T b (by intro h; rw [← hbb, if_neg h])
  have hval : (T : Rat) * p2 (min i j) = sg b * ((T.natAbs : Rat) * p2 (min i j)) := by rw [← hva]; grind
  rw [hval] at hB ⊢
  have hlt := abs_sg b (nn T.natAbs (min i j)) hB
  obtain ⟨M, E, h1, h2⟩ := write_numE f hw b T.natAbs (min i j) hlt
  exact ⟨b, M, E, h1, h2⟩

theorem add_finE (k : FloatKind) {x y : Nat} (hx : Fnt k x) (hy : Fnt k y) (hB : -p2 (emax k.format) < V k x + V k y ∧ V k x + V k y < p2 (emax k.format)) :
    ∃ r, floatBits .add k x y = some r ∧ Fnt k r ∧ NearSE k.format (V k x + V k y) (V k r) := by
  obtain ⟨s, m, i, h1⟩ := hx
  obtain ⟨t, n, j, h2⟩ := hy
  obtain ⟨d, hd, b, M, E, hr, hn⟩ := sum_finE k.format (wide_of k) h1 h2 hB
  refine ⟨k.format.write d, ?_, ⟨b, M, E, hr⟩, ?_⟩
  · simp only [floatBits, Format.add, hd, Option.map_some]
  · have : V k (k.format.write d) = sg b * (M * p2 E) := by rw [V, hr]; rfl
    rw [this]; exact hn

theorem mul_finE (k : FloatKind) {x y : Nat} (hx : Fnt k x) (hy : Fnt k y) (hB : -p2 (emax k.format) < V k x * V k y ∧ V k x * V k y < p2 (emax k.format)) :
    ∃ r, floatBits .mul k x y = some r ∧ Fnt k r ∧ NearSE k.format (V k x * V k y) (V k r) := by
  obtain ⟨s, m, i, h1⟩ := hx
  obtain ⟨t, n, j, h2⟩ := hy
  have hd : (k.format.read x).product (k.format.read y) = some (.number (s ^^ t) (m * n) (i + j)) := by rw [h1, h2]; rfl
  have he : V k x * V k y = sg (s ^^ t) * (((m * n : Nat) : Rat) * p2 (i + j)) := by
    simp only [V, h1, h2, dv, sg_xor, p2_add]; push_cast; grind
  rw [he] at hB ⊢
  obtain ⟨M, E, hr, hn⟩ := write_numE k.format (wide_of k) (s ^^ t) (m * n) (i + j) (abs_sg _ (nn _ _) hB)
  refine ⟨k.format.write (.number (s ^^ t) (m * n) (i + j)), ?_, ⟨_, M, E, hr⟩, ?_⟩
  · simp only [floatBits, Format.mul, hd, Option.map_some]
  · have : V k (k.format.write (.number (s ^^ t) (m * n) (i + j))) = sg (s ^^ t) * (M * p2 E) := by rw [V, hr]; rfl
    rw [this]; exact hn
end Go.Proofs.Ytjllidnkndhgmaa
