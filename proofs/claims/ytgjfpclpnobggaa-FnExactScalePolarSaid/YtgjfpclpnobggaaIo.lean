/- The operations on IEEE numbers, told in rational numbers: sums, differences, products, quotients, conversions, comparisons. No program. -/
import Derived.Test.YtgjfpclpnobggaaIe
import Derived.Test.YtgjfpclpnobggaaFl
namespace Go.Proofs.Ytgjfpclpnobggaa
open Ieee

def sg (s : Bool) : Rat := if s then -1 else 1
def dv : Datum → Rat
  | .number s m e => sg s * (m * p2 e)
  | _ => 0
/-- the word is that of a finite number -/
def Fnt (k : FloatKind) (b : Nat) : Prop := ∃ s M E, k.format.read b = .number s M E
/-- its value -/
def V (k : FloatKind) (b : Nat) : Rat := dv (k.format.read b)
def NearS (f : Format) (X v : Rat) : Prop := (X = 0 ∧ v = 0) ∨ (0 < X ∧ Near f X v) ∨ (X < 0 ∧ Near f (-X) (-v))

theorem wide_of (k : FloatKind) : Wide k.format := by cases k <;> exact ⟨by decide, by decide⟩

theorem nat_ne_zero_rat {m : Nat} (h : m ≠ 0) : (0 : Rat) < m := by
  have : 0 < m := Nat.pos_of_ne_zero h
  exact_mod_cast this

theorem write_num (f : Format) (hw : Wide f) (s : Bool) (m : Nat) (e : Int) (hX : (m : Rat) * p2 e < p2 (emax f)) :
    ∃ (M : Nat) (E : Int), f.read (f.write (.number s m e)) = .number s M E ∧ NearS f (sg s * (m * p2 e)) (sg s * (M * p2 E)) := by
  by_cases hm : m = 0
  · subst hm
    have hb : f.binade = 2 ^ f.fractionBits := rfl
    have hbp : 0 < f.binade := Nat.two_pow_pos _
    have hi : 0 < f.signWeight := Nat.two_pow_pos _
    refine ⟨0, f.leastPlace, ?_, .inl ⟨by simp, by simp⟩⟩
    simp only [Format.write, Format.nearest, if_true, Format.read, word_mod f s hi, word_neg f s hi, if_pos hbp]
  · obtain ⟨M, E, h1, h2, _, _⟩ := nearest_Near f hw s m e hm hX
    refine ⟨M, E, h1, ?_⟩
    have hp : (0 : Rat) < m * p2 e := Rat.mul_pos (nat_ne_zero_rat hm) (p2_pos e)
    cases s
    · right; left
      simp only [sg, Bool.false_eq_true, if_false, Rat.one_mul]
      exact ⟨hp, h2⟩
    · right; right
      simp only [sg, if_true]
      refine ⟨by grind, ?_⟩
      have e1 : -(-1 * ((m : Rat) * p2 e)) = m * p2 e := by grind
      have e2 : -(-1 * ((M : Rat) * p2 E)) = M * p2 E := by grind
      rw [e1, e2]; exact h2

/-- of any finite word: few digits, no place below the least -/
theorem grid (k : FloatKind) {b : Nat} (h : Fnt k b) : ∃ (s : Bool) (M : Nat) (E : Int), k.format.read b = .number s M E ∧ V k b = sg s * (M * p2 E) ∧ M < 2 ^ (k.format.fractionBits + 1) ∧ k.format.leastPlace ≤ E := by
  obtain ⟨s, M, E, hr⟩ := h
  refine ⟨s, M, E, hr, by rw [V, hr]; rfl, ?_⟩
  have hbp : 0 < k.format.binade := Nat.two_pow_pos _
  have hb2 : 2 ^ (k.format.fractionBits + 1) = 2 * k.format.binade := by rw [Nat.pow_succ]; show _ = 2 * 2 ^ _; omega
  rw [hb2]
  simp only [Format.read] at hr
  split at hr
  · cases hr; exact ⟨by omega, Int.le_refl _⟩
  · split at hr
    · cases hr
      have := Nat.mod_lt (b % k.format.signWeight) hbp
      exact ⟨by omega, by omega⟩
    · split at hr <;> cases hr

theorem signed_val (s : Bool) (m u : Nat) : ((signed s m u : Int) : Rat) = sg s * (m * ((2 ^ u : Nat) : Rat)) := by
  unfold signed sg
  cases s
  · simp only [Bool.false_eq_true, if_false, Nat.shiftLeft_eq]
    push_cast; grind
  · simp only [if_true, Nat.shiftLeft_eq]
    push_cast; grind

theorem signed_p2 (s : Bool) (m : Nat) {i b : Int} (h : b ≤ i) : ((signed s m (i - b).toNat : Int) : Rat) * p2 b = sg s * (m * p2 i) := by
  rw [signed_val, ← p2_nat, show i = b + ((i - b).toNat : Int) by omega, p2_add]
  rw [show (b + ((i - b).toNat : Int) - b).toNat = (i - b).toNat by omega]
  grind

theorem natAbs_val (t : Int) (b : Bool) (h : t ≠ 0 → b = decide (t < 0)) : sg b * ((t.natAbs : Nat) : Rat) = (t : Rat) := by
  by_cases h0 : t = 0
  · subst h0; simp
  · rw [h h0]
    by_cases hneg : t < 0
    · have e : ((t.natAbs : Nat) : Int) = -t := by omega
      have e2 : ((t.natAbs : Nat) : Rat) = -(t : Rat) := by
        have : (((t.natAbs : Nat) : Int) : Rat) = ((-t : Int) : Rat) := by rw [e]
        push_cast at this
        exact this
      rw [e2]; simp only [hneg, decide_true, sg, if_true]; grind
    · have e : ((t.natAbs : Nat) : Int) = t := by omega
      have e2 : ((t.natAbs : Nat) : Rat) = (t : Rat) := by
        have : (((t.natAbs : Nat) : Int) : Rat) = ((t : Int) : Rat) := by rw [e]
        exact this
      rw [e2]; simp only [hneg, decide_false, sg]; grind

theorem abs_sg (s : Bool) {x : Rat} (_h : 0 ≤ x) {B : Rat} : (-B < sg s * x ∧ sg s * x < B) → x < B := by
  intro ⟨h1, h2⟩
  cases s <;> simp only [sg, if_true, Bool.false_eq_true, if_false] at h1 h2 <;> grind

theorem nn (m : Nat) (e : Int) : (0 : Rat) ≤ m * p2 e := Rat.mul_nonneg (by exact_mod_cast Nat.zero_le m) (Rat.le_of_lt (p2_pos e))

theorem sum_fin (f : Format) (hw : Wide f) {x y : Datum} {s t : Bool} {m n : Nat} {i j : Int} (hx : x = .number s m i) (hy : y = .number t n j)
    (hB : -p2 (emax f) < dv x + dv y ∧ dv x + dv y < p2 (emax f)) :
    ∃ d, x.sum y = some d ∧ ∃ b M E, f.read (f.write d) = .number b M E ∧ NearS f (dv x + dv y) (sg b * (M * p2 E)) := by
  subst hx hy
  refine ⟨_, rfl, ?_⟩
  have hv : dv (.number s m i) + dv (.number t n j) = ((signed s m (i - min i j).toNat + signed t n (j - min i j).toNat : Int) : Rat) * p2 (min i j) := by
    have h1 := signed_p2 s m (i := i) (b := min i j) (by omega)
    have h2 := signed_p2 t n (i := j) (b := min i j) (by omega)
    simp only [dv]
    rw [← h1, ← h2]
    push_cast
    grind
  rw [hv] at hB ⊢
  generalize (signed s m (i - min i j).toNat + signed t n (j - min i j).toNat : Int) = T at *
  generalize hbb : (if T = 0 then s && t else decide (T < 0)) = b
  have hva := natAbs_val T b (by intro h; rw [← hbb, if_neg h])
  have hval : (T : Rat) * p2 (min i j) = sg b * ((T.natAbs : Rat) * p2 (min i j)) := by rw [← hva]; grind
  rw [hval] at hB ⊢
  have hlt := abs_sg b (nn T.natAbs (min i j)) hB
  obtain ⟨M, E, h1, h2⟩ := write_num f hw b T.natAbs (min i j) hlt
  exact ⟨b, M, E, h1, h2⟩

theorem opp_dv (y : Datum) : dv y.opposite = -dv y := by
  cases y with
  | number s m e => cases s <;> simp [Datum.opposite, dv, sg] <;> grind
  | infinity s => simp [Datum.opposite, dv]
  | nan s t => simp [Datum.opposite, dv]

theorem sg_xor (s t : Bool) : sg (s ^^ t) = sg s * sg t := by cases s <;> cases t <;> simp [sg] <;> grind

theorem add_fin (k : FloatKind) {x y : Nat} (hx : Fnt k x) (hy : Fnt k y) (hB : -p2 (emax k.format) < V k x + V k y ∧ V k x + V k y < p2 (emax k.format)) :
    ∃ r, floatBits .add k x y = some r ∧ Fnt k r ∧ NearS k.format (V k x + V k y) (V k r) := by
  obtain ⟨s, m, i, h1⟩ := hx
  obtain ⟨t, n, j, h2⟩ := hy
  obtain ⟨d, hd, b, M, E, hr, hn⟩ := sum_fin k.format (wide_of k) h1 h2 hB
  refine ⟨k.format.write d, ?_, ⟨b, M, E, hr⟩, ?_⟩
  · simp only [floatBits, Format.add, hd, Option.map_some]
  · have : V k (k.format.write d) = sg b * (M * p2 E) := by rw [V, hr]; rfl
    rw [this]; exact hn

theorem sub_fin (k : FloatKind) {x y : Nat} (hx : Fnt k x) (hy : Fnt k y) (hB : -p2 (emax k.format) < V k x - V k y ∧ V k x - V k y < p2 (emax k.format)) :
    ∃ r, floatBits .sub k x y = some r ∧ Fnt k r ∧ NearS k.format (V k x - V k y) (V k r) := by
  obtain ⟨s, m, i, h1⟩ := hx
  obtain ⟨t, n, j, h2⟩ := hy
  have ho := opp_dv (k.format.read y)
  have he : dv (k.format.read x) + dv (k.format.read y).opposite = V k x - V k y := by rw [ho]; simp only [V]; grind
  have h3 : (k.format.read y).opposite = .number (!t) n j := by rw [h2]; rfl
  obtain ⟨d, hd, b, M, E, hr, hn⟩ := sum_fin k.format (wide_of k) h1 h3 (by rw [he]; exact hB)
  refine ⟨k.format.write d, ?_, ⟨b, M, E, hr⟩, ?_⟩
  · simp only [floatBits, Format.sub, hd, Option.map_some]
  · have : V k (k.format.write d) = sg b * (M * p2 E) := by rw [V, hr]; rfl
    rw [this, ← he]; exact hn

theorem mul_fin (k : FloatKind) {x y : Nat} (hx : Fnt k x) (hy : Fnt k y) (hB : -p2 (emax k.format) < V k x * V k y ∧ V k x * V k y < p2 (emax k.format)) :
    ∃ r, floatBits .mul k x y = some r ∧ Fnt k r ∧ NearS k.format (V k x * V k y) (V k r) := by
  obtain ⟨s, m, i, h1⟩ := hx
  obtain ⟨t, n, j, h2⟩ := hy
  have hd : (k.format.read x).product (k.format.read y) = some (.number (s ^^ t) (m * n) (i + j)) := by rw [h1, h2]; rfl
  have he : V k x * V k y = sg (s ^^ t) * (((m * n : Nat) : Rat) * p2 (i + j)) := by
    simp only [V, h1, h2, dv, sg_xor, p2_add]; push_cast; grind
  rw [he] at hB ⊢
  obtain ⟨M, E, hr, hn⟩ := write_num k.format (wide_of k) (s ^^ t) (m * n) (i + j) (abs_sg _ (nn _ _) hB)
  refine ⟨k.format.write (.number (s ^^ t) (m * n) (i + j)), ?_, ⟨_, M, E, hr⟩, ?_⟩
  · simp only [floatBits, Format.mul, hd, Option.map_some]
  · have : V k (k.format.write (.number (s ^^ t) (m * n) (i + j))) = sg (s ^^ t) * (M * p2 E) := by rw [V, hr]; rfl
    rw [this]; exact hn

theorem order_fin (k : FloatKind) {x y : Nat} (hx : Fnt k x) (hy : Fnt k y) :
    k.format.order x y = some (if V k x < V k y then .lt else if V k x = V k y then .eq else .gt) := by
  obtain ⟨s, m, i, h1⟩ := hx
  obtain ⟨t, n, j, h2⟩ := hy
  have e1 := signed_p2 s m (i := i) (b := min i j) (by omega)
  have e2 := signed_p2 t n (i := j) (b := min i j) (by omega)
  have hp := p2_pos (min i j)
  simp only [Format.order, V, h1, h2, Datum.order, dv]
  rw [← e1, ← e2]
  generalize signed s m (i - min i j).toNat = A
  generalize signed t n (j - min i j).toNat = B
  have hlt : ((A : Rat) * p2 (min i j) < (B : Rat) * p2 (min i j)) ↔ A < B := by
    rw [Rat.mul_lt_mul_right hp]; exact Rat.intCast_lt_intCast
  have heq : ((A : Rat) * p2 (min i j) = (B : Rat) * p2 (min i j)) ↔ A = B := by
    constructor
    · intro h
      have : (A : Rat) = B := by
        have h3 := Rat.ne_of_gt hp
        grind
      exact Rat.intCast_inj.1 this
    · intro h; rw [h]
  congr 1
  simp only [compare, compareOfLessAndEq]
  by_cases h : A < B
  · rw [if_pos h, if_pos (hlt.2 h)]
  · rw [if_neg h, if_neg (fun h' => h (hlt.1 h'))]
    by_cases h' : A = B
    · rw [if_pos h', if_pos (heq.2 h')]
    · rw [if_neg h', if_neg (fun h'' => h' (heq.1 h''))]

theorem rdiv_pos {a b : Rat} (ha : 0 < a) (hb : 0 < b) : 0 < a / b := (Rat.lt_div_iff hb).2 (by simpa using ha)

/-- the quotient's digits: what is left over tells from nothing; the nearest to them is the nearest to the quotient itself -/
theorem quot_Near (f : Format) (hw : Wide f) (neg : Bool) (m n : Nat) (i j : Int) (hm : m ≠ 0) (hn : n ≠ 0)
    (hX : (m : Rat) * p2 i / (n * p2 j) < p2 (emax f)) (more q : Nat) (hmore : more = f.fractionBits + 2 + n.log2 - m.log2)
    (hqd : q = 2 * ((m <<< more) / n) + ((m <<< more) % n != 0).toNat) :
    ∃ (M : Nat) (E : Int), f.read (f.nearest neg q (i - j - more - 1)) = .number neg M E ∧ Near f (m * p2 i / (n * p2 j)) (M * p2 E) := by
  have hnr := nat_ne_zero_rat hn
  have hnp : 0 < n := Nat.pos_of_ne_zero hn
  generalize hD : m <<< more = D at hqd
  generalize hpl : i - j - more - 1 = pl
  -- the exact quotient, in units
  have hpj := p2_pos j
  have hppl := p2_pos pl
  have hXe : (m : Rat) * p2 i / (n * p2 j) = 2 * (D : Rat) / n * p2 pl := by
    have h1 : p2 i = p2 j * p2 pl * p2 (more + 1) := by rw [← p2_add, ← p2_add]; congr 1; omega
    have h2 : (D : Rat) = m * ((2 ^ more : Nat) : Rat) := by
      rw [← hD, Nat.shiftLeft_eq]; push_cast; rfl
    rw [h1, h2, ← p2_nat, p2_succ]
    have := Rat.ne_of_gt hpj
    have := Rat.ne_of_gt hnr
    grind
  have hdm : (D : Rat) = n * ((D / n : Nat) : Rat) + ((D % n : Nat) : Rat) := by
    have := Nat.div_add_mod D n
    exact_mod_cast this.symm
  have hml : ((D % n : Nat) : Rat) < n := by exact_mod_cast Nat.mod_lt D hnp
  have hm0 : (0 : Rat) ≤ ((D % n : Nat) : Rat) := by exact_mod_cast Nat.zero_le _
  have hlow : 2 ^ (f.fractionBits + 1) ≤ D / n := by
    rw [Nat.le_div_iff_mul_le hnp]
    have h1 : n < 2 ^ (n.log2 + 1) := log2_hi
    have h2 : 2 ^ m.log2 ≤ m := log2_lo hm
    rw [← hD, Nat.shiftLeft_eq]
    calc 2 ^ (f.fractionBits + 1) * n ≤ 2 ^ (f.fractionBits + 1) * 2 ^ (n.log2 + 1) := Nat.mul_le_mul_left _ (Nat.le_of_lt h1)
      _ = 2 ^ (f.fractionBits + 2 + n.log2) := by rw [← Nat.pow_add]; congr 1; omega
      _ ≤ 2 ^ (m.log2 + more) := Nat.pow_le_pow_right (by omega) (by omega)
      _ = 2 ^ m.log2 * 2 ^ more := by rw [Nat.pow_add]
      _ ≤ m * 2 ^ more := Nat.mul_le_mul_right _ h2
  have hq2 : 2 ^ (f.fractionBits + 2) ≤ q := by rw [Nat.pow_succ]; omega
  have hq0 : q ≠ 0 := by have := Nat.two_pow_pos (f.fractionBits + 2); omega
  have hlog : f.fractionBits + 2 ≤ q.log2 := (Nat.le_log2 hq0).2 hq2
  -- q is the quotient, or odd and the quotient within one of it
  have hcase : ((D % n = 0) ∧ 2 * (D : Rat) / n = q) ∨ (q % 2 = 1 ∧ (q : Rat) - 1 < 2 * (D : Rat) / n ∧ 2 * (D : Rat) / n < (q : Rat) + 1) := by
    have hne := Rat.ne_of_gt hnr
    by_cases h0 : D % n = 0
    · left
      refine ⟨h0, ?_⟩
      have hq : q = 2 * (D / n) := by rw [hqd, h0]; simp
      rw [hq, hdm, h0]
      push_cast
      grind
    · right
      have hb : (D % n != 0) = true := by simp [h0]
      have hq : q = 2 * (D / n) + 1 := by rw [hqd, hb, Bool.toNat_true]
      have h1 := nat_ne_zero_rat h0
      refine ⟨by omega, ?_, ?_⟩
      · rw [hq]
        have : 2 * (D : Rat) / n = 2 * ((D / n : Nat) : Rat) + 2 * (((D % n : Nat) : Rat) / n) := by rw [hdm]; grind
        have h3 : 0 < ((D % n : Nat) : Rat) / n := rdiv_pos h1 hnr
        push_cast
        grind
      · rw [hq]
        have : 2 * (D : Rat) / n = 2 * ((D / n : Nat) : Rat) + 2 * (((D % n : Nat) : Rat) / n) := by rw [hdm]; grind
        have h3 : ((D % n : Nat) : Rat) / n < 1 := (Rat.div_lt_iff hnr).2 (by grind)
        push_cast
        grind
  generalize 2 * (D : Rat) / n = R at *
  have hR : (q : Rat) - 1 < R ∧ R < (q : Rat) + 1 := by rcases hcase with ⟨_, h⟩ | ⟨_, h⟩ <;> grind
  rw [hXe] at hX ⊢
  clear hXe
  -- the greatest power of two below q is one below R, too
  have hpow : ((2 ^ q.log2 : Nat) : Rat) ≤ R := by
    rcases hcase with ⟨_, h⟩ | ⟨ho, h, _⟩
    · rw [h]; exact_mod_cast log2_lo hq0
    · have h1 := log2_lo hq0
      have h2 : 2 ^ q.log2 % 2 = 0 := by
        have : q.log2 = (q.log2 - 1) + 1 := by omega
        rw [this, Nat.pow_succ]; omega
      have h3 : 2 ^ q.log2 + 1 ≤ q := by omega
      have h4 : ((2 ^ q.log2 + 1 : Nat) : Rat) ≤ (q : Rat) := by exact_mod_cast h3
      push_cast at h4 ⊢
      grind
  have hpow2 : R < ((2 ^ (q.log2 + 1) : Nat) : Rat) := by
    rcases hcase with ⟨_, h⟩ | ⟨ho, _, h⟩
    · rw [h]; exact_mod_cast log2_hi
    · have h1 : q < 2 ^ (q.log2 + 1) := log2_hi
      have h2 : 2 ^ (q.log2 + 1) % 2 = 0 := by rw [Nat.pow_succ]; omega
      have h3 : q + 1 ≤ 2 ^ (q.log2 + 1) := by omega
      have h4 : ((q + 1 : Nat) : Rat) ≤ ((2 ^ (q.log2 + 1) : Nat) : Rat) := by exact_mod_cast h3
      push_cast at h4 ⊢
      grind
  have hP : pl + q.log2 < emax f := by
    apply p2_lt_iff.1
    have h1 := Rat.mul_le_mul_of_nonneg_right hpow (Rat.le_of_lt hppl)
    rw [← p2_nat, ← p2_add, Int.add_comm] at h1
    grind
  obtain ⟨M, E, h1, h2, _, _⟩ := nearest_read f hw neg q pl hq0 hP
  refine ⟨M, E, h1, lastOf f q pl, keptOf f neg q pl, h2, by unfold lastOf; omega, kept_le f neg q pl, ?_⟩
  rw [h2]
  have hle : pl + 2 ≤ lastOf f q pl := by unfold lastOf; omega
  have hkept : keptOf f neg q pl = Toward.even.cut neg q (lastOf f q pl - pl).toNat := by
    unfold keptOf; rw [show (pl - lastOf f q pl).toNat = 0 by omega, Nat.shiftLeft_zero]
  have hl1 : lastOf f q pl = f.leastPlace ∨ lastOf f q pl + f.fractionBits = pl + q.log2 := by unfold lastOf; omega
  have hl2 : pl + q.log2 ≤ lastOf f q pl + f.fractionBits := by unfold lastOf; omega
  rw [hkept]
  generalize lastOf f q pl = last at *
  obtain ⟨d, rfl⟩ : ∃ d : Nat, last = pl + (d + 2 : Nat) := ⟨(last - pl - 2).toNat, by omega⟩
  rw [show (pl + ((d + 2 : Nat) : Int) - pl).toNat = d + 2 by omega]
  have hc := cut_even neg q (d + 2)
  generalize Toward.even.cut neg q (d + 2) = c at *
  have e4 : 2 ^ (d + 2) = 4 * 2 ^ d := by rw [Nat.pow_add]; omega
  rw [e4] at hc
  have hcm : c * (4 * 2 ^ d) = 4 * (c * 2 ^ d) := by rw [Nat.mul_left_comm]
  rw [hcm] at hc
  -- in whole numbers: c * 2^(d+2) ≤ q + 2^(d+1), and where q is odd with one to spare
  have hlo : ((4 * (c * 2 ^ d) : Nat) : Rat) ≤ R + ((2 * 2 ^ d : Nat) : Rat) := by
    rcases hcase with ⟨_, h⟩ | ⟨ho, h, _⟩
    · rw [h]; exact_mod_cast (show 4 * (c * 2 ^ d) ≤ q + 2 * 2 ^ d by omega)
    · have h3 : 4 * (c * 2 ^ d) + 1 ≤ q + 2 * 2 ^ d := by omega
      have h4 : ((4 * (c * 2 ^ d) + 1 : Nat) : Rat) ≤ ((q + 2 * 2 ^ d : Nat) : Rat) := by exact_mod_cast h3
      push_cast at h4 ⊢
      grind
  have hhi : R ≤ ((4 * (c * 2 ^ d) : Nat) : Rat) + ((2 * 2 ^ d : Nat) : Rat) := by
    rcases hcase with ⟨_, h⟩ | ⟨ho, _, h⟩
    · rw [h]; exact_mod_cast (show q ≤ 4 * (c * 2 ^ d) + 2 * 2 ^ d by omega)
    · have h3 : q + 1 ≤ 4 * (c * 2 ^ d) + 2 * 2 ^ d := by omega
      have h4 : ((q + 1 : Nat) : Rat) ≤ ((4 * (c * 2 ^ d) + 2 * 2 ^ d : Nat) : Rat) := by exact_mod_cast h3
      push_cast at h4 ⊢
      grind
  have hlast : p2 (pl + ((d + 2 : Nat) : Int)) = p2 pl * (4 * ((2 ^ d : Nat) : Rat)) := by
    rw [p2_add, p2_nat, e4]; push_cast; rfl
  have m1 := Rat.mul_le_mul_of_nonneg_right hlo (Rat.le_of_lt hppl)
  have m2 := Rat.mul_le_mul_of_nonneg_right hhi (Rat.le_of_lt hppl)
  refine ⟨?_, ?_, ?_, ?_⟩
  · rw [hlast]; push_cast at m1 ⊢; grind
  · rw [hlast]; push_cast at m2 ⊢; grind
  · rcases hl1 with h | h
    · exact .inl h
    · right
      rw [h, p2_add, p2_nat, Rat.mul_comm]
      exact Rat.mul_le_mul_of_nonneg_right hpow (Rat.le_of_lt hppl)
  · have h5 := Rat.mul_lt_mul_of_pos_right hpow2 hppl
    rw [← p2_nat, ← p2_add] at h5
    have h6 := p2_mono (a := ((q.log2 + 1 : Nat) : Int) + pl) (b := pl + ((d + 2 : Nat) : Int) + f.fractionBits + 1) (by omega)
    grind

theorem V_eq {k : FloatKind} {b : Nat} {s : Bool} {m : Nat} {e : Int} (h : k.format.read b = .number s m e) : V k b = sg s * (m * p2 e) := by rw [V, h]; rfl
theorem sg_cases (s : Bool) : sg s = 1 ∨ sg s = -1 := by cases s <;> simp [sg]

theorem div_fin (k : FloatKind) {x y : Nat} (hx : Fnt k x) (hy : Fnt k y) (h0 : V k y ≠ 0) (hB : -p2 (emax k.format) < V k x / V k y ∧ V k x / V k y < p2 (emax k.format)) :
    ∃ r, floatBits .quo k x y = some r ∧ Fnt k r ∧ NearS k.format (V k x / V k y) (V k r) := by
  obtain ⟨s, m, i, h1⟩ := hx
  obtain ⟨t, n, j, h2⟩ := hy
  have e1 := V_eq h1
  have e2 := V_eq h2
  have hn : n ≠ 0 := by rintro rfl; rw [e2] at h0; simp at h0
  have hnr := nat_ne_zero_rat hn
  have hpj := p2_pos j
  have hpi := p2_pos i
  by_cases hm : m = 0
  · subst hm
    have hz : V k x / V k y = 0 := by rw [e1]; simp [Rat.div_def]
    have hd : ∃ pl, (k.format.read x).quotient (k.format.fractionBits + 2) (k.format.read y) = some (.number (s ^^ t) 0 pl) := by
      rw [h1, h2]; simp only [Datum.quotient, if_neg hn]
      simp
    obtain ⟨pl, hd⟩ := hd
    obtain ⟨M, E, hr, hnr'⟩ := write_num k.format (wide_of k) (s ^^ t) 0 pl (by simpa using p2_pos _)
    refine ⟨k.format.write (.number (s ^^ t) 0 pl), ?_, ⟨_, M, E, hr⟩, ?_⟩
    · simp only [floatBits, Format.div, hd, Option.map_some]
    · rw [hz, V_eq hr]; simpa using hnr'
  · have hmr := nat_ne_zero_rat hm
    have hd : (k.format.read x).quotient (k.format.fractionBits + 2) (k.format.read y) = some (.number (s ^^ t)
        (2 * ((m <<< (k.format.fractionBits + 2 + n.log2 - m.log2)) / n) + ((m <<< (k.format.fractionBits + 2 + n.log2 - m.log2)) % n != 0).toNat)
        (i - j - (k.format.fractionBits + 2 + n.log2 - m.log2 : Nat) - 1)) := by
      rw [h1, h2]; simp only [Datum.quotient, if_neg hn]
    have hQ : (0 : Rat) < m * p2 i / (n * p2 j) := rdiv_pos (Rat.mul_pos hmr hpi) (Rat.mul_pos hnr hpj)
    have he : V k x / V k y = sg (s ^^ t) * (m * p2 i / (n * p2 j)) := by
      rw [e1, e2, sg_xor]
      have := Rat.ne_of_gt (Rat.mul_pos hnr hpj)
      rcases sg_cases s with hs | hs <;> rcases sg_cases t with ht | ht <;> rw [hs, ht] <;> grind
    rw [he] at hB ⊢
    obtain ⟨M, E, hr, hN⟩ := quot_Near k.format (wide_of k) (s ^^ t) m n i j hm hn (abs_sg _ (Rat.le_of_lt hQ) hB) _ _ rfl rfl
    refine ⟨_, ?_, ⟨_, M, E, hr⟩, ?_⟩
    · simp only [floatBits, Format.div, hd, Option.map_some, Format.write]
    · rw [V_eq hr]
      generalize (m : Rat) * p2 i / (n * p2 j) = Q at *
      rcases sg_cases (s ^^ t) with h | h <;> rw [h]
      · right; left
        rw [Rat.one_mul, Rat.one_mul]; exact ⟨hQ, hN⟩
      · right; right
        refine ⟨by grind, ?_⟩
        have e1 : -(-1 * Q) = Q := by grind
        have e2 : -(-1 * ((M : Rat) * p2 E)) = M * p2 E := by grind
        rw [e1, e2]; exact hN

end Go.Proofs.Ytgjfpclpnobggaa
