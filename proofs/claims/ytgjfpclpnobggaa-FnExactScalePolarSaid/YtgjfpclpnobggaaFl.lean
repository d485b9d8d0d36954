/- Floats in a walk, NaNs included: an operation gives a number whose plain value (none: a NaN) is a plain function of the plain values of its operands. No condition. -/
import Derived.WalkKit
import Derived.WalkLawsBesides
import Derived.Laws.FloatArith
import Derived.Laws.ComplexArith
import Derived.Deep.Draws
namespace Go.Proofs.Ytgjfpclpnobggaa
open Go

/-- What a word stands for, as one number per value: none of a NaN. -/
def fc (k : FloatKind) (b : Nat) : Option Nat := if (k.format.read b).isNaN then none else some b

/-- The word r fits the kind and stands for c. -/
def FIs (k : FloatKind) (r : Nat) (c : Option Nat) : Prop := fc k r = c ∧ r < 2 ^ k.format.width

def fop (op : BinOp) (k : FloatKind) (x y : Option Nat) : Option Nat := x.bind fun a => y.bind fun b => floatBits op k a b

theorem fc_some {k : FloatKind} {b r : Nat} (h : fc k b = some r) : r = b ∧ (k.format.read b).isNaN = false := by
  unfold fc at h
  split at h
  · cases h
  · rename_i hn; exact ⟨(Option.some.inj h).symm, by simpa using hn⟩

theorem fc_of_notNaN {k : FloatKind} {b : Nat} (h : (k.format.read b).isNaN = false) : fc k b = some b := by simp [fc, h]
theorem fc_of_NaN {k : FloatKind} {b : Nat} (h : (k.format.read b).isNaN = true) : fc k b = none := by simp [fc, h]

open Ieee in
theorem read_word_notNaN (f : Format) (neg : Bool) (rung : Nat) (h : rung ≤ f.infRung) : (f.read (f.word neg rung)).isNaN = false := by
  have hlt := f.infRung_lt
  have hm : f.word neg rung % f.signWeight = rung := by
    unfold Format.word
    split
    · rw [Nat.add_mod_left]; exact Nat.mod_eq_of_lt (by omega)
    · exact Nat.mod_eq_of_lt (by omega)
  simp only [Format.read, hm]
  split
  · rfl
  · split
    · rfl
    · rw [if_pos (by omega)]; rfl

open Ieee in
theorem write_notNaN (f : Format) (d : Datum) (h : d.isNaN = false) : (f.read (f.write d)).isNaN = false := by
  cases d with
  | number neg mag place =>
    simp only [Format.write, Format.nearest]
    split
    · exact read_word_notNaN f neg 0 (Nat.zero_le _)
    · exact read_word_notNaN f neg _ (Nat.min_le_right _ _)
  | infinity neg => exact read_word_notNaN f neg _ (Nat.le_refl _)
  | nan neg fraction => simp [Datum.isNaN] at h

open Ieee in
theorem sum_nn {a b d : Datum} (h : a.sum b = some d) : a.isNaN = false ∧ b.isNaN = false ∧ d.isNaN = false := by
  cases a <;> cases b <;> simp [Datum.sum] at h <;> first | (subst h; simp [Datum.isNaN]) | (obtain ⟨_, rfl⟩ := h; simp [Datum.isNaN])
open Ieee in
theorem opposite_nn {a : Datum} : a.opposite.isNaN = a.isNaN := by cases a <;> rfl
open Ieee in
theorem product_nn {a b d : Datum} (h : a.product b = some d) : a.isNaN = false ∧ b.isNaN = false ∧ d.isNaN = false := by
  cases a <;> cases b <;> simp [Datum.product] at h <;> first | (subst h; simp [Datum.isNaN]) | (obtain ⟨_, rfl⟩ := h; simp [Datum.isNaN])
open Ieee in
theorem quotient_nn {a b d : Datum} {n : Nat} (h : a.quotient n b = some d) : a.isNaN = false ∧ b.isNaN = false ∧ d.isNaN = false := by
  cases a <;> cases b <;> simp only [Datum.quotient] at h <;> (try cases h) <;> (try simp [Datum.isNaN])
  repeat' split at h
  all_goals first | (cases h; rfl) | cases h

theorem floatBits_some {op : BinOp} {k : FloatKind} {x y r : Nat} (h : floatBits op k x y = some r) :
    fc k x = some x ∧ fc k y = some y ∧ fc k r = some r := by
  unfold floatBits at h
  cases op <;> simp only at h <;> first | (cases h; done) | skip
  all_goals
    simp only [Ieee.Format.add, Ieee.Format.sub, Ieee.Format.mul, Ieee.Format.div, Option.map_eq_some_iff] at h
    obtain ⟨d, hd, rfl⟩ := h
  · have := sum_nn hd; exact ⟨fc_of_notNaN this.1, fc_of_notNaN this.2.1, fc_of_notNaN (write_notNaN _ _ this.2.2)⟩
  · have := sum_nn hd; rw [opposite_nn] at this; exact ⟨fc_of_notNaN this.1, fc_of_notNaN this.2.1, fc_of_notNaN (write_notNaN _ _ this.2.2)⟩
  · have := product_nn hd; exact ⟨fc_of_notNaN this.1, fc_of_notNaN this.2.1, fc_of_notNaN (write_notNaN _ _ this.2.2)⟩
  · have := quotient_nn hd; exact ⟨fc_of_notNaN this.1, fc_of_notNaN this.2.1, fc_of_notNaN (write_notNaN _ _ this.2.2)⟩

theorem fop_eq {op : BinOp} {k : FloatKind} {x y : Nat} : fop op k (fc k x) (fc k y) = floatBits op k x y := by
  unfold fop
  cases hx : fc k x with
  | none =>
    simp only [Option.bind_none]
    cases h : floatBits op k x y with
    | none => rfl
    | some r => have := (floatBits_some h).1; rw [hx] at this; cases this
  | some a =>
    have ha := (fc_some hx).1
    cases hy : fc k y with
    | none =>
      simp only [Option.bind_some, Option.bind_none]
      cases h : floatBits op k x y with
      | none => rfl
      | some r => have := (floatBits_some h).2.1; rw [hy] at this; cases this
    | some b => have hb := (fc_some hy).1; subst ha hb; rfl

theorem nan32 (t : Nat) : (FloatKind.f32.format.read ((t % 2) * 2 ^ 31 + 0x7f800000 + 1 + (t / 2) % (2 ^ 23 - 1))).isNaN = true ∧ ((t % 2) * 2 ^ 31 + 0x7f800000 + 1 + (t / 2) % (2 ^ 23 - 1)) < 2 ^ 32 := by
  have h1 : t % 2 < 2 := Nat.mod_lt _ (by decide)
  have h2 : (t / 2) % (2 ^ 23 - 1) < 2 ^ 23 - 1 := Nat.mod_lt _ (by decide)
  generalize (t / 2) % (2 ^ 23 - 1) = u at *
  generalize t % 2 = s at *
  have hs : FloatKind.f32.format.signWeight = 2 ^ 31 := by decide
  have hb : FloatKind.f32.format.binade = 2 ^ 23 := by decide
  have hi : FloatKind.f32.format.infRung = 0x7f800000 := by decide
  refine ⟨?_, by omega⟩
  simp only [Ieee.Format.read, hs, hb, hi]
  rw [if_neg (by omega), if_neg (by omega), if_neg (by omega)]
  rfl

theorem nan64 (t : Nat) : (FloatKind.f64.format.read ((t % 2) * 2 ^ 63 + 0x7ff0000000000000 + 1 + (t / 2) % (2 ^ 52 - 1))).isNaN = true ∧ ((t % 2) * 2 ^ 63 + 0x7ff0000000000000 + 1 + (t / 2) % (2 ^ 52 - 1)) < 2 ^ 64 := by
  have h1 : t % 2 < 2 := Nat.mod_lt _ (by decide)
  have h2 : (t / 2) % (2 ^ 52 - 1) < 2 ^ 52 - 1 := Nat.mod_lt _ (by decide)
  generalize (t / 2) % (2 ^ 52 - 1) = u at *
  generalize t % 2 = s at *
  have hs : FloatKind.f64.format.signWeight = 2 ^ 63 := by decide
  have hb : FloatKind.f64.format.binade = 2 ^ 52 := by decide
  have hi : FloatKind.f64.format.infRung = 0x7ff0000000000000 := by decide
  refine ⟨?_, by omega⟩
  simp only [Ieee.Format.read, hs, hb, hi]
  rw [if_neg (by omega), if_neg (by omega), if_neg (by omega)]
  rfl

theorem nanBits_FIs (k : FloatKind) (x y t : Nat) : FIs k ((Question.nanBits k x y).cut t) none := by
  cases k
  · exact ⟨fc_of_NaN (nan32 t).1, (nan32 t).2⟩
  · exact ⟨fc_of_NaN (nan64 t).1, (nan64 t).2⟩
theorem nanConv_FIs (k : FloatKind) (x t : Nat) : FIs k ((Question.nanConv k x).cut t) none := by
  cases k
  · exact ⟨fc_of_NaN (nan32 t).1, (nan32 t).2⟩
  · exact ⟨fc_of_NaN (nan64 t).1, (nan64 t).2⟩

def isArith : BinOp → Bool
  | .add | .sub | .mul | .quo => true
  | _ => false

theorem run_farith_any {P : Program} (w : World) (op : BinOp) (hop : isArith op = true) (t : TypeId) (k : FloatKind) (x y : Nat) :
    ∃ r n, (binOp op t (.float k x) (.float k y)).run P w = .ok (.float k r) (w.drewN n) ∧ FIs k r (fop op k (fc k x) (fc k y)) := by
  rw [fop_eq]
  cases h : floatBits op k x y with
  | some r =>
    refine ⟨r, 0, ?_, (floatBits_some h).2.2, ?_⟩
    · rw [World.drewN_zero]; exact run_float_arith w op t k x y r h
    · unfold floatBits at h
      split at h
      · exact k.format.add_lt h
      · exact k.format.sub_lt h
      · exact k.format.mul_lt h
      · exact k.format.div_lt h
      · cases h
  | none =>
    refine ⟨(Question.nanBits k x y).cut (w.tape w.drawn (.nanBits k x y)), 1, ?_, nanBits_FIs ..⟩
    unfold floatBits at h
    cases op <;> simp [isArith] at hop <;> simp only at h <;> simp [binOp, Op.floatArith, h, Question.forced, World.drewN]

section
variable {P : Program} {ops : Array Oper} {Q : Exit → Act → World → Prop} {a : Act} {w : World} {rest : List Oper} {o : Oper}

/-- A float operation in a walk. -/
theorem wpList_farith (hgd : o.guard = none) (op : BinOp) (t t' : TypeId) (X Y : Operand) (ho : o.op = .binOp op t X Y t') (hop : isArith op = true)
    (k : FloatKind) (x y : Nat) (hx : a.eval X = .float k x) (hy : a.eval Y = .float k y)
    (h : ∀ r n, FIs k r (fop op k (fc k x) (fc k y)) → wpList P ops Q rest (a.put o.dst (.float k r)) (w.drewN n)) : wpList P ops Q (o :: rest) a w :=
  wpList_plain hgd fun _ hK => by
    obtain ⟨r, n, hr, hi⟩ := run_farith_any (P := P) w op hop t k x y
    have heg : ∀ w, (eqGuard op t X Y (.float k x) (.float k y)).run P w = .ok () w := by
      intro w; cases op <;> simp [isArith] at hop <;> simp [eqGuard]
    unfold Oper.wp execOp
    simp only [ho, hx, hy, Sem.run_bind, heg, Result.andThen_ok, hr, Sem.run_pure]
    exact hK _ _ (h r n hi)
end

/-- What a conversion between the two kinds of floats gives. -/
def Cvt (src dst : FloatKind) (x r : Nat) : Prop :=
  r < 2 ^ dst.format.width ∧ (fc src x = none → fc dst r = none) ∧
  (∀ s, src.decode x = .infinity s → r = dst.encode (.infinity s)) ∧
  (∀ s m e, src.decode x = .number s m e → (dst.decode (dst.encode (.number s m e))).isInfinity = false → r = dst.encode (.number s m e))

theorem encode_lt (k : FloatKind) (d : Ieee.Datum) : k.encode d < 2 ^ k.format.width := k.format.write_lt d

theorem run_fconv_any {P : Program} (w : World) (src dst : FloatKind) (hne : src ≠ dst) (x : Nat) :
    ∃ r n, (Conv.floatToFloat src x dst).run P w = .ok (.float dst r) (w.drewN n) ∧ Cvt src dst x r := by
  unfold Conv.floatToFloat
  rw [if_neg hne]
  cases h : src.decode x with
  | nan s t =>
    have hn := nanConv_FIs dst x (w.tape w.drawn (.nanConv dst x))
    refine ⟨_, 1, ?_, hn.2, fun _ => hn.1, fun s h' => by rw [h] at h'; (cases h'), fun s m e h' => by rw [h] at h'; (cases h')⟩
    simp [Question.forced, World.drewN]
  | infinity s =>
    refine ⟨_, 0, rfl, encode_lt _ _, fun hf => ?_, fun s' h' => ?_, fun s m e h' => by rw [h] at h'; (cases h')⟩
    · unfold fc at hf
      have : (src.format.read x).isNaN = false := by show (src.decode x).isNaN = false; rw [h]; rfl
      rw [this] at hf; simp at hf
    · rw [h] at h'; cases h'; rfl
  | number s m e =>
    have hnn : (src.format.read x).isNaN = false := by show (src.decode x).isNaN = false; rw [h]; rfl
    by_cases ho : (dst.decode (dst.encode (.number s m e))).isInfinity = true
    · refine ⟨(Question.floatToFloat x).cut (w.tape w.drawn (.floatToFloat x)), 1, ?_, ?_, fun hf => ?_, fun s' h' => by rw [h] at h'; (cases h'), fun s' m' e' h' h2 => ?_⟩
      · simp [ho, Question.forced, World.drewN]
      · have h1 : (Question.floatToFloat x).cut (w.tape w.drawn (.floatToFloat x)) < 2 ^ 32 := Nat.mod_lt _ (by decide)
        cases dst
        · exact h1
        · exact Nat.lt_of_lt_of_le h1 (by decide)
      · unfold fc at hf; rw [hnn] at hf; simp at hf
      · rw [h] at h'; cases h'; rw [ho] at h2; cases h2
    · rw [Bool.not_eq_true] at ho
      refine ⟨_, 0, by simp only [ho]; rfl, encode_lt _ _, fun hf => ?_, fun s' h' => by rw [h] at h'; (cases h'), fun s' m' e' h' h2 => ?_⟩
      · unfold fc at hf; rw [hnn] at hf; simp at hf
      · rw [h] at h'; cases h'; rfl

section
variable {P : Program} {ops : Array Oper} {Q : Exit → Act → World → Prop} {a : Act} {w : World} {rest : List Oper} {o : Oper}

/-- A conversion between the kinds of floats in a walk. -/
theorem wpList_fconv (hgd : o.guard = none) (t t' : TypeId) (X : Operand) (ho : o.op = .convert t t' X)
    (src dst : FloatKind) (x : Nat) (hx : a.eval X = .float src x) (hs : P.underlying t = some (.float src)) (hd : P.underlying t' = some (.float dst)) (hne : src ≠ dst)
    (h : ∀ r n, Cvt src dst x r → wpList P ops Q rest (a.put o.dst (.float dst r)) (w.drewN n)) : wpList P ops Q (o :: rest) a w :=
  wpList_plain hgd fun _ hK => by
    obtain ⟨r, n, hr, hi⟩ := run_fconv_any (P := P) w src dst hne x
    unfold Oper.wp execOp
    simp only [ho, hx, convert, Sem.run_bind, run_underlying hs, run_underlying hd, Result.andThen_ok, hr, Sem.run_pure]
    exact hK _ _ (h r n hi)

/-- A conversion between the kinds of complex numbers in a walk: part by part. -/
theorem wpList_cconv (hgd : o.guard = none) (t t' : TypeId) (X : Operand) (ho : o.op = .convert t t' X)
    (src dst : FloatKind) (x y : Nat) (hx : a.eval X = .complex src x y) (hs : P.underlying t = some (.complex src)) (hd : P.underlying t' = some (.complex dst)) (hne : src ≠ dst)
    (h : ∀ r q n, Cvt src dst x r → Cvt src dst y q → wpList P ops Q rest (a.put o.dst (.complex dst r q)) (w.drewN n)) : wpList P ops Q (o :: rest) a w :=
  wpList_plain hgd fun _ hK => by
    obtain ⟨r, n, hr, hi⟩ := run_fconv_any (P := P) w src dst hne x
    obtain ⟨q, m, hq, hj⟩ := run_fconv_any (P := P) (w.drewN n) src dst hne y
    unfold Oper.wp execOp
    simp only [ho, hx, convert, Sem.run_bind, run_underlying hs, run_underlying hd, Result.andThen_ok, Conv.complexToComplex, hr, hq, Sem.run_pure]
    have := hK _ _ (h r q (n + m) hi hj)
    rw [World.drewN_drewN]
    exact this
end

theorem order_nan_l {k : FloatKind} {x y : Nat} (h : fc k x = none) : k.format.order x y = none := by
  unfold fc at h
  split at h
  · rename_i hn
    simp only [Ieee.Format.order]
    cases hx : k.format.read x <;> rw [hx] at hn <;> first | (cases hn; done) | rfl
  · cases h
theorem order_nan_r {k : FloatKind} {x y : Nat} (h : fc k y = none) : k.format.order x y = none := by
  unfold fc at h
  split at h
  · rename_i hn
    simp only [Ieee.Format.order]
    cases hy : k.format.read y <;> rw [hy] at hn <;> first | (cases hn; done) | (cases k.format.read x <;> rfl)
  · cases h
theorem order_self {k : FloatKind} {x : Nat} (h : fc k x ≠ none) : k.format.order x x = some .eq := by
  unfold fc at h
  split at h
  · exact absurd rfl h
  · rename_i hn
    simp only [Ieee.Format.order]
    cases hx : k.format.read x with
    | number s m e => simp [Ieee.Datum.order]
    | infinity s => simp [Ieee.Datum.order]
    | nan s t => rw [hx] at hn; exact absurd rfl hn

theorem FIs.of {k : FloatKind} {x : Nat} (h : x < 2 ^ k.format.width) : FIs k x (fc k x) := ⟨rfl, h⟩
/-- two words that stand for the same: both NaN, or one -/
theorem FIs.same {k : FloatKind} {x y : Nat} {c : Option Nat} (h : FIs k x c) (g : FIs k y c) : (fc k x = none ∧ fc k y = none) ∨ (x = y ∧ fc k x ≠ none) := by
  cases c with
  | none => exact .inl ⟨h.1, g.1⟩
  | some b => right; exact ⟨(fc_some h.1).1.symm.trans (fc_some g.1).1, by rw [h.1]; simp⟩

end Go.Proofs.Ytgjfpclpnobggaa
