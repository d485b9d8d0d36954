/- Scaled rows, plain; ScalePolar of the first side. -/
import Derived.Test.YtgjfpclpnobggaaMc
namespace Go.Proofs.Ytgjfpclpnobggaa
open Go.Shelf Go.RowKit

theorem fc_fnt {k : FloatKind} {b : Nat} (h : Fnt k b) : fc k b = some b := by
  obtain ⟨s, M, E, hr⟩ := h
  exact fc_of_notNaN (by rw [hr]; rfl)
def at2 (S : List (List Nat)) (a b : Nat) : Nat := (S.getD a []).getD b 0
/-- the numbers before place (i, j) are scaled, the others as they were -/
def Part (k : Nat) (ss S : List (List Nat)) (i j : Nat) : Prop :=
  S.length = ss.length ∧ (∀ a, (S.getD a []).length = (ss.getD a []).length) ∧ ∀ a b, ((a < i ∨ a = i ∧ b < j) → b < (ss.getD a []).length → FIs .f32 (at2 S a b) (fop .mul .f32 (fc .f32 (at2 ss a b)) (fc .f32 k))) ∧ (¬ (a < i ∨ a = i ∧ b < j) → at2 S a b = at2 ss a b)
def Scaled (k : Nat) (ss S : List (List Nat)) : Prop := Part k ss S ss.length 0
theorem Part.start (k : Nat) (ss : List (List Nat)) : Part k ss ss 0 0 := ⟨rfl, fun _ => rfl, fun a b => ⟨fun h => by omega, fun _ => rfl⟩⟩
theorem getD_set2 (S : List (List Nat)) (i a : Nat) (s : List Nat) (hi : i < S.length) : (S.set i s).getD a [] = if a = i then s else S.getD a [] := by
  rw [List.getD_eq_getElem?_getD, List.getD_eq_getElem?_getD]
  by_cases h : a = i
  · subst h; rw [if_pos rfl, List.getElem?_set_self hi]; rfl
  · rw [if_neg h, List.getElem?_set_ne (Ne.symm h)]
theorem getD_set1 (s : List Nat) (j b x : Nat) (hj : j < s.length) : (s.set j x).getD b 0 = if b = j then x else s.getD b 0 := by
  rw [List.getD_eq_getElem?_getD, List.getD_eq_getElem?_getD]
  by_cases h : b = j
  · subst h; rw [if_pos rfl, List.getElem?_set_self hj]; rfl
  · rw [if_neg h, List.getElem?_set_ne (Ne.symm h)]
theorem getD_of {S : List (List Nat)} {i : Nat} {s : List Nat} (h : S[i]? = some s) : S.getD i [] = s := by rw [List.getD_eq_getElem?_getD, h]; rfl
theorem Part.next {k : Nat} {ss S : List (List Nat)} {i j x : Nat} {s : List Nat} (h : Part k ss S i j) (hs : S[i]? = some s) (hj : j < s.length) (hx : FIs .f32 x (fop .mul .f32 (fc .f32 (at2 ss i j)) (fc .f32 k))) : Part k ss (S.set i (s.set j x)) i (j + 1) := by
  obtain ⟨h1, h2, h3⟩ := h
  have hi : i < S.length := (List.getElem?_eq_some_iff.1 hs).1
  have hg := getD_of hs
  refine ⟨by rw [List.length_set]; exact h1, fun a => ?_, fun a b => ?_⟩
  · rw [getD_set2 S i a _ hi]
    split
    · next e => rw [e, ← h2 i, hg, List.length_set]
    · exact h2 a
  · have e : at2 (S.set i (s.set j x)) a b = if a = i ∧ b = j then x else at2 S a b := by
      unfold at2
      rw [getD_set2 S i a _ hi]
      by_cases ha : a = i
      · rw [if_pos ha, getD_set1 s j b x hj]
        by_cases hb : b = j
        · rw [if_pos hb, if_pos ⟨ha, hb⟩]
        · rw [if_neg hb, if_neg (fun h => hb h.2), ha, hg]
      · rw [if_neg ha, if_neg (fun h => ha h.1)]
    rw [e]
    by_cases hab : a = i ∧ b = j
    · rw [if_pos hab, hab.1, hab.2]
      exact ⟨fun _ _ => hx, fun hn => absurd (.inr ⟨rfl, by omega⟩) hn⟩
    · rw [if_neg hab]
      exact ⟨fun hc hb => (h3 a b).1 (by omega) hb, fun hn => (h3 a b).2 (by omega)⟩
theorem Part.row {k : Nat} {ss S : List (List Nat)} {i j : Nat} (h : Part k ss S i j) (hj : (ss.getD i []).length ≤ j) : Part k ss S (i + 1) 0 := by
  obtain ⟨h1, h2, h3⟩ := h
  refine ⟨h1, h2, fun a b => ⟨fun hc hb => (h3 a b).1 ?_ hb, fun hn => (h3 a b).2 (by omega)⟩⟩
  rcases hc with hc | hc
  · by_cases e : a = i
    · subst e; right; exact ⟨rfl, by omega⟩
    · left; omega
  · omega
theorem at2_get {S : List (List Nat)} {i j : Nat} (hi : i < S.length) (hj : j < S[i].length) : at2 S i j = S[i][j] := by
  unfold at2
  rw [List.getD_eq_getElem?_getD, List.getD_eq_getElem?_getD, List.getElem?_eq_getElem hi]
  simp [List.getElem?_eq_getElem hj]
theorem row_len {k : Nat} {ss S : List (List Nat)} {i j a : Nat} (h : Part k ss S i j) (ha : a < S.length) (ha' : a < ss.length) : S[a].length = ss[a].length := by
  have := h.2.1 a
  rw [getD_of (List.getElem?_eq_getElem ha), getD_of (List.getElem?_eq_getElem ha')] at this
  exact this
/-- two scaled ones are the same where one is a polar's -/
theorem Scaled.one {k : Nat} {ws : List Nat} {an : List Int} {ss S T : List (List Nat)} (h : Scaled k ss S) (g : Scaled k ss T) (hP : PolOk ws an S) : S = T := by
  have l1 := h.1
  have l2 := g.1
  apply List.ext_getElem (by omega)
  intro i h1 h2
  have m1 := row_len h h1 (by omega)
  have m2 := row_len g h2 (by omega)
  apply List.ext_getElem (by omega)
  intro j g1 g2
  have e1 := (h.2.2 i j).1 (.inl (by omega)) (by rw [getD_of (List.getElem?_eq_getElem (show i < ss.length by omega))]; omega)
  have e2 := (g.2.2 i j).1 (.inl (by omega)) (by rw [getD_of (List.getElem?_eq_getElem (show i < ss.length by omega))]; omega)
  rw [at2_get h1 g1] at e1
  rw [at2_get h2 g2] at e2
  have hb := (hP.boat i h1 j g1).val.1
  rcases e1.same e2 with ⟨hn, _⟩ | ⟨he, _⟩
  · have := fc_fnt hb
    rw [hn] at this; cases this
  · exact he
end Go.Proofs.Ytgjfpclpnobggaa
