/- The fields of a line, with no program in sight. -/
import Derived.Test.YtcafecpiijmkoaaDoorTu
import Derived.Lib.SplitLaws
import Derived.Lib.IndexBytes
import Derived.Lib.IndexLaws
namespace Go.Proofs.YtcafecpiijmkoaaDoor
open Go.RowKit

/-- the fields of cur and what follows -/
def flA : List UInt8 → List UInt8 → List (List UInt8)
  | cur, [] => if cur = [] then [] else [cur]
  | cur, c :: r => if c = 32 then (if cur = [] then flA [] r else cur :: flA [] r) else flA (cur ++ [c]) r
def fl (l : List UInt8) : List (List UInt8) := flA [] l

theorem flA_no (r cur : List UInt8) (h : ∀ c ∈ r, c ≠ 32) : flA cur r = if cur ++ r = [] then [] else [cur ++ r] := by
  induction r generalizing cur with
  | nil => simp [flA]
  | cons c r ih =>
    rw [flA, if_neg (h c List.mem_cons_self), ih _ (fun x hx => h x (List.mem_cons_of_mem _ hx)), List.append_assoc]
    rfl
theorem flA_hit (a r cur : List UInt8) (h : ∀ c ∈ a, c ≠ 32) : flA cur (a ++ 32 :: r) = (if cur ++ a = [] then [] else [cur ++ a]) ++ flA [] r := by
  induction a generalizing cur with
  | nil =>
    rw [List.nil_append, flA, if_pos rfl, List.append_nil]
    split <;> simp
  | cons c a ih =>
    rw [List.cons_append, flA, if_neg (h c List.mem_cons_self), ih _ (fun x hx => h x (List.mem_cons_of_mem _ hx)), List.append_assoc]
    rfl

theorem count_drop (l : List UInt8) (o : Nat) (h : l[o]? = some 32) : (l.drop (o + 1)).count 32 + 1 ≤ l.count 32 := by
  have hl : o < l.length := by
    by_cases h1 : o < l.length
    · exact h1
    · rw [List.getElem?_eq_none (by omega)] at h; cases h
  have e : l = l.take o ++ 32 :: l.drop (o + 1) := by
    have h2 : l[o] = 32 := by rw [List.getElem?_eq_getElem hl] at h; exact Option.some.inj h
    have := (List.take_append_drop o l).symm
    rw [List.drop_eq_getElem_cons hl, h2] at this
    exact this
  conv => rhs; rw [e]
  simp [List.count_append]
theorem split_fields : ∀ (k : Nat) (l : List UInt8), l.count 32 ≤ k → (Lib.splitK [32] 0 k l).filter (fun x => !x.isEmpty) = fl l
  | 0, l, h => by
    have hno : ∀ c ∈ l, c ≠ 32 := by
      rintro c hc rfl
      have := List.count_pos_iff.2 hc
      omega
    rw [Lib.splitK, fl, flA_no l [] hno, List.nil_append]
    cases l <;> rfl
  | k + 1, l, h => by
    rw [Lib.splitK]
    by_cases h1 : Lib.index l [32] = -1
    · rw [if_pos (beq_iff_eq.2 h1)]
      have hno : ∀ c ∈ l, c ≠ 32 := by
        rintro c hc rfl
        rw [Lib.index_one] at h1
        obtain ⟨j, hj⟩ := List.getElem?_of_mem hc
        exact Lib.indexByte_none h1 j hj
      rw [fl, flA_no l [] hno, List.nil_append]
      cases l <;> rfl
    · have hge := Lib.index_ge l [32]
      obtain ⟨o, ho⟩ : ∃ o : Nat, Lib.index l [32] = o := ⟨(Lib.index l [32]).toNat, by omega⟩
      rw [if_neg (fun e => h1 (beq_iff_eq.1 e)), ho]
      rw [Lib.index_one] at ho
      obtain ⟨h2, h3⟩ := Lib.indexByte_some ho
      have hl : o < l.length := by
        by_cases h1 : o < l.length
        · exact h1
        · rw [List.getElem?_eq_none (by omega)] at h2; cases h2
      have e : l = l.take o ++ 32 :: l.drop (o + 1) := by
        have h4 : l[o] = 32 := by rw [List.getElem?_eq_getElem hl] at h2; exact Option.some.inj h2
        have := (List.take_append_drop o l).symm
        rw [List.drop_eq_getElem_cons hl, h4] at this
        exact this
      have hno : ∀ c ∈ l.take o, c ≠ 32 := by
        rintro c hc rfl
        obtain ⟨j, hj⟩ := List.getElem?_of_mem hc
        rw [List.getElem?_take] at hj
        split at hj
        · rename_i hjo; exact h3 j hjo hj
        · cases hj
      have ih := split_fields k (l.drop (o + 1)) (by have := count_drop l o h2; omega)
      have hfl : fl l = (if l.take o = [] then [] else [l.take o]) ++ fl (l.drop (o + 1)) := by
        unfold fl
        conv => lhs; rw [e]
        rw [flA_hit _ _ _ hno, List.nil_append]
      rw [hfl]
      simp only [Int.toNat_natCast, Nat.add_zero, List.length_singleton, List.filter_cons, ih]
      cases h5 : l.take o with
      | nil => rfl
      | cons a b => rfl

/-- the steps of the second side -/
theorem fl_end {l : List UInt8} {b : Nat} {out : List (List UInt8)} (h : fl l = out ++ flA ((l.take l.length).drop b) (l.drop l.length)) : fl l = out ++ if (l.take l.length).drop b = [] then [] else [(l.take l.length).drop b] := by
  rw [List.drop_length, flA] at h; exact h
theorem fl_char {l : List UInt8} {b i : Nat} {c : UInt8} {out : List (List UInt8)} (hb : b ≤ i) (hc : l[i]? = some c) (hn : c ≠ 32) (h : fl l = out ++ flA ((l.take i).drop b) (l.drop i)) : fl l = out ++ flA ((l.take (i + 1)).drop b) (l.drop (i + 1)) := by
  have hl : i < l.length := by
    by_cases h1 : i < l.length
    · exact h1
    · rw [List.getElem?_eq_none (by omega)] at hc; cases hc
  have h4 : l[i] = c := by rw [List.getElem?_eq_getElem hl] at hc; exact Option.some.inj hc
  rw [List.drop_eq_getElem_cons hl, h4, flA, if_neg hn] at h
  rw [h, List.take_succ_eq_append_getElem hl, List.drop_append_of_le_length (by rw [List.length_take]; omega), h4]
theorem fl_space {l : List UInt8} {b i : Nat} {out : List (List UInt8)} (hc : l[i]? = some 32) (h : fl l = out ++ flA ((l.take i).drop b) (l.drop i)) :
    fl l = (out ++ if (l.take i).drop b = [] then [] else [(l.take i).drop b]) ++ flA ((l.take (i + 1)).drop (i + 1)) (l.drop (i + 1)) := by
  have hl : i < l.length := by
    by_cases h1 : i < l.length
    · exact h1
    · rw [List.getElem?_eq_none (by omega)] at hc; cases hc
  have h4 : l[i] = 32 := by rw [List.getElem?_eq_getElem hl] at hc; exact Option.some.inj hc
  rw [List.drop_eq_getElem_cons hl, h4, flA, if_pos rfl] at h
  rw [h, show (l.take (i + 1)).drop (i + 1) = [] from List.drop_eq_nil_of_le (by rw [List.length_take]; omega), List.append_assoc]
  split <;> simp
theorem part_nil {l : List UInt8} {b i : Nat} (hb : b ≤ i) (hi : i ≤ l.length) : ((l.take i).drop b = []) = (b = i) := by
  apply propext
  rw [List.drop_eq_nil_iff, List.length_take]
  omega
theorem extract_list (s : ByteArray) (b i : Nat) : (s.extract b i).data.toList = (s.data.toList.take i).drop b := by
  rw [ByteArray.data_extract]; simp [List.extract, List.drop_take]
end Go.Proofs.YtcafecpiijmkoaaDoor
