/- Decimal texts, with no program in sight: the digits' value, the text of thousandths. -/
import Derived.Lib.ItoaNum
import Derived.Lib.ItoaMem
namespace Go.Proofs.YtcafecpiijmkoaaDoor
open Go

/-- the value of a row of figures -/
def dval (l : List UInt8) : Nat := l.foldl (fun n c => 10 * n + (c.toNat - 48)) 0
def isDig (c : UInt8) : Prop := 48 ≤ c.toNat ∧ c.toNat ≤ 57

theorem dval_snoc (l : List UInt8) (c : UInt8) : dval (l ++ [c]) = 10 * dval l + (c.toNat - 48) := by simp [dval]
theorem dig_nat (d : Nat) (h : d < 10) : (UInt8.ofNat (48 + d)).toNat = 48 + d := by simp; omega
theorem decDigits_step {u : Nat} (h : ¬ u < 10) : Lib.decDigits u = Lib.decDigits (u / 10) ++ [UInt8.ofNat (48 + u % 10)] := by
  conv => lhs; rw [Lib.decDigits]
  rw [dif_neg h]
theorem dval_decDigits (u : Nat) : dval (Lib.decDigits u) = u := by
  induction u using Nat.strongRecOn with
  | _ u ih =>
    by_cases h : u < 10
    · rw [Lib.decDigits_one h]; simp [dval]; omega
    · rw [decDigits_step h, dval_snoc, ih (u / 10) (by omega), dig_nat _ (by omega)]; omega
theorem isDig_decDigits (u : Nat) : ∀ c ∈ Lib.decDigits u, isDig c := by
  induction u using Nat.strongRecOn with
  | _ u ih =>
    by_cases h : u < 10
    · rw [Lib.decDigits_one h]; intro c hc; rw [List.mem_singleton.1 hc]
      unfold isDig; rw [dig_nat _ h]; omega
    · rw [decDigits_step h]
      intro c hc
      rcases List.mem_append.1 hc with hc | hc
      · exact ih (u / 10) (by omega) c hc
      · rw [List.mem_singleton.1 hc]
        unfold isDig; rw [dig_nat _ (by omega)]; omega
theorem decDigits_len_le {u k : Nat} (hk : 1 ≤ k) (h : u < 10 ^ k) : (Lib.decDigits u).length ≤ k := by
  rw [Lib.decDigits_length]
  have h1 := Lib.nDigits_pos u
  obtain ⟨m, hm⟩ : ∃ m, Lib.nDigits u = m + 1 := ⟨_, (Nat.succ_pred_eq_of_pos h1).symm⟩
  by_cases hle : Lib.nDigits u ≤ k
  · exact hle
  · exfalso
    by_cases hu : u < 10
    · rw [Lib.nDigits_small hu] at hle; omega
    · have : ∀ v : Nat, ¬ v < 10 → 10 ^ (Lib.nDigits v - 1) ≤ v := by
        intro v
        induction v using Nat.strongRecOn with
        | _ v ih =>
          intro hv
          rw [Lib.nDigits_big hv]
          by_cases h2 : v / 10 < 10
          · rw [Lib.nDigits_small h2]; simp; omega
          · have := ih (v / 10) (by omega) h2
            have h3 := Lib.nDigits_pos (v / 10)
            obtain ⟨q, hq⟩ : ∃ q, Lib.nDigits (v / 10) = q + 1 := ⟨_, (Nat.succ_pred_eq_of_pos h3).symm⟩
            rw [hq] at this ⊢
            simp only [Nat.add_sub_cancel] at this ⊢
            rw [Nat.pow_succ]; omega
      have h4 := this u hu
      have h5 : 10 ^ k ≤ 10 ^ (Lib.nDigits u - 1) := Nat.pow_le_pow_right (by decide) (by omega)
      omega
theorem decDigits_pos (u : Nat) : 1 ≤ (Lib.decDigits u).length := by rw [Lib.decDigits_length]; exact Lib.nDigits_pos u
theorem decDigits_inj {u v : Nat} (h : Lib.decDigits u = Lib.decDigits v) : u = v := by
  rw [← dval_decDigits u, h, dval_decDigits]
theorem decDigits_head_ne (u : Nat) {c : UInt8} {r : List UInt8} (h : Lib.decDigits u = c :: r) : c ≠ 45 := by
  have := isDig_decDigits u c (by rw [h]; exact List.mem_cons_self)
  rintro rfl
  exact absurd this.1 (by decide)
theorem itoa_inj {m n : Int} (h : Lib.itoa m = Lib.itoa n) : m = n := by
  unfold Lib.itoa at h
  by_cases hm : m < 0 <;> by_cases hn : n < 0
  · rw [if_pos hm, if_pos hn] at h; have := decDigits_inj (List.cons.inj h).2; omega
  · rw [if_pos hm, if_neg hn] at h; exact absurd rfl (decDigits_head_ne _ h.symm)
  · rw [if_neg hm, if_pos hn] at h; exact absurd rfl (decDigits_head_ne _ h)
  · rw [if_neg hm, if_neg hn] at h; have := decDigits_inj h; omega

/-- three figures -/
def d3 (r : Nat) : List UInt8 := [UInt8.ofNat (48 + r / 100), UInt8.ofNat (48 + r / 10 % 10), UInt8.ofNat (48 + r % 10)]
/-- a row of figures with noughts ahead, to three -/
def pad3 (l : List UInt8) : List UInt8 := List.replicate (3 - l.length) 48 ++ l
theorem pad3_dec (r : Nat) (h : r < 1000) : pad3 (Lib.decDigits r) = d3 r := by
  by_cases h1 : r < 10
  · rw [Lib.decDigits_one h1]
    have e1 : r / 100 = 0 := by omega
    have e2 : r / 10 % 10 = 0 := by omega
    have e3 : r % 10 = r := by omega
    simp [pad3, d3, e1, e2, e3]
  · by_cases h2 : r < 100
    · rw [Lib.decDigits_two h1 h2]
      have e1 : r / 100 = 0 := by omega
      have e2 : r / 10 % 10 = r / 10 := by omega
      simp [pad3, d3, e1, e2]
    · rw [decDigits_step (by omega), Lib.decDigits_two (by omega) (by omega)]
      have e1 : r / 10 / 10 = r / 100 := by omega
      simp [pad3, d3, e1]
theorem pad3_step (l : List UInt8) (h : l.length < 3) : pad3 (48 :: l) = pad3 l := by
  unfold pad3
  rw [List.length_cons, show 3 - l.length = (3 - (l.length + 1)) + 1 by omega, List.replicate_succ', List.append_assoc]
  rfl
theorem pad3_done (l : List UInt8) (h : 3 ≤ l.length) : pad3 l = l := by
  unfold pad3
  rw [show 3 - l.length = 0 by omega]; rfl
theorem dec_1000 (r : Nat) (h : r < 1000) : Lib.decDigits (1000 + r) = 49 :: d3 r := by
  rw [decDigits_step (by omega), decDigits_step (by omega), Lib.decDigits_two (by omega) (by omega)]
  have e1 : (1000 + r) / 10 / 10 / 10 = 1 := by omega
  have e2 : (1000 + r) / 10 / 10 % 10 = r / 100 := by omega
  have e3 : (1000 + r) / 10 % 10 = r / 10 % 10 := by omega
  have e4 : (1000 + r) % 10 = r % 10 := by omega
  simp [d3, e1, e2, e3, e4]
theorem isDig_d3 (r : Nat) (h : r < 1000) : ∀ c ∈ d3 r, isDig c := by
  intro c hc
  simp only [d3, List.mem_cons, List.not_mem_nil, or_false] at hc
  rcases hc with rfl | rfl | rfl
  all_goals (unfold isDig; rw [dig_nat _ (by omega)]; omega)
theorem dval_app3 (l : List UInt8) (r : Nat) (h : r < 1000) : dval (l ++ d3 r) = 1000 * dval l + r := by
  have e : l ++ d3 r = ((l ++ [UInt8.ofNat (48 + r / 100)]) ++ [UInt8.ofNat (48 + r / 10 % 10)]) ++ [UInt8.ofNat (48 + r % 10)] := by simp [d3]
  rw [e, dval_snoc, dval_snoc, dval_snoc, dig_nat _ (by omega), dig_nat _ (by omega), dig_nat _ (by omega)]
  omega

/-- the part behind the sign -/
def fixU (u : Nat) : List UInt8 := Lib.decDigits (u / 1000) ++ 46 :: d3 (u % 1000)
/-- the text of a number of thousandths -/
def fixL (n : Int) : List UInt8 := if n < 0 then 45 :: fixU n.natAbs else fixU n.natAbs
def fixB (n : Int) : ByteArray := if -1000000000 ≤ n ∧ n ≤ 1000000000 then ⟨(fixL n).toArray⟩ else ⟨#[]⟩

theorem filter_dig {l : List UInt8} (h : ∀ c ∈ l, isDig c) : l.filter (· != 46) = l := by
  rw [List.filter_eq_self]
  intro c hc
  have := h c hc
  simp only [bne_iff_ne, ne_eq]
  rintro rfl
  exact absurd this.1 (by decide)
theorem fixU_val (u : Nat) : dval ((fixU u).filter (· != 46)) = u := by
  unfold fixU
  rw [List.filter_append, filter_dig (isDig_decDigits _), List.filter_cons_of_neg (by decide), filter_dig (isDig_d3 _ (by omega)), dval_app3 _ _ (by omega), dval_decDigits]
  omega
theorem fixU_inj {u v : Nat} (h : fixU u = fixU v) : u = v := by rw [← fixU_val u, h, fixU_val]
theorem fixU_head (u : Nat) {c : UInt8} {r : List UInt8} (h : fixU u = c :: r) : c ≠ 45 := by
  unfold fixU at h
  cases hd : Lib.decDigits (u / 1000) with
  | nil => have := decDigits_pos (u / 1000); rw [hd] at this; simp at this
  | cons x y =>
    rw [hd, List.cons_append] at h
    have := decDigits_head_ne _ hd
    rw [← (List.cons.inj h).1]; exact this
theorem fixL_inj {m n : Int} (h : fixL m = fixL n) : m = n := by
  unfold fixL at h
  by_cases hm : m < 0 <;> by_cases hn : n < 0
  · rw [if_pos hm, if_pos hn] at h; have := fixU_inj (List.cons.inj h).2; omega
  · rw [if_pos hm, if_neg hn] at h; exact absurd rfl (fixU_head _ h.symm)
  · rw [if_neg hm, if_pos hn] at h; exact absurd rfl (fixU_head _ h)
  · rw [if_neg hm, if_neg hn] at h; have := fixU_inj h; omega
theorem fixU_len (u : Nat) : (fixU u).length = (Lib.decDigits (u / 1000)).length + 4 := by
  unfold fixU; rw [List.length_append, List.length_cons]; rfl
theorem fixU_len_le (u : Nat) (h : u ≤ 1000000000) : (fixU u).length ≤ 11 := by
  rw [fixU_len]
  have := decDigits_len_le (u := u / 1000) (k := 7) (by decide) (by omega)
  omega
theorem fixU_len_ge (u : Nat) : 5 ≤ (fixU u).length := by
  rw [fixU_len]
  have := decDigits_pos (u / 1000)
  omega
theorem fixU_dot (u : Nat) : (fixU u)[(Lib.decDigits (u / 1000)).length]? = some 46 := by
  unfold fixU; rw [List.getElem?_append_right (Nat.le_refl _), Nat.sub_self]; rfl
theorem fixU_dig (u k : Nat) (c : UInt8) (h : (fixU u)[k]? = some c) (hk : k ≠ (Lib.decDigits (u / 1000)).length) : isDig c := by
  unfold fixU at h
  by_cases h1 : k < (Lib.decDigits (u / 1000)).length
  · rw [List.getElem?_append_left h1] at h
    exact isDig_decDigits _ c (List.mem_of_getElem? h)
  · rw [List.getElem?_append_right (by omega)] at h
    obtain ⟨j, hj⟩ : ∃ j, k - (Lib.decDigits (u / 1000)).length = j + 1 := ⟨k - (Lib.decDigits (u / 1000)).length - 1, by omega⟩
    rw [hj, List.getElem?_cons_succ] at h
    exact isDig_d3 _ (by omega) c (List.mem_of_getElem? h)
/-- a text that is the text of a number of thousandths -/
def IsFix (n : Int) (s : ByteArray) : Prop := -1000000000 ≤ n ∧ n ≤ 1000000000 ∧ s.data.toList = fixL n
theorem IsFix.one {m n : Int} {s : ByteArray} (h : IsFix m s) (h' : IsFix n s) : m = n := fixL_inj (h.2.2.symm.trans h'.2.2)
theorem fixL_ne (n : Int) : fixL n ≠ [] := by
  have h5 := fixU_len_ge n.natAbs
  unfold fixL
  split
  · simp
  · intro h; rw [h] at h5; simp at h5
theorem isFix_fixB (n : Int) (s : ByteArray) (hs : s.data.toList ≠ []) (h : fixB n = s) : IsFix n s := by
  unfold fixB at h
  split at h
  · rename_i hn; subst h; exact ⟨hn.1, hn.2, rfl⟩
  · subst h; exact absurd rfl hs
theorem IsFix.fixB {n : Int} {s : ByteArray} (h : IsFix n s) : fixB n = s := by
  unfold Go.Proofs.YtcafecpiijmkoaaDoor.fixB
  rw [if_pos ⟨h.1, h.2.1⟩, ← h.2.2]
/-- a text that is the text of a number up to the greatest -/
def IsNum (u : Nat) (s : ByteArray) : Prop := u ≤ 1000000000 ∧ s.data.toList = Lib.decDigits u
theorem IsNum.one {m n : Nat} {s : ByteArray} (h : IsNum m s) (h' : IsNum n s) : m = n := decDigits_inj (h.2.symm.trans h'.2)
end Go.Proofs.YtcafecpiijmkoaaDoor
