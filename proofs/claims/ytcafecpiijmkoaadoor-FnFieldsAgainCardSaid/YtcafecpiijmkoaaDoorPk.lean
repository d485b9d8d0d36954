/- Texts of thousandths read back, with no program in sight. -/
import Derived.Test.YtcafecpiijmkoaaDoorTu
import Derived.Lib.Bytealg
namespace Go.Proofs.YtcafecpiijmkoaaDoor
open Go.RowKit

def PF (s : ByteArray) (n : Int) (ok : Bool) : Prop := (IsFix n s ∧ ok = true) ∨ ((∀ m, ¬ IsFix m s) ∧ n = 0 ∧ ok = false)
def PFe (s : ByteArray) (e : Ending) : Prop := ∃ n ok, e = .returned (.tuple #[.int .i64 n, .bool ok]) ∧ PF s n ok
theorem pfe {s : ByteArray} {n : Int} {ok : Bool} (h : PF s n ok) : PFe s (.returned (.tuple #[.int .i64 n, .bool ok])) := ⟨n, ok, rfl, h⟩
theorem PF.same {s : ByteArray} {m n : Int} {a b : Bool} (h : PF s m a) (g : PF s n b) : m = n ∧ a = b := by
  rcases h with ⟨h, rfl⟩ | ⟨h, rfl, rfl⟩ <;> rcases g with ⟨g, rfl⟩ | ⟨g, rfl, rfl⟩
  · exact ⟨h.one g, rfl⟩
  · exact absurd h (g _)
  · exact absurd g (h _)
  · exact ⟨rfl, rfl⟩
theorem beq_ba (a s : ByteArray) : (a.toList == s.toList) = decide (a = s) := by
  rw [beq_list, Go.ByteArray.toList_eq]

/-- the part behind the sign is the text of a number that is not negative -/
def IsU (u : Nat) (t : List UInt8) : Prop := u ≤ 1000000000 ∧ t = fixU u
/-- the text is sign and part: b says whether there is a sign -/
def Parts (s : ByteArray) (b : Bool) (t : List UInt8) : Prop := (b = true ∧ s.data.toList = 45 :: t) ∨ (b = false ∧ s.data.toList = t ∧ ∀ c r, t = c :: r → c ≠ 45)
theorem parts_fix {s : ByteArray} {b : Bool} {t : List UInt8} (h : Parts s b t) (m : Int) (hm : IsFix m s) : (m < 0 ↔ b = true) ∧ IsU m.natAbs t := by
  obtain ⟨m0, m1, he⟩ := hm
  unfold fixL at he
  rcases h with ⟨rfl, h⟩ | ⟨rfl, h, hne⟩
  · by_cases hneg : m < 0
    · rw [if_pos hneg, h] at he
      exact ⟨by simp [hneg], by omega, (List.cons.inj he).2⟩
    · rw [if_neg hneg, h] at he
      exact absurd rfl (fixU_head _ he.symm)
  · by_cases hneg : m < 0
    · rw [if_pos hneg, h] at he
      exact absurd rfl (hne _ _ he)
    · rw [if_neg hneg, h] at he
      exact ⟨by simp [hneg], by omega, he⟩
theorem parts_no {s : ByteArray} {b : Bool} {t : List UInt8} (h : Parts s b t) (hno : ∀ u, ¬ IsU u t) : PF s 0 false :=
  .inr ⟨fun m hm => hno _ (parts_fix h m hm).2, rfl, rfl⟩
def sgn (b : Bool) (N : Nat) : Int := if b = true then -(N : Int) else (N : Int)
theorem parts_end {s : ByteArray} {b : Bool} {t : List UInt8} (h : Parts s b t) (ht : t ≠ []) {N : Nat} (hv : dval (t.filter (· != 46)) = N) :
    (fixB (sgn b N) = s → PF s (sgn b N) true) ∧ (fixB (sgn b N) ≠ s → PF s 0 false) := by
  have hs : s.data.toList ≠ [] := by
    rcases h with ⟨rfl, h⟩ | ⟨rfl, h, hne⟩
    · rw [h]; simp
    · rw [h]; exact ht
  refine ⟨fun e => .inl ⟨isFix_fixB _ _ hs e, rfl⟩, fun e => .inr ⟨fun m hm => e ?_, rfl, rfl⟩⟩
  have hp := parts_fix h m hm
  have hval : m.natAbs = N := by rw [← hv, hp.2.2, fixU_val]
  have : sgn b N = m := by
    unfold sgn
    by_cases hb : b = true
    · rw [if_pos hb]; have := hp.1.2 hb; omega
    · rw [if_neg hb]
      have : ¬ m < 0 := fun h => hb (hp.1.1 h)
      omega
  rw [this]
  exact hm.fixB
theorem isU_dot {u : Nat} {t : List UInt8} (h : IsU u t) : ∃ k, 1 ≤ k ∧ k ≤ 7 ∧ t.length = k + 4 ∧ t[k]? = some 46 ∧ ∀ j c, t[j]? = some c → j ≠ k → isDig c := by
  obtain ⟨hu, rfl⟩ := h
  have h1 := decDigits_pos (u / 1000)
  have h2 := decDigits_len_le (u := u / 1000) (k := 7) (by omega) (by omega)
  exact ⟨_, h1, h2, fixU_len u, fixU_dot u, fun j c => fixU_dig u j c⟩
theorem index_of {t : List UInt8} {k : Nat} (hk : t[k]? = some 46) (hd : ∀ j c, t[j]? = some c → j ≠ k → isDig c) : Lib.indexByte t 46 = k := by
  induction t generalizing k with
  | nil => simp at hk
  | cons x r ih =>
    unfold Lib.indexByte
    match k, hk with
    | 0, hk => simp at hk; simp [hk]
    | k + 1, hk =>
      have hx : isDig x := hd 0 x rfl (by omega)
      have hne : (x == 46) = false := by
        rw [beq_eq_false_iff_ne]; rintro rfl; exact absurd hx.1 (by decide)
      have hr := ih (k := k) (by simpa using hk) (fun j c hj hjk => hd (j + 1) c (by simpa using hj) (by omega))
      simp only [hne, hr, Bool.false_eq_true, if_false]
      rw [if_neg (by simp)]; push_cast; rfl
theorem index_get {t : List UInt8} {k : Nat} (h : Lib.indexByte t 46 = k) : t[k]? = some 46 := by
  induction t generalizing k with
  | nil => simp [Lib.indexByte] at h
  | cons x r ih =>
    unfold Lib.indexByte at h
    by_cases hx : (x == 46) = true
    · rw [if_pos hx] at h
      obtain rfl : k = 0 := by omega
      simpa using hx
    · rw [if_neg hx] at h
      by_cases h1 : (Lib.indexByte r 46 == -1) = true
      · rw [if_pos h1] at h; omega
      · rw [if_neg h1] at h
        obtain ⟨j, rfl⟩ : ∃ j, k = j + 1 := ⟨k - 1, by have := Lib.indexByte_ge r 46; simp at h1; omega⟩
        simpa using ih (k := j) (by omega)
/-- the first test of the first side -/
theorem isU_index {u : Nat} {t : List UInt8} (h : IsU u t) : ∃ k : Nat, Lib.indexByte t 46 = k ∧ 1 ≤ k ∧ k ≤ 7 ∧ t.length = k + 4 ∧ ∀ j c, t[j]? = some c → j ≠ k → isDig c := by
  obtain ⟨k, h1, h2, h3, h4, h5⟩ := isU_dot h
  exact ⟨k, index_of h4 h5, h1, h2, h3, h5⟩
/-- the places ahead of j, the point left out: their value -/
def pv (t : List UInt8) (j : Nat) : Nat := dval ((t.take j).filter (· != 46))
theorem pv_zero (t : List UInt8) : pv t 0 = 0 := rfl
theorem pv_dot {t : List UInt8} {j : Nat} (h : t[j]? = some 46) : pv t (j + 1) = pv t j := by
  unfold pv
  rw [List.take_add_one, h]
  simp
theorem pv_dig {t : List UInt8} {j : Nat} {c : UInt8} (h : t[j]? = some c) (hd : isDig c) : pv t (j + 1) = 10 * pv t j + (c.toNat - 48) := by
  unfold pv
  have hne : (c != 46) = true := by
    simp only [bne_iff_ne, ne_eq]; rintro rfl; exact absurd hd.1 (by decide)
  rw [List.take_add_one, h]
  simp [hne, dval_snoc]
theorem pv_all (t : List UInt8) {j : Nat} (h : t.length ≤ j) : pv t j = dval (t.filter (· != 46)) := by
  unfold pv; rw [List.take_of_length_le h]
end Go.Proofs.YtcafecpiijmkoaaDoor
