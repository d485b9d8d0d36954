/- ParseUint of both sides. -/
import Derived.Test.YtcafecpiijmkoaaDoorTj
namespace Go.Proofs.YtcafecpiijmkoaaDoor
open Go.RowKit

def chr (s : ByteArray) (i : Nat) : UInt8 := s.data.toList.getD i 0
theorem chr_eq (s : ByteArray) (i : Nat) (h : i < s.size) : chr s i = s[i] := by
  have hl : i < s.data.toList.length := by simpa using h
  rw [chr, List.getD_eq_getElem?_getD, List.getElem?_eq_getElem hl]
  simp; rfl
theorem take_chr (s : ByteArray) (i : Nat) (h : i < s.size) : s.data.toList.take (i + 1) = s.data.toList.take i ++ [chr s i] := by
  have hl : i < s.data.toList.length := by simpa using h
  rw [List.take_succ_eq_append_getElem hl, chr, List.getD_eq_getElem?_getD, List.getElem?_eq_getElem hl]; rfl
theorem take_len (s : ByteArray) (i : Nat) (h : i ≤ s.size) : (s.data.toList.take i).length = i := by
  rw [List.length_take]; have : s.data.toList.length = s.size := by simp
  omega
/-- what both sides answer -/
def PU (s : ByteArray) (n : Int) (ok : Bool) : Prop := (∃ u : Nat, IsNum u s ∧ n = u ∧ ok = true) ∨ ((¬ ∃ u : Nat, IsNum u s) ∧ n = 0 ∧ ok = false)
def PUe (s : ByteArray) (e : Ending) : Prop := ∃ n ok, e = .returned (.tuple #[.int .i64 n, .bool ok]) ∧ PU s n ok
theorem pue {s : ByteArray} {n : Int} {ok : Bool} (h : PU s n ok) : PUe s (.returned (.tuple #[.int .i64 n, .bool ok])) := ⟨n, ok, rfl, h⟩
theorem beq_list (L : List UInt8) (s : ByteArray) : (L == s.toList) = decide ((⟨L.toArray⟩ : ByteArray) = s) := by
  by_cases h : (⟨L.toArray⟩ : ByteArray) = s
  · subst h; simp
  · have : ¬ L = s.toList := by
      intro e; apply h; rw [Go.ByteArray.toList_eq] at e; rw [e]
    simp [h, this]
theorem PU.same {s : ByteArray} {m n : Int} {a b : Bool} (h : PU s m a) (g : PU s n b) : m = n ∧ a = b := by
  rcases h with ⟨u, h, rfl, rfl⟩ | ⟨h, rfl, rfl⟩ <;> rcases g with ⟨v, g, rfl, rfl⟩ | ⟨g, rfl, rfl⟩
  · exact ⟨by rw [h.one g], rfl⟩
  · exact absurd ⟨_, h⟩ g
  · exact absurd ⟨_, g⟩ h
  · exact ⟨rfl, rfl⟩

theorem dval_lt (l : List UInt8) (h : ∀ c ∈ l, isDig c) : dval l < 10 ^ l.length := by
  obtain ⟨k, hk⟩ : ∃ k, l.length = k := ⟨_, rfl⟩
  induction k generalizing l with
  | zero => obtain rfl := List.length_eq_zero_iff.1 hk; decide
  | succ k ih =>
    have hne : l ≠ [] := by rintro rfl; simp at hk
    obtain ⟨m, c, rfl⟩ : ∃ m c, l = m ++ [c] := ⟨l.dropLast, l.getLast hne, (List.dropLast_concat_getLast hne).symm⟩
    have hk' : m.length = k := by simpa using hk
    have h1 := ih m (fun x hx => h x (List.mem_append_left _ hx)) hk'
    have h2 := h c (List.mem_append_right _ (List.mem_singleton.2 rfl))
    rw [dval_snoc, List.length_append, List.length_singleton, Nat.pow_succ]
    have := h2.2
    omega
theorem dval_ten (l : List UInt8) (h : ∀ c ∈ l, isDig c) (hl : l.length ≤ 10) : dval l < 10000000000 :=
  Nat.lt_of_lt_of_le (dval_lt l h) (Nat.le_trans (Nat.pow_le_pow_right (by decide) hl) (by decide))
theorem IsNum.dig {u : Nat} {s : ByteArray} (h : IsNum u s) (j : Nat) (hj : j < s.size) : isDig (chr s j) := by
  have hl : j < s.data.toList.length := by simpa using hj
  refine isDig_decDigits u _ ?_
  rw [← h.2, chr, List.getD_eq_getElem?_getD, List.getElem?_eq_getElem hl]
  exact List.getElem_mem _
theorem dig_step {s : ByteArray} {j C : Nat} (hlt : j < s.size) (hC : s[j].toNat = C) (h1 : 48 ≤ C) (h2 : C ≤ 57) (hd : ∀ c ∈ s.data.toList.take j, isDig c) :
    (∀ c ∈ s.data.toList.take (j + 1), isDig c) ∧ dval (s.data.toList.take (j + 1)) = 10 * dval (s.data.toList.take j) + (C - 48) := by
  have e : (chr s j).toNat = C := by rw [chr_eq s j hlt, hC]
  rw [take_chr s j hlt]
  refine ⟨fun c hc => ?_, by rw [dval_snoc, e]⟩
  rcases List.mem_append.1 hc with h | h
  · exact hd c h
  · rw [List.mem_singleton.1 h]; exact ⟨by omega, by omega⟩
theorem pu_no_dig {s : ByteArray} {j C : Nat} (hlt : j < s.size) (hC : s[j].toNat = C) (h : C < 48 ∨ 57 < C) : PU s 0 false := by
  refine .inr ⟨?_, rfl, rfl⟩
  rintro ⟨u, hu⟩
  have := hu.dig j hlt
  rw [chr_eq s j hlt] at this
  unfold isDig at this
  omega
theorem pu_end {s : ByteArray} {n : Nat} (hn : dval s.data.toList = n) : (1000000000 < n → PU s 0 false) ∧ (n ≤ 1000000000 → (⟨(Lib.itoa (n : Int)).toArray⟩ : ByteArray) = s → PU s n true) ∧ ((⟨(Lib.itoa (n : Int)).toArray⟩ : ByteArray) ≠ s → PU s 0 false) := by
  refine ⟨fun h => .inr ⟨?_, rfl, rfl⟩, fun h e => .inl ⟨n, ⟨h, ?_⟩, rfl, rfl⟩, fun h => .inr ⟨?_, rfl, rfl⟩⟩
  · rintro ⟨u, hu, he⟩
    rw [he, dval_decDigits] at hn
    omega
  · rw [← e, Lib.itoa_nonneg]
  · rintro ⟨u, hu, he⟩
    rw [he, dval_decDigits] at hn
    subst hn
    refine h ?_
    rw [Lib.itoa_nonneg, ← he]

set_option maxHeartbeats 1000000 in
set_option maxRecDepth 100000 in
theorem iParseUint {W w : World} (s : ByteArray) (hs : s.size ≤ 9223372036854775807) (hT : Tab W) (hB : Below W.heap.size W w) :
    Calls Tryd.prog 28 #[.string s] w fun e w' => PUe s e ∧ Below W.heap.size W w' := by
  have HB := hid hB
  have HT := hid hT
  clear hB hT
  by_cases hl : s.size = 0 ∨ s.size > 10
  · have hno : ¬ ∃ u : Nat, IsNum u s := by
      rintro ⟨u, hu, he⟩
      have h1 := congrArg List.length he
      have h2 := decDigits_pos u
      have h3 := decDigits_len_le (u := u) (k := 10) (by omega) (by omega)
      simp at h1
      omega
    have HN := hid hno
    clear hno
    rcases hl with hl | hl
    · have hz : ((s.size : Int) == 0) = true := by simp [hl]
      go_enter Tryd.func28, Tryd.ntmps28
      go_wp2
      go_ret2
      exact ⟨pue (.inr ⟨HN.out, rfl, rfl⟩), HB.out⟩
    · have hz : ((s.size : Int) == 0) = false := beq_eq_false_iff_ne.2 (by omega)
      go_enter Tryd.func28, Tryd.ntmps28
      go_wp2
      go_ret2
      exact ⟨pue (.inr ⟨HN.out, rfl, rfl⟩), HB.out⟩
  · have hl0 : 0 < s.size := by omega
    have hl1 : s.size ≤ 10 := by omega
    clear hl
    have hz : ((s.size : Int) == 0) = false := beq_eq_false_iff_ne.2 (by omega)
    go_enter Tryd.func28, Tryd.ntmps28
    go_wp2_with fail
    go_loopw [4, 5] (fun nv i wr => ∃ j N : Nat, j ≤ s.size ∧ i = .int .i64 j ∧ nv = .int .i64 N ∧ N < 10000000000 ∧ Hid (∀ c ∈ s.data.toList.take j, isDig c) ∧ Hid (dval (s.data.toList.take j) = N) ∧ Hid (Below W.heap.size W wr)) (fun _ i _ => 11 - (intOf i).toNat)
    case atStart => exact ⟨0, 0, by omega, rfl, rfl, by omega, fun c hc => by simp at hc, rfl, HB.out⟩
    case round =>
      obtain ⟨j, N, hj, rfl, rfl, hN, HD, HV, HB1⟩ := hrel
      by_cases hlt : j < s.size
      · obtain ⟨C, hC⟩ : ∃ C : Nat, s[j].toNat = C := ⟨_, rfl⟩
        have hC2 : C < 256 := by rw [← hC]; exact s[j].toNat_lt
        by_cases h1 : C < 48
        · have HN := hid (pu_no_dig hlt hC (.inl h1))
          go_wp2
          go_ret2
          exact ⟨pue HN.out, HB1.out⟩
        · by_cases h2 : 57 < C
          · have HN := hid (pu_no_dig hlt hC (.inr h2))
            go_wp2
            go_ret2
            exact ⟨pue HN.out, HB1.out⟩
          · have HS := hid (dig_step hlt hC (by omega) (by omega) HD.out)
            go_wp2
            go_roundw
            case rel =>
              refine ⟨j + 1, 10 * N + (C - 48), by omega, by go_num, by go_num, ?_, HS.out.1, by rw [← HV.out]; exact HS.out.2, HB1.out⟩
              have := dval_ten _ HS.out.1 (by rw [take_len s (j + 1) (by omega)]; omega)
              rw [HS.out.2, HV.out] at this
              exact this
            case measure => (simp [intOf]; omega)
      · obtain rfl : j = s.size := by omega
        have hv := HV.out
        rw [List.take_of_length_le (by simp)] at hv
        have HE := hid (pu_end hv)
        clear hv
        by_cases hbig : 1000000000 < N
        · go_wp2
          go_ret2
          exact ⟨pue (HE.out.1 hbig), HB1.out⟩
        · go_wp2_with fail
          refine (iFI (N : Int) (by omega) (by omega) HT.out HB1.out).mono ?_
          rintro e w1 ⟨rfl, hB2⟩
          have HB2 := hid hB2
          clear hB2
          by_cases heq : (⟨(Lib.itoa (N : Int)).toArray⟩ : ByteArray) = s
          · have HK := hid (HE.out.2.1 (by omega) heq)
            go_wp2
            go_ret2
            exact ⟨pue HK.out, HB2.out⟩
          · have HK := hid (HE.out.2.2 heq)
            have hq : (Lib.itoa (N : Int) == s.toList) = false := by rw [beq_list]; exact decide_eq_false heq
            go_wp2
            go_ret2
            exact ⟨pue HK.out, HB2.out⟩

set_option maxHeartbeats 1000000 in
set_option maxRecDepth 100000 in
theorem sParseUint {W w : World} (s : ByteArray) (hs : s.size ≤ 9223372036854775807) (hB : Below W.heap.size W w) :
    Calls Tryd.prog 27 #[.string s] w fun e w' => PUe s e ∧ Below W.heap.size W w' := by
  have HB := hid hB
  clear hB
  by_cases hl : s.size > 10
  · have hno : ¬ ∃ u : Nat, IsNum u s := by
      rintro ⟨u, hu, he⟩
      have h1 := congrArg List.length he
      have h3 := decDigits_len_le (u := u) (k := 10) (by omega) (by omega)
      simp at h1
      omega
    have HN := hid hno
    clear hno
    go_enter Tryd.func27, Tryd.ntmps27
    go_wp2
    go_ret2
    exact ⟨pue (.inr ⟨HN.out, rfl, rfl⟩), HB.out⟩
  · have hl1 : s.size ≤ 10 := by omega
    clear hl
    go_enter Tryd.func27, Tryd.ntmps27
    go_wp2
    go_loopw [4, 5] (fun nv i wr => ∃ j N : Nat, j ≤ s.size ∧ i = .int .i64 j ∧ nv = .int .i64 N ∧ N < 10000000000 ∧ Hid (∀ c ∈ s.data.toList.take j, isDig c) ∧ Hid (dval (s.data.toList.take j) = N) ∧ Hid (Below W.heap.size W wr)) (fun _ i _ => 11 - (intOf i).toNat)
    case atStart => exact ⟨0, 0, by omega, rfl, rfl, by omega, fun c hc => by simp at hc, rfl, HB.out⟩
    case round =>
      obtain ⟨j, N, hj, rfl, rfl, hN, HD, HV, HB1⟩ := hrel
      by_cases hlt : j < s.size
      · obtain ⟨C, hC⟩ : ∃ C : Nat, s[j].toNat = C := ⟨_, rfl⟩
        have hC2 : C < 256 := by rw [← hC]; exact s[j].toNat_lt
        by_cases h1 : C < 48
        · have HN := hid (pu_no_dig hlt hC (.inl h1))
          go_wp2
          go_ret2
          exact ⟨pue HN.out, HB1.out⟩
        · by_cases h2 : 57 < C
          · have HN := hid (pu_no_dig hlt hC (.inr h2))
            go_wp2
            go_ret2
            exact ⟨pue HN.out, HB1.out⟩
          · have HS := hid (dig_step hlt hC (by omega) (by omega) HD.out)
            go_wp2
            go_roundw
            case rel =>
              refine ⟨j + 1, 10 * N + (C - 48), by omega, by go_num, by go_num, ?_, HS.out.1, by rw [← HV.out]; exact HS.out.2, HB1.out⟩
              have := dval_ten _ HS.out.1 (by rw [take_len s (j + 1) (by omega)]; omega)
              rw [HS.out.2, HV.out] at this
              exact this
            case measure => (simp [intOf]; omega)
      · obtain rfl : j = s.size := by omega
        have hv := HV.out
        rw [List.take_of_length_le (by simp)] at hv
        have HE := hid (pu_end hv)
        clear hv
        by_cases hbig : 1000000000 < N
        · go_wp2
          go_ret2
          exact ⟨pue (HE.out.1 hbig), HB1.out⟩
        · go_wp2_with fail
          refine (sFI (N : Int) (by omega) (by omega) HB1.out).mono ?_
          rintro e w1 ⟨rfl, hB2⟩
          have HB2 := hid hB2
          clear hB2
          by_cases heq : (⟨(Lib.itoa (N : Int)).toArray⟩ : ByteArray) = s
          · have HK := hid (HE.out.2.1 (by omega) heq)
            go_wp2
            go_ret2
            exact ⟨pue HK.out, HB2.out⟩
          · have HK := hid (HE.out.2.2 heq)
            have hq : (Lib.itoa (N : Int) == s.toList) = false := by rw [beq_list]; exact decide_eq_false heq
            go_wp2
            go_ret2
            exact ⟨pue HK.out, HB2.out⟩
end Go.Proofs.YtcafecpiijmkoaaDoor
