/- ParseFixed of both sides. -/
import Derived.Test.YtcafecpiijmkoaaDoorTm
import Derived.Test.YtcafecpiijmkoaaDoorPk
namespace Go.Proofs.YtcafecpiijmkoaaDoor
open Go.RowKit

theorem parts_neg {s : ByteArray} (h0 : 0 < s.size) (h : s[0].toNat = 45) : Parts s true (s.extract 1 s.size).data.toList := by
  left
  refine ⟨rfl, ?_⟩
  rw [ByteArray.data_extract]
  match hs : s.data.toList with
  | [] => have : s.data.toList.length = s.size := by simp
          rw [hs] at this; simp at this; omega
  | x :: r =>
    have hl : 0 < s.data.toList.length := by rw [hs]; simp
    have hx : s.data.toList[0] = s[0] := by simp; rfl
    have e : x = s[0] := by rw [← hx]; simp [hs]
    have hx45 : x = 45 := by rw [e]; exact UInt8.toNat_inj.1 h
    have hsz : s.size = (x :: r).length := by rw [← hs]; simp
    rw [hx45]
    congr 1
    have : (s.data.extract 1 s.size).toList = (s.data.toList.drop 1).take (s.size - 1) := by simp [List.extract]
    rw [this, hs, hsz]
    simp
theorem parts_pos {s : ByteArray} (h : ∀ h0 : 0 < s.size, s[0].toNat ≠ 45) : Parts s false s.data.toList := by
  right
  refine ⟨rfl, rfl, fun c r hc => ?_⟩
  have hl : s.data.toList.length = s.size := by simp
  have h0 : 0 < s.size := by rw [← hl, hc]; simp
  have hx : s.data.toList[0]'(by omega) = s[0] := by simp; rfl
  have e : c = s[0] := by rw [← hx]; simp [hc]
  rintro rfl
  exact h h0 (by rw [← e]; rfl)

theorem empty_list {s : ByteArray} (h : s.size = 0) : s.data.toList = [] :=
  List.length_eq_zero_iff.1 (by have : s.data.toList.length = s.size := by simp
                                omega)
theorem isEmpty_t {s : ByteArray} (h : s.size = 0) : s.toList.isEmpty = true := by rw [Go.ByteArray.toList_eq, empty_list h]; rfl
theorem isEmpty_f {s : ByteArray} (h : ¬ s.size = 0) : s.toList.isEmpty = false := by
  rw [Go.ByteArray.toList_eq]
  cases hl : s.data.toList with
  | nil => have : s.data.toList.length = s.size := by simp
           rw [hl] at this; simp at this; omega
  | cons a r => rfl

theorem get_at {t : ByteArray} {j : Nat} (h : j < t.size) : t.data.toList[j]? = some t[j] := by
  have hl : j < t.data.toList.length := by simpa using h
  rw [List.getElem?_eq_getElem hl]; simp; rfl
theorem not_dig_at {t : ByteArray} {j C : Nat} (h : j < t.size) (hC : t[j].toNat = C) (hn : C < 48 ∨ 57 < C) (hd : isDig t[j]) : False := by
  unfold isDig at hd; omega
theorem dig_at {t : ByteArray} {j C : Nat} (h : j < t.size) (hC : t[j].toNat = C) (h1 : 48 ≤ C) (h2 : C ≤ 57) : isDig t[j] := ⟨by omega, by omega⟩
theorem pow_more {N j : Nat} (h : N < 10 ^ j) : N < 10 ^ (j + 1) := by rw [Nat.pow_succ]; omega
theorem pow_dig {N j c : Nat} (h : N < 10 ^ j) (hc : c ≤ 9) : 10 * N + c < 10 ^ (j + 1) := by rw [Nat.pow_succ]; omega
set_option maxHeartbeats 2000000 in
set_option maxRecDepth 100000 in
theorem iParseFixed {W w : World} (s : ByteArray) (hs : s.size ≤ 4000000000000000000) (hT : Tab W) (hB : Below W.heap.size W w) :
    Calls Tryd.prog 19 #[.string s] w fun e w' => PFe s e ∧ Below W.heap.size W w' := by
  have HB := hid hB
  have HT := hid hT
  clear hB hT
  by_cases h0 : s.size = 0
  · have hE : s.toList.isEmpty = true := isEmpty_t h0
    have hE' : Lib.indexByte s.data.toList 46 = -1 := by rw [empty_list h0]; rfl
    have HK := hid (parts_no (parts_pos (s := s) (fun h => by omega)) (fun u hu => by obtain ⟨k, hk, q1, q2, q3, q4⟩ := isU_index hu; omega))
    go_enter Tryd.func19, Tryd.ntmps19
    go_wp2_with fail
    refine (Tryd.strings_IndexByte s 46 _).mono ?_
    rintro e w1 ⟨rfl, rfl⟩
    rw [show Lib.indexByte s.data.toList (46 : Int).toNat.toUInt8 = -1 from hE']
    clear hE'
    go_wp2
    go_ret2
    exact ⟨pfe HK.out, HB.out⟩
  · have hE : s.toList.isEmpty = false := isEmpty_f h0
    have hp0 : 0 < s.size := by omega
    by_cases h45 : s[0].toNat = 45
    · obtain ⟨T, hx⟩ : ∃ T, s.extract 1 s.size = T := ⟨_, rfl⟩
      have HPa := hid (parts_neg hp0 h45)
      rw [hx] at HPa
      have hTs : T.size = s.size - 1 := by rw [← hx]; simp
      go_enter Tryd.func19, Tryd.ntmps19
      go_wp2_with fail
      go_region
      have HB := hid HB.out.drew
      go_wp2_with fail
      refine (Tryd.strings_IndexByte T 46 _).mono ?_
      rintro e w1 ⟨rfl, rfl⟩
      obtain ⟨I, hI⟩ : ∃ I, Lib.indexByte T.data.toList (46 : Int).toNat.toUInt8 = I := ⟨_, rfl⟩
      rw [hI]
      have hI' : Lib.indexByte T.data.toList 46 = I := hI
      have hge : -1 ≤ I := hI' ▸ Lib.indexByte_ge _ _
      clear hI
      by_cases h1 : I < 1
      · have HK := hid (parts_no HPa.out (fun u hu => by obtain ⟨k, hk, q1, q2, q3, q4⟩ := isU_index hu; omega))
        clear hI'
        go_wp2
        go_ret2
        exact ⟨pfe HK.out, HB.out⟩
      · obtain ⟨k, rfl⟩ : ∃ k : Nat, I = k := ⟨I.toNat, by omega⟩
        have hk46 := index_get hI'
        have hkT : k < T.data.toList.length := by
          by_cases h : k < T.data.toList.length
          · exact h
          · rw [List.getElem?_eq_none (by omega)] at hk46; cases hk46
        have hTl : T.data.toList.length = T.size := by simp
        have hk2 : k < T.size := by omega
        by_cases h2 : T.size = k + 4
        · have hz : ((T.size : Int) == (k : Int) + 4) = true := beq_iff_eq.2 (by omega)
          by_cases h3 : 7 < k
          · have HK := hid (parts_no HPa.out (fun u hu => by obtain ⟨k, hk, q1, q2, q3, q4⟩ := isU_index hu; omega))
            clear hI' hk46
            go_wp2
            go_ret2
            exact ⟨pfe HK.out, HB.out⟩
          · have HNo := hid (show ∀ u, IsU u T.data.toList → ∀ j c, T.data.toList[j]? = some c → j ≠ k → isDig c from fun u hu => by
              obtain ⟨k2, hk, q1, q2, q3, q4⟩ := isU_index hu
              obtain rfl : k2 = k := by omega
              exact q4)
            have H46 := hid hk46
            clear hI' hk46
            go_wp2
            go_loopw [7, 8] (fun nv jv wr => ∃ j N : Nat, j ≤ T.size ∧ jv = .int .i64 j ∧ nv = .int .i64 N ∧ Hid (N < 10 ^ j) ∧ Hid (pv T.data.toList j = N) ∧ Hid (Below W.heap.size W wr)) (fun _ jv _ => 12 - (intOf jv).toNat)
            case atStart => exact ⟨0, 0, by omega, rfl, rfl, (show (0 : Nat) < 10 ^ 0 by decide), rfl, HB.out⟩
            case round =>
              obtain ⟨j, N, hj, rfl, rfl, HN, HV, HB1⟩ := hrel
              have hN : N < 100000000000 := Nat.lt_of_lt_of_le HN.out (Nat.le_trans (Nat.pow_le_pow_right (by decide) (show j ≤ 11 by omega)) (by decide))
              by_cases hlt : j < T.size
              · by_cases hjk : j = k
                · subst hjk
                  go_wp2
                  go_roundw
                  case rel => exact ⟨j + 1, N, by omega, by go_num, rfl, pow_more HN.out, by show pv _ _ = _; rw [pv_dot H46.out]; exact HV.out, HB1.out⟩
                  case measure => (simp [intOf]; omega)
                · have hne : ((j : Int) == (k : Int)) = false := beq_eq_false_iff_ne.2 (by omega)
                  obtain ⟨C, hC⟩ : ∃ C : Nat, T[j].toNat = C := ⟨_, rfl⟩
                  have hC2 : C < 256 := by rw [← hC]; exact T[j].toNat_lt
                  by_cases g1 : C < 48
                  · have HK := hid (parts_no HPa.out (fun u hu => not_dig_at hlt hC (.inl g1) (HNo.out u hu j _ (get_at hlt) hjk)))
                    go_wp2
                    go_ret2
                    exact ⟨pfe HK.out, HB1.out⟩
                  · by_cases g2 : 57 < C
                    · have HK := hid (parts_no HPa.out (fun u hu => not_dig_at hlt hC (.inr g2) (HNo.out u hu j _ (get_at hlt) hjk)))
                      go_wp2
                      go_ret2
                      exact ⟨pfe HK.out, HB1.out⟩
                    · have HS := hid (pv_dig (get_at hlt) (dig_at hlt hC (by omega) (by omega)))
                      go_wp2
                      go_roundw
                      case rel => exact ⟨j + 1, 10 * N + (C - 48), by omega, by go_num, by go_num, pow_dig HN.out (by omega), by have h := HS.out; rw [HV.out, hC] at h; exact h, HB1.out⟩
                      case measure => (simp [intOf]; omega)
              · obtain rfl : j = T.size := by omega
                have hv := HV.out
                rw [pv_all _ (by omega)] at hv
                have HE := hid (parts_end HPa.out (by intro h; rw [h] at hkT; simp at hkT) hv)
                clear hv
                go_wp2_with fail
                refine (iFormatFixed (-(N : Int)) (by omega) (by omega) HT.out HB1.out).mono ?_
                rintro e w2 ⟨rfl, hB2⟩
                have HB2 := hid hB2
                clear hB2
                by_cases heq : fixB (-(N : Int)) = s
                · have HK := hid (show PF s (-(N : Int)) true from HE.out.1 heq)
                  have hq : ((fixB (-(N : Int))).toList == s.toList) = true := by rw [beq_ba]; exact decide_eq_true heq
                  go_wp2
                  go_ret2
                  exact ⟨pfe HK.out, HB2.out⟩
                · have HK := hid (HE.out.2 heq)
                  have hq : ((fixB (-(N : Int))).toList == s.toList) = false := by rw [beq_ba]; exact decide_eq_false heq
                  go_wp2
                  go_ret2
                  exact ⟨pfe HK.out, HB2.out⟩
        · have hz : ((T.size : Int) == (k : Int) + 4) = false := beq_eq_false_iff_ne.2 (by omega)
          have HK := hid (parts_no HPa.out (fun u hu => by obtain ⟨k, hk, q1, q2, q3, q4⟩ := isU_index hu; omega))
          clear hI' hk46
          go_wp2
          go_ret2
          exact ⟨pfe HK.out, HB.out⟩
    · have HPa := hid (parts_pos (s := s) (fun _ => h45))
      go_enter Tryd.func19, Tryd.ntmps19
      go_wp2_with fail
      refine (Tryd.strings_IndexByte s 46 _).mono ?_
      rintro e w1 ⟨rfl, rfl⟩
      obtain ⟨I, hI⟩ : ∃ I, Lib.indexByte s.data.toList (46 : Int).toNat.toUInt8 = I := ⟨_, rfl⟩
      rw [hI]
      have hI' : Lib.indexByte s.data.toList 46 = I := hI
      have hge : -1 ≤ I := hI' ▸ Lib.indexByte_ge _ _
      clear hI
      by_cases h1 : I < 1
      · have HK := hid (parts_no HPa.out (fun u hu => by obtain ⟨k, hk, q1, q2, q3, q4⟩ := isU_index hu; omega))
        clear hI'
        go_wp2
        go_ret2
        exact ⟨pfe HK.out, HB.out⟩
      · obtain ⟨k, rfl⟩ : ∃ k : Nat, I = k := ⟨I.toNat, by omega⟩
        have hk46 := index_get hI'
        have hkT : k < s.data.toList.length := by
          by_cases h : k < s.data.toList.length
          · exact h
          · rw [List.getElem?_eq_none (by omega)] at hk46; cases hk46
        have hTl : s.data.toList.length = s.size := by simp
        have hk2 : k < s.size := by omega
        by_cases h2 : s.size = k + 4
        · have hz : ((s.size : Int) == (k : Int) + 4) = true := beq_iff_eq.2 (by omega)
          by_cases h3 : 7 < k
          · have HK := hid (parts_no HPa.out (fun u hu => by obtain ⟨k, hk, q1, q2, q3, q4⟩ := isU_index hu; omega))
            clear hI' hk46
            go_wp2
            go_ret2
            exact ⟨pfe HK.out, HB.out⟩
          · have HNo := hid (show ∀ u, IsU u s.data.toList → ∀ j c, s.data.toList[j]? = some c → j ≠ k → isDig c from fun u hu => by
              obtain ⟨k2, hk, q1, q2, q3, q4⟩ := isU_index hu
              obtain rfl : k2 = k := by omega
              exact q4)
            have H46 := hid hk46
            clear hI' hk46
            go_wp2
            go_loopw [7, 8] (fun nv jv wr => ∃ j N : Nat, j ≤ s.size ∧ jv = .int .i64 j ∧ nv = .int .i64 N ∧ Hid (N < 10 ^ j) ∧ Hid (pv s.data.toList j = N) ∧ Hid (Below W.heap.size W wr)) (fun _ jv _ => 12 - (intOf jv).toNat)
            case atStart => exact ⟨0, 0, by omega, rfl, rfl, (show (0 : Nat) < 10 ^ 0 by decide), rfl, HB.out⟩
            case round =>
              obtain ⟨j, N, hj, rfl, rfl, HN, HV, HB1⟩ := hrel
              have hN : N < 100000000000 := Nat.lt_of_lt_of_le HN.out (Nat.le_trans (Nat.pow_le_pow_right (by decide) (show j ≤ 11 by omega)) (by decide))
              by_cases hlt : j < s.size
              · by_cases hjk : j = k
                · subst hjk
                  go_wp2
                  go_roundw
                  case rel => exact ⟨j + 1, N, by omega, by go_num, rfl, pow_more HN.out, by show pv _ _ = _; rw [pv_dot H46.out]; exact HV.out, HB1.out⟩
                  case measure => (simp [intOf]; omega)
                · have hne : ((j : Int) == (k : Int)) = false := beq_eq_false_iff_ne.2 (by omega)
                  obtain ⟨C, hC⟩ : ∃ C : Nat, s[j].toNat = C := ⟨_, rfl⟩
                  have hC2 : C < 256 := by rw [← hC]; exact s[j].toNat_lt
                  by_cases g1 : C < 48
                  · have HK := hid (parts_no HPa.out (fun u hu => not_dig_at hlt hC (.inl g1) (HNo.out u hu j _ (get_at hlt) hjk)))
                    go_wp2
                    go_ret2
                    exact ⟨pfe HK.out, HB1.out⟩
                  · by_cases g2 : 57 < C
                    · have HK := hid (parts_no HPa.out (fun u hu => not_dig_at hlt hC (.inr g2) (HNo.out u hu j _ (get_at hlt) hjk)))
                      go_wp2
                      go_ret2
                      exact ⟨pfe HK.out, HB1.out⟩
                    · have HS := hid (pv_dig (get_at hlt) (dig_at hlt hC (by omega) (by omega)))
                      go_wp2
                      go_roundw
                      case rel => exact ⟨j + 1, 10 * N + (C - 48), by omega, by go_num, by go_num, pow_dig HN.out (by omega), by have h := HS.out; rw [HV.out, hC] at h; exact h, HB1.out⟩
                      case measure => (simp [intOf]; omega)
              · obtain rfl : j = s.size := by omega
                have hv := HV.out
                rw [pv_all _ (by omega)] at hv
                have HE := hid (parts_end HPa.out (by intro h; rw [h] at hkT; simp at hkT) hv)
                clear hv
                go_wp2_with fail
                refine (iFormatFixed (N : Int) (by omega) (by omega) HT.out HB1.out).mono ?_
                rintro e w2 ⟨rfl, hB2⟩
                have HB2 := hid hB2
                clear hB2
                by_cases heq : fixB (N : Int) = s
                · have HK := hid (show PF s (N : Int) true from HE.out.1 heq)
                  have hq : ((fixB (N : Int)).toList == s.toList) = true := by rw [beq_ba]; exact decide_eq_true heq
                  go_wp2
                  go_ret2
                  exact ⟨pfe HK.out, HB2.out⟩
                · have HK := hid (HE.out.2 heq)
                  have hq : ((fixB (N : Int)).toList == s.toList) = false := by rw [beq_ba]; exact decide_eq_false heq
                  go_wp2
                  go_ret2
                  exact ⟨pfe HK.out, HB2.out⟩
        · have hz : ((s.size : Int) == (k : Int) + 4) = false := beq_eq_false_iff_ne.2 (by omega)
          have HK := hid (parts_no HPa.out (fun u hu => by obtain ⟨k, hk, q1, q2, q3, q4⟩ := isU_index hu; omega))
          clear hI' hk46
          go_wp2
          go_ret2
          exact ⟨pfe HK.out, HB.out⟩
end Go.Proofs.YtcafecpiijmkoaaDoor
