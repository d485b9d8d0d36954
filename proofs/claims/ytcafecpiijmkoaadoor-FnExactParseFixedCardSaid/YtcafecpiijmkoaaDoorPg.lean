/- ParseFixed of the second side. -/
import Derived.Test.YtcafecpiijmkoaaDoorPf
namespace Go.Proofs.YtcafecpiijmkoaaDoor
open Go.RowKit

set_option maxHeartbeats 2000000 in
set_option maxRecDepth 100000 in
theorem sParseFixed {W w : World} (s : ByteArray) (hs : s.size ≤ 4000000000000000000) (hB : Below W.heap.size W w) :
    Calls Tryd.prog 34 #[.string s] w fun e w' => PFe s e ∧ Below W.heap.size W w' := by
  have HB := hid hB
  clear hB
  by_cases h0 : s.size = 0
  · have hE : s.toList.isEmpty = true := isEmpty_t h0
    have HK := hid (parts_no (parts_pos (s := s) (fun h => by omega)) (fun u hu => by obtain ⟨k, q1, q2, q3, q4, q5⟩ := isU_dot hu; rw [empty_list h0] at q4; simp at q4))
    go_enter Tryd.func34, Tryd.ntmps34
    go_wp2
    go_ret2
    exact ⟨pfe HK.out, HB.out⟩
  · have hE : s.toList.isEmpty = false := isEmpty_f h0
    have hp0 : 0 < s.size := by omega
    by_cases h45 : s[0].toNat = 45
    · obtain ⟨T, hx⟩ : ∃ T, s.extract 1 s.size = T := ⟨_, rfl⟩
      have HPa := hid (parts_neg hp0 h45)
      rw [hx] at HPa
      have hTs : T.size < s.size := by rw [← hx]; simp; omega
      go_enter Tryd.func34, Tryd.ntmps34
      by_cases h1 : T.size < 5
      · have HK := hid (parts_no HPa.out (fun u hu => by obtain ⟨k, q1, q2, q3, q4, q5⟩ := isU_dot hu; have hTl : T.data.toList.length = T.size := by simp
                                                         omega))
        go_wp2
        go_ret2
        exact ⟨pfe HK.out, HB.out⟩
      · by_cases h2 : 12 < T.size
        · have HK := hid (parts_no HPa.out (fun u hu => by obtain ⟨k, q1, q2, q3, q4, q5⟩ := isU_dot hu; have hTl : T.data.toList.length = T.size := by simp
                                                           omega))
          go_wp2
          go_ret2
          exact ⟨pfe HK.out, HB.out⟩
        · obtain ⟨k, hk⟩ : ∃ k, T.size = k + 4 := ⟨T.size - 4, by omega⟩
          have hsz : ((T.size : Int) - 4) = (k : Int) := by omega
          have hszN : T.size - 4 = k := by omega
          have hkT : k < T.size := by omega
          have Hk := hid hk
          have HU := hid (show ∀ u, IsU u T.data.toList → T.data.toList[k]? = some 46 ∧ ∀ j c, T.data.toList[j]? = some c → j ≠ k → isDig c from fun u hu => by
            obtain ⟨k2, q1, q2, q3, q4, q5⟩ := isU_dot hu
            have hTl : T.data.toList.length = T.size := by simp
            obtain rfl : k2 = k := by omega
            exact ⟨q4, q5⟩)
          obtain ⟨D, hD⟩ : ∃ D : Nat, T[k].toNat = D := ⟨_, rfl⟩
          have hD2 : D < 256 := by rw [← hD]; exact T[k].toNat_lt
          clear hk
          by_cases h3 : D = 46
          · have H46 := hid (show T.data.toList[k]? = some 46 by rw [get_at hkT]; congr 1; exact UInt8.toNat_inj.1 (by rw [hD, h3]; rfl))
            have HNo := hid (fun u hu => (HU.out u hu).2)
            go_wp2
            go_loopw [5, 6] (fun nv jv wr => ∃ j N : Nat, j ≤ T.size ∧ jv = .int .i64 j ∧ nv = .int .i64 N ∧ Hid (N < 10 ^ j) ∧ Hid (pv T.data.toList j = N) ∧ Hid (Below W.heap.size W wr)) (fun _ jv _ => 13 - (intOf jv).toNat)
            case atStart => exact ⟨0, 0, by omega, rfl, rfl, (show (0 : Nat) < 10 ^ 0 by decide), rfl, HB.out⟩
            case round =>
              obtain ⟨j, N, hj, rfl, rfl, HN, HV, HB1⟩ := hrel
              have hN : N < 1000000000000 := Nat.lt_of_lt_of_le HN.out (Nat.le_trans (Nat.pow_le_pow_right (by decide) (show j ≤ 12 by omega)) (by decide))
              by_cases hlt : j < T.size
              · by_cases hjk : j = k
                · subst hjk
                  go_wp2
                  go_roundw
                  case rel => exact ⟨j + 1, N, by omega, by go_num, rfl, pow_more HN.out, by show pv _ _ = _; rw [pv_dot H46.out]; exact HV.out, HB1.out⟩
                  case measure => (simp [intOf]; omega)
                · have hne : ((j : Int) == (k : Int)) = false := beq_eq_false_iff_ne.2 (by omega)
                  obtain ⟨C, hC⟩ : ∃ C : Nat, T[j].toNat = C := ⟨_, rfl⟩
                  have hC2 : C < 256 := by rw [← hC]; exact T[j].toNat_lt
                  by_cases g1 : C < 48
                  · have HK := hid (parts_no HPa.out (fun u hu => not_dig_at hlt hC (.inl g1) (HNo.out u hu j _ (get_at hlt) hjk)))
                    go_wp2
                    go_ret2
                    exact ⟨pfe HK.out, HB1.out⟩
                  · by_cases g2 : 57 < C
                    · have HK := hid (parts_no HPa.out (fun u hu => not_dig_at hlt hC (.inr g2) (HNo.out u hu j _ (get_at hlt) hjk)))
                      go_wp2
                      go_ret2
                      exact ⟨pfe HK.out, HB1.out⟩
                    · have HS := hid (pv_dig (get_at hlt) (dig_at hlt hC (by omega) (by omega)))
                      go_wp2
                      go_roundw
                      case rel => exact ⟨j + 1, 10 * N + (C - 48), by omega, by go_num, by go_num, pow_dig HN.out (by omega), by have h := HS.out; rw [HV.out, hC] at h; exact h, HB1.out⟩
                      case measure => (simp [intOf]; omega)
              · obtain rfl : j = T.size := by omega
                have hv := HV.out
                rw [pv_all _ (by simp)] at hv
                have HE := hid (parts_end HPa.out (by intro h; have hTl : T.data.toList.length = T.size := by simp
                                                      rw [h] at hTl; simp at hTl; omega) hv)
                clear hv
                go_wp2_with fail
                refine (sFormatFixed (-(N : Int)) (by omega) (by omega) HB1.out).mono ?_
                rintro e w2 ⟨rfl, hB2⟩
                have HB2 := hid hB2
                clear hB2
                by_cases heq : fixB (-(N : Int)) = s
                · have HK := hid (show PF s (-(N : Int)) true from HE.out.1 heq)
                  have hq : ((fixB (-(N : Int))).toList == s.toList) = true := by rw [beq_ba]; exact decide_eq_true heq
                  go_wp2
                  go_ret2
                  exact ⟨pfe HK.out, HB2.out⟩
                · have HK := hid (HE.out.2 heq)
                  have hq : ((fixB (-(N : Int))).toList == s.toList) = false := by rw [beq_ba]; exact decide_eq_false heq
                  go_wp2
                  go_ret2
                  exact ⟨pfe HK.out, HB2.out⟩
          · have HK := hid (parts_no HPa.out (fun u hu => by
              have := (HU.out u hu).1
              rw [get_at hkT] at this
              have := Option.some.inj this
              apply h3; rw [← hD, this]; rfl))
            have hne : ((D : Int) != 46) = true := bne_iff_ne.2 (by omega)
            go_wp2
            go_ret2
            exact ⟨pfe HK.out, HB.out⟩
    · have HPa := hid (parts_pos (s := s) (fun _ => h45))
      go_enter Tryd.func34, Tryd.ntmps34
      by_cases h1 : s.size < 5
      · have HK := hid (parts_no HPa.out (fun u hu => by obtain ⟨k, q1, q2, q3, q4, q5⟩ := isU_dot hu; have hTl : s.data.toList.length = s.size := by simp
                                                         omega))
        go_wp2
        go_ret2
        exact ⟨pfe HK.out, HB.out⟩
      · by_cases h2 : 12 < s.size
        · have HK := hid (parts_no HPa.out (fun u hu => by obtain ⟨k, q1, q2, q3, q4, q5⟩ := isU_dot hu; have hTl : s.data.toList.length = s.size := by simp
                                                           omega))
          go_wp2
          go_ret2
          exact ⟨pfe HK.out, HB.out⟩
        · obtain ⟨k, hk⟩ : ∃ k, s.size = k + 4 := ⟨s.size - 4, by omega⟩
          have hsz : ((s.size : Int) - 4) = (k : Int) := by omega
          have hszN : s.size - 4 = k := by omega
          have hkT : k < s.size := by omega
          have Hk := hid hk
          have HU := hid (show ∀ u, IsU u s.data.toList → s.data.toList[k]? = some 46 ∧ ∀ j c, s.data.toList[j]? = some c → j ≠ k → isDig c from fun u hu => by
            obtain ⟨k2, q1, q2, q3, q4, q5⟩ := isU_dot hu
            have hTl : s.data.toList.length = s.size := by simp
            obtain rfl : k2 = k := by omega
            exact ⟨q4, q5⟩)
          obtain ⟨D, hD⟩ : ∃ D : Nat, s[k].toNat = D := ⟨_, rfl⟩
          have hD2 : D < 256 := by rw [← hD]; exact s[k].toNat_lt
          clear hk
          by_cases h3 : D = 46
          · have H46 := hid (show s.data.toList[k]? = some 46 by rw [get_at hkT]; congr 1; exact UInt8.toNat_inj.1 (by rw [hD, h3]; rfl))
            have HNo := hid (fun u hu => (HU.out u hu).2)
            go_wp2
            go_loopw [5, 6] (fun nv jv wr => ∃ j N : Nat, j ≤ s.size ∧ jv = .int .i64 j ∧ nv = .int .i64 N ∧ Hid (N < 10 ^ j) ∧ Hid (pv s.data.toList j = N) ∧ Hid (Below W.heap.size W wr)) (fun _ jv _ => 13 - (intOf jv).toNat)
            case atStart => exact ⟨0, 0, by omega, rfl, rfl, (show (0 : Nat) < 10 ^ 0 by decide), rfl, HB.out⟩
            case round =>
              obtain ⟨j, N, hj, rfl, rfl, HN, HV, HB1⟩ := hrel
              have hN : N < 1000000000000 := Nat.lt_of_lt_of_le HN.out (Nat.le_trans (Nat.pow_le_pow_right (by decide) (show j ≤ 12 by omega)) (by decide))
              by_cases hlt : j < s.size
              · by_cases hjk : j = k
                · subst hjk
                  go_wp2
                  go_roundw
                  case rel => exact ⟨j + 1, N, by omega, by go_num, rfl, pow_more HN.out, by show pv _ _ = _; rw [pv_dot H46.out]; exact HV.out, HB1.out⟩
                  case measure => (simp [intOf]; omega)
                · have hne : ((j : Int) == (k : Int)) = false := beq_eq_false_iff_ne.2 (by omega)
                  obtain ⟨C, hC⟩ : ∃ C : Nat, s[j].toNat = C := ⟨_, rfl⟩
                  have hC2 : C < 256 := by rw [← hC]; exact s[j].toNat_lt
                  by_cases g1 : C < 48
                  · have HK := hid (parts_no HPa.out (fun u hu => not_dig_at hlt hC (.inl g1) (HNo.out u hu j _ (get_at hlt) hjk)))
                    go_wp2
                    go_ret2
                    exact ⟨pfe HK.out, HB1.out⟩
                  · by_cases g2 : 57 < C
                    · have HK := hid (parts_no HPa.out (fun u hu => not_dig_at hlt hC (.inr g2) (HNo.out u hu j _ (get_at hlt) hjk)))
                      go_wp2
                      go_ret2
                      exact ⟨pfe HK.out, HB1.out⟩
                    · have HS := hid (pv_dig (get_at hlt) (dig_at hlt hC (by omega) (by omega)))
                      go_wp2
                      go_roundw
                      case rel => exact ⟨j + 1, 10 * N + (C - 48), by omega, by go_num, by go_num, pow_dig HN.out (by omega), by have h := HS.out; rw [HV.out, hC] at h; exact h, HB1.out⟩
                      case measure => (simp [intOf]; omega)
              · obtain rfl : j = s.size := by omega
                have hv := HV.out
                rw [pv_all _ (by simp)] at hv
                have HE := hid (parts_end HPa.out (by intro h; have hTl : s.data.toList.length = s.size := by simp
                                                      rw [h] at hTl; simp at hTl; omega) hv)
                clear hv
                go_wp2_with fail
                refine (sFormatFixed (N : Int) (by omega) (by omega) HB1.out).mono ?_
                rintro e w2 ⟨rfl, hB2⟩
                have HB2 := hid hB2
                clear hB2
                by_cases heq : fixB (N : Int) = s
                · have HK := hid (show PF s (N : Int) true from HE.out.1 heq)
                  have hq : ((fixB (N : Int)).toList == s.toList) = true := by rw [beq_ba]; exact decide_eq_true heq
                  go_wp2
                  go_ret2
                  exact ⟨pfe HK.out, HB2.out⟩
                · have HK := hid (HE.out.2 heq)
                  have hq : ((fixB (N : Int)).toList == s.toList) = false := by rw [beq_ba]; exact decide_eq_false heq
                  go_wp2
                  go_ret2
                  exact ⟨pfe HK.out, HB2.out⟩
          · have HK := hid (parts_no HPa.out (fun u hu => by
              have := (HU.out u hu).1
              rw [get_at hkT] at this
              have := Option.some.inj this
              apply h3; rw [← hD, this]; rfl))
            have hne : ((D : Int) != 46) = true := bne_iff_ne.2 (by omega)
            go_wp2
            go_ret2
            exact ⟨pfe HK.out, HB.out⟩
end Go.Proofs.YtcafecpiijmkoaaDoor
