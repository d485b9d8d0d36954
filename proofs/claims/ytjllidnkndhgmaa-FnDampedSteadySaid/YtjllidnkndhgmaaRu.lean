/- Damped winds: what they are; the tests of a list. -/
import Derived.Test.YtjllidnkndhgmaaRs
namespace Go.Proofs.Ytjllidnkndhgmaa
open Go.RowKit

def okAll (xs : List (Nat × Nat)) : Bool := xs.all fun p => velOk p.1 p.2
theorem okAll_no {xs : List (Nat × Nat)} {j : Nat} (h : j < xs.length) (hv : velOk xs[j].1 xs[j].2 = false) : okAll xs = false := by
  unfold okAll
  rw [List.all_eq_false]
  exact ⟨xs[j], List.getElem_mem h, by rw [hv]; exact Bool.false_ne_true⟩
theorem okAll_yes {xs : List (Nat × Nat)} (h : ∀ j (hj : j < xs.length), velOk xs[j].1 xs[j].2 = true) : okAll xs = true := by
  unfold okAll
  rw [List.all_eq_true]
  intro p hp
  obtain ⟨j, hj, rfl⟩ := List.getElem_of_mem hp
  exact h j hj
theorem okAll_at {xs : List (Nat × Nat)} (h : okAll xs = true) {j : Nat} (hj : j < xs.length) : velOk xs[j].1 xs[j].2 = true := by
  unfold okAll at h
  rw [List.all_eq_true] at h
  exact h _ (List.getElem_mem hj)

set_option maxHeartbeats 2000000 in
set_option maxRecDepth 100000 in
theorem iVels (v : Value) (xs : List (Nat × Nat)) (w : World) (h : RdC w v xs) (hf : FitsC xs) (hl : xs.length ≤ 110) :
    Calls Try.prog 87 #[v] w fun e w' => e = .returned (.bool (okAll xs)) ∧ w = w' := by
  obtain ⟨A, cap, rfl, hc⟩ := h
  have HC := hid hc
  have HF := hid hf
  clear hc hf
  obtain ⟨n, hn⟩ : ∃ n, n = xs.length := ⟨_, rfl⟩
  rw [← hn] at hl ⊢
  have HN := hid hn
  clear hn
  go_enter Try.func87, Try.ntmps87
  go_wp2
  go_loop [7] (fun i => ∃ k : Nat, k ≤ n ∧ i = .int .i64 k ∧ Hid (∀ j (hj : j < xs.length), j < k → velOk xs[j].1 xs[j].2 = true)) (fun i => n - (intOf i).toNat)
  case atStart => exact ⟨0, by omega, rfl, fun j hj h => by omega⟩
  case round =>
    obtain ⟨k, hk, rfl, HK⟩ := hrel
    by_cases hlt : k < n
    · have hlt2 : k < xs.length := by rw [← HN.out]; exact hlt
      obtain ⟨b, hA, hcell⟩ := HC.out k hlt2
      subst hA
      obtain ⟨p, q, hpq⟩ : ∃ p q, xs[k] = (p, q) := ⟨_, _, rfl⟩
      have hfit := HF.out _ (List.getElem_mem hlt2)
      rw [hpq] at hcell hfit
      have hcell' : w.cell? ⟨b, k, none⟩ = some (.complex .f32 p q) := hcell
      have HP := hid hfit
      have HPQ := hid hpq
      clear hcell hfit hpq
      cases hv : velOk p q
      · have HV := hid hv
        have hres := hid (okAll_no hlt2 (by rw [HPQ.out]; exact hv))
        clear hv
        go_wp2_with (go_at_call 48; refine (iVelocityOk _ _ HP.out.1 HP.out.2 _).mono ?_; rintro e w1 ⟨rfl, rfl⟩; rw [HV.out])
        go_ret
        exact ⟨by rw [hres.out]; rfl, rfl⟩
      · have HV := hid hv
        clear hv
        go_wp2_with (go_at_call 48; refine (iVelocityOk _ _ HP.out.1 HP.out.2 _).mono ?_; rintro e w1 ⟨rfl, rfl⟩; rw [HV.out])
        go_round
        case rel =>
          refine ⟨k + 1, by omega, by go_num, fun j hj hjk => ?_⟩
          by_cases he : j = k
          · subst he; rw [HPQ.out]; exact HV.out
          · exact HK.out j hj (by omega)
        case measure => simp [intOf]; omega
    · obtain rfl : k = n := by omega
      have hres := hid (okAll_yes (fun j hj => HK.out j hj (by rw [HN.out]; exact hj)))
      go_wp2
      go_ret
      exact ⟨by rw [hres.out]; rfl, rfl⟩

set_option maxHeartbeats 2000000 in
set_option maxRecDepth 100000 in
theorem sAll (v : Value) (xs : List (Nat × Nat)) (w : World) (h : RdC w v xs) (hf : FitsC xs) (hl : xs.length ≤ 110) :
    Calls Try.prog 99 #[v] w fun e w' => e = .returned (.bool (okAll xs && decide (xs.length ≤ 100))) ∧ w = w' := by
  obtain ⟨A, cap, rfl, hc⟩ := h
  have HC := hid hc
  have HF := hid hf
  clear hc hf
  obtain ⟨n, hn⟩ : ∃ n, n = xs.length := ⟨_, rfl⟩
  rw [← hn] at hl ⊢
  have HN := hid hn
  clear hn
  go_enter Try.func99, Try.ntmps99
  go_wp2
  go_loop [3] (fun i => ∃ k : Nat, k ≤ n ∧ i = .int .i64 k ∧ Hid (∀ j (hj : j < xs.length), j < k → velOk xs[j].1 xs[j].2 = true)) (fun i => n - (intOf i).toNat)
  case atStart => exact ⟨0, by omega, rfl, fun j hj h => by omega⟩
  case round =>
    obtain ⟨k, hk, rfl, HK⟩ := hrel
    by_cases hlt : k < n
    · have hlt2 : k < xs.length := by rw [← HN.out]; exact hlt
      obtain ⟨b, hA, hcell⟩ := HC.out k hlt2
      subst hA
      obtain ⟨p, q, hpq⟩ : ∃ p q, xs[k] = (p, q) := ⟨_, _, rfl⟩
      have hfit := HF.out _ (List.getElem_mem hlt2)
      rw [hpq] at hcell hfit
      have hcell' : w.cell? ⟨b, k, none⟩ = some (.complex .f32 p q) := hcell
      have HP := hid hfit
      have HPQ := hid hpq
      clear hcell hfit hpq
      cases hv : velOk p q
      · have HV := hid hv
        have hres := hid (okAll_no hlt2 (by rw [HPQ.out]; exact hv))
        clear hv
        go_wp2_with (go_at_call 44; refine (sVelocityOk _ _ HP.out.1 HP.out.2 _).mono ?_; rintro e w1 ⟨rfl, rfl⟩; rw [HV.out])
        go_ret
        exact ⟨by rw [hres.out]; rfl, rfl⟩
      · have HV := hid hv
        clear hv
        go_wp2_with (go_at_call 44; refine (sVelocityOk _ _ HP.out.1 HP.out.2 _).mono ?_; rintro e w1 ⟨rfl, rfl⟩; rw [HV.out])
        go_round
        case rel =>
          refine ⟨k + 1, by omega, by go_num, fun j hj hjk => ?_⟩
          by_cases he : j = k
          · subst he; rw [HPQ.out]; exact HV.out
          · exact HK.out j hj (by omega)
        case measure => simp [intOf]; omega
    · obtain rfl : k = n := by omega
      have hres := hid (okAll_yes (fun j hj => HK.out j hj (by rw [HN.out]; exact hj)))
      go_wp2
      go_ret
      exact ⟨by rw [hres.out]; simp; omega, rfl⟩
end Go.Proofs.Ytjllidnkndhgmaa
