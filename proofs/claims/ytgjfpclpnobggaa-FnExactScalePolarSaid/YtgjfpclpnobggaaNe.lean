/- Marks: written into a polar's own memory, and found there again. -/
import Derived.Test.YtgjfpclpnobggaaNd
namespace Go.Proofs.Ytgjfpclpnobggaa
open Go.Shelf Go.RowKit

def mkF (k : Int) (n : Nat) : List Nat := (List.range n).map fun (j : Nat) => floatOfInt .f32 (k + (j : Int))
def mkI (k : Int) (n : Nat) : List Int := (List.range n).map fun (j : Nat) => k + (j : Int)
def tot : List (List Nat) → Nat
  | [] => 0
  | s :: S => s.length + tot S
def mkS (k : Int) : List (List Nat) → List (List Nat)
  | [] => []
  | s :: S => mkF k s.length :: mkS (k + (s.length : Int)) S
theorem mkF_len (k : Int) (n : Nat) : (mkF k n).length = n := by simp [mkF]
theorem mkI_len (k : Int) (n : Nat) : (mkI k n).length = n := by simp [mkI]
theorem mkF_get (k : Int) (n i : Nat) (h : i < (mkF k n).length) : (mkF k n)[i] = floatOfInt .f32 (k + (i : Int)) := by simp [mkF]
theorem mkI_get (k : Int) (n i : Nat) (h : i < (mkI k n).length) : (mkI k n)[i] = k + (i : Int) := by simp [mkI]
theorem mkF_succ (k : Int) (n : Nat) : mkF k (n + 1) = mkF k n ++ [floatOfInt .f32 (k + (n : Int))] := by simp [mkF, List.range_succ]
theorem mkI_succ (k : Int) (n : Nat) : mkI k (n + 1) = mkI k n ++ [k + (n : Int)] := by simp [mkI, List.range_succ]
theorem set_mid {α : Type} (A L : List α) (i : Nat) (x : α) (hA : A.length = i) (hi : i < L.length) : (A ++ L.drop i).set i x = (A ++ [x]) ++ L.drop (i + 1) := by
  rw [List.set_append, if_neg (by omega), hA, Nat.sub_self, List.drop_eq_getElem_cons hi, List.set_cons_zero, List.append_assoc]
  rfl
theorem markF_set (k : Int) (xs : List Nat) (i : Nat) (h : i < xs.length) : (mkF k i ++ xs.drop i).set i (floatOfInt .f32 (k + (i : Int))) = mkF k (i + 1) ++ xs.drop (i + 1) := by
  rw [mkF_succ]; exact set_mid _ _ _ _ (mkF_len k i) h
theorem markI_set (k : Int) (xs : List Int) (i : Nat) (h : i < xs.length) : (mkI k i ++ xs.drop i).set i (k + (i : Int)) = mkI k (i + 1) ++ xs.drop (i + 1) := by
  rw [mkI_succ]; exact set_mid _ _ _ _ (mkI_len k i) h
theorem tot_app (A : List (List Nat)) (s : List Nat) : tot (A ++ [s]) = tot A + s.length := by
  induction A with
  | nil => simp [tot]
  | cons a A ih => simp [tot, ih]; omega
theorem mkS_app (A : List (List Nat)) (s : List Nat) : ∀ k : Int, mkS k (A ++ [s]) = mkS k A ++ [mkF (k + (tot A : Nat)) s.length] := by
  induction A with
  | nil => intro k; simp [mkS, tot]
  | cons a A ih =>
    intro k
    simp only [List.cons_append, mkS, ih, tot]
    rw [show k + (a.length : Int) + (tot A : Nat) = k + ((a.length + tot A : Nat) : Int) by push_cast; omega]
theorem mkS_len (S : List (List Nat)) : ∀ k : Int, (mkS k S).length = S.length := by
  induction S with
  | nil => intro k; rfl
  | cons s S ih => intro k; simp [mkS, ih]
theorem tot_le {S : List (List Nat)} (h : ∀ s ∈ S, s.length ≤ 1048576) : tot S ≤ S.length * 1048576 := by
  induction S with
  | nil => simp [tot]
  | cons s S ih =>
    have h1 := h s List.mem_cons_self
    have h2 := ih (fun x hx => h x (List.mem_cons_of_mem _ hx))
    simp only [tot, List.length_cons]
    omega
theorem tot_take_le (S : List (List Nat)) (i : Nat) : tot (S.take i) ≤ tot S := by
  induction S generalizing i with
  | nil => simp [tot]
  | cons s S ih =>
    cases i with
    | zero => simp [tot]
    | succ i => simp only [List.take_succ_cons, tot]; have := ih i; omega
theorem nn_ofInt (n : Int) : fc .f32 (floatOfInt .f32 n) ≠ none := enc_nn (k := .f32) (d := .number (n < 0) n.natAbs 0) rfl

set_option maxHeartbeats 1000000 in
set_option maxRecDepth 100000 in
theorem markFC {w : World} {B n : Nat} {v : Value} {xs : List Nat} (k : Int) (hk0 : 0 ≤ k) (hk : k ≤ 1125899906842624) (hn : n ≤ 1048576) (ho : w.ownsRow B 36 1 v n (fcells xs)) :
    Calls Try.prog 55 #[v, .int .i64 k] w fun e w' => e = .returned (.int .i64 (k + n)) ∧ w'.ownsRow B 36 1 v n (fcells (mkF k n)) ∧ w.grownBy w' v.ownBlock := by
  have hxl : xs.length = n := by have := ho.1; simpa [fcells] using this
  obtain ⟨A, c, rfl⟩ := own_shape ho
  have HO := hid ho
  have HX := hid hxl
  clear ho hxl
  have hsf := fun (a : Addr) (n : Nat) (w : World) => run_store Try.prog w a (.float .f32 n) .plain rfl
  go_enter Try.func55, Try.ntmps55
  go_wp2
  go_loopw [1, 5] (fun kv iv wr => ∃ i : Nat, iv = .int .i64 i ∧ kv = .int .i64 (k + i) ∧ i ≤ n ∧ Hid (wr.ownsRow B 36 1 (.slice A n c) n (fcells (mkF k i ++ xs.drop i))) ∧ Hid (w.grownBy wr (Value.ownBlock (.slice A n c)))) (fun _ iv _ => 1048577 - (intOf iv).toNat)
  case atStart => exact ⟨0, rfl, by simp, by omega, hid (by simpa [mkF] using HO.out), grown_refl _ _⟩
  case round =>
    obtain ⟨i, rfl, rfl, hi, HW, HG⟩ := hrel
    by_cases hlt : i < n
    · obtain ⟨⟨b, rfl⟩, hc⟩ := own_some HW.out (by omega)
      obtain ⟨⟨y, h1⟩, h2⟩ := wind_cell HW.out hlt
      have HS := hid (own_set (u := .float .f32 (floatOfInt .f32 (k + (i : Int)))) HW.out hlt).1
      have HE := hid (markF_set k xs i (by have := HX.out; omega))
      go_wp2
      go_roundw
      case rel => exact ⟨i + 1, by go_num, by go_num, by omega, hid (by rw [← HE.out, ← fcells_set]; exact HS.out), hid (grown_trans HG.out (grown_set _ _ _ _))⟩
      case measure => (simp [intOf]; try omega)
    · obtain rfl : i = n := by omega
      have HD := hid (show mkF k i ++ xs.drop i = mkF k i by rw [List.drop_eq_nil_of_le (by have := HX.out; omega), List.append_nil])
      go_wp2
      go_ret
      exact ⟨rfl, by have := HW.out; rw [HD.out] at this; exact this, HG.out⟩

set_option maxHeartbeats 1000000 in
set_option maxRecDepth 100000 in
theorem markIC {w : World} {B n : Nat} {v : Value} {xs : List Int} (k : Int) (hk0 : 0 ≤ k) (hk : k ≤ 1125899906842624) (hn : n ≤ 1048576) (ho : w.ownsRow B 3 1 v n (icells xs)) :
    Calls Try.prog 56 #[v, .int .i64 k] w fun e w' => e = .returned (.int .i64 (k + n)) ∧ w'.ownsRow B 3 1 v n (icells (mkI k n)) ∧ w.grownBy w' v.ownBlock := by
  have hxl : xs.length = n := by have := ho.1; simpa [icells] using this
  obtain ⟨A, c, rfl⟩ := own_shape ho
  have HO := hid ho
  have HX := hid hxl
  clear ho hxl
  go_enter Try.func56, Try.ntmps56
  go_wp2
  go_loopw [1, 5] (fun kv iv wr => ∃ i : Nat, iv = .int .i64 i ∧ kv = .int .i64 (k + i) ∧ i ≤ n ∧ Hid (wr.ownsRow B 3 1 (.slice A n c) n (icells (mkI k i ++ xs.drop i))) ∧ Hid (w.grownBy wr (Value.ownBlock (.slice A n c)))) (fun _ iv _ => 1048577 - (intOf iv).toNat)
  case atStart => exact ⟨0, rfl, by simp, by omega, hid (by simpa [mkI] using HO.out), grown_refl _ _⟩
  case round =>
    obtain ⟨i, rfl, rfl, hi, HW, HG⟩ := hrel
    by_cases hlt : i < n
    · obtain ⟨⟨b, rfl⟩, hc⟩ := own_some HW.out (by omega)
      obtain ⟨⟨y, h1⟩, h2⟩ := angle_cell HW.out hlt
      have HS := hid (own_set (u := .int .i64 (k + (i : Int))) HW.out hlt).1
      have HE := hid (markI_set k xs i (by have := HX.out; omega))
      go_wp2
      go_roundw
      case rel => exact ⟨i + 1, by go_num, by go_num, by omega, hid (by rw [← HE.out, ← icells_set]; exact HS.out), hid (grown_trans HG.out (grown_set _ _ _ _))⟩
      case measure => (simp [intOf]; try omega)
    · obtain rfl : i = n := by omega
      have HD := hid (show mkI k i ++ xs.drop i = mkI k i by rw [List.drop_eq_nil_of_le (by have := HX.out; omega), List.append_nil])
      go_wp2
      go_ret
      exact ⟨rfl, by have := HW.out; rw [HD.out] at this; exact this, HG.out⟩

set_option maxHeartbeats 1000000 in
set_option maxRecDepth 100000 in
theorem heldFC {w : World} {n : Nat} {v : Value} (k : Int) (hk0 : 0 ≤ k) (hk : k ≤ 1125899906842624) (hn : n ≤ 1048576) (h : RdF w v (mkF k n)) :
    Calls Try.prog 58 #[v, .int .i64 k] w fun e w' => e = .returned (.int .i64 (k + n)) ∧ w = w' := by
  obtain ⟨_, A, c, rfl, hc⟩ := h
  rw [mkF_len] at *
  have HC := hid hc
  clear hc
  go_enter Try.func58, Try.ntmps58
  go_wp2
  go_loopw [1, 5] (fun kv iv wr => ∃ i : Nat, iv = .int .i64 i ∧ kv = .int .i64 (k + i) ∧ i ≤ n ∧ w = wr) (fun _ iv _ => 1048577 - (intOf iv).toNat)
  case atStart => exact ⟨0, rfl, by simp, by omega, rfl⟩
  case round =>
    obtain ⟨i, rfl, rfl, hi, rfl⟩ := hrel
    by_cases hlt : i < n
    · obtain ⟨ad, rfl, h1⟩ := HC.out i (by rw [mkF_len]; exact hlt)
      rw [mkF_get] at h1
      have h2 := order_self (nn_ofInt (k + (i : Int)))
      go_wp2
      go_roundw
      case rel => exact ⟨i + 1, by go_num, by go_num, by omega, trivial⟩
      case measure => (simp [intOf]; try omega)
    · obtain rfl : i = n := by omega
      go_wp2
      go_ret
      exact ⟨rfl, rfl⟩

set_option maxHeartbeats 1000000 in
set_option maxRecDepth 100000 in
theorem heldIC {w : World} {n : Nat} {v : Value} (k : Int) (hk0 : 0 ≤ k) (hk : k ≤ 1125899906842624) (hn : n ≤ 1048576) (h : RdI w v (mkI k n)) :
    Calls Try.prog 59 #[v, .int .i64 k] w fun e w' => e = .returned (.int .i64 (k + n)) ∧ w = w' := by
  obtain ⟨_, A, c, rfl, hc⟩ := h
  rw [mkI_len] at *
  have HC := hid hc
  clear hc
  go_enter Try.func59, Try.ntmps59
  go_wp2
  go_loopw [1, 5] (fun kv iv wr => ∃ i : Nat, iv = .int .i64 i ∧ kv = .int .i64 (k + i) ∧ i ≤ n ∧ w = wr) (fun _ iv _ => 1048577 - (intOf iv).toNat)
  case atStart => exact ⟨0, rfl, by simp, by omega, rfl⟩
  case round =>
    obtain ⟨i, rfl, rfl, hi, rfl⟩ := hrel
    by_cases hlt : i < n
    · obtain ⟨ad, rfl, h1⟩ := HC.out i (by rw [mkI_len]; exact hlt)
      rw [mkI_get] at h1
      go_wp2
      go_roundw
      case rel => exact ⟨i + 1, by go_num, by go_num, by omega, trivial⟩
      case measure => (simp [intOf]; try omega)
    · obtain rfl : i = n := by omega
      go_wp2
      go_ret
      exact ⟨rfl, rfl⟩
end Go.Proofs.Ytgjfpclpnobggaa
