/- The draw of FnFieldsAgain. -/
import Derived.Test.YtcafecpiijmkoaaDoorSu
import Derived.Test.YtcafecpiijmkoaaDoorHx
namespace Go.Proofs.YtcafecpiijmkoaaDoor
open Go.RowKit
theorem conv33 (d : Nat) (h : d < 94) : ∃ x : UInt8, ∀ w0 : World, (convert 22 9 (.slice (some ⟨w0.heap.size, 0, none⟩) 1 1)).run Tryd.prog (w0.alloc (.cells #[.int .u8 (33 + (d : Int))] 5)) = .ok (.string ⟨#[x]⟩) (w0.alloc (.cells #[.int .u8 (33 + (d : Int))] 5)) := by
  refine ⟨UInt8.ofNat (33 + d), fun w0 => ?_⟩
  obtain ⟨x, hx⟩ : ∃ x : UInt8, UInt8.ofNat (33 + d) = x := ⟨_, rfl⟩
  have hxn : x.toNat = 33 + d := by rw [← hx]; exact u8_back _ (by omega)
  rw [hx]
  refine run_convert_bytes_back (P := Tryd.prog) _ 22 9 5 ⟨w0.heap.size, 0, none⟩ 1 [x] Tryd.underlying22 Tryd.underlying5 Tryd.underlying9 ?_
  intro t ht
  obtain rfl : t = 0 := by simpa using ht
  have := cell_one_new w0 (.int .u8 (33 + (d : Int))) 5 0 (.int .u8 (33 + (d : Int))) rfl
  have e : ((x.toNat : Nat) : Int) = 33 + (d : Int) := by rw [hxn]; push_cast; rfl
  simpa [e] using this
theorem long_g {w0 W w : World} {g : Nat} (x : Int) (d : Nat) (h0 : 0 ≤ x) (hN : x ≤ 30000) (hd : d < 256) (h : CG w0 W w g) :
    Calls Tryd.prog 37 #[.int .i64 x, .int .u8 d] w fun e w' => ∃ T : ByteArray, e = .returned (.string T) ∧ T.size = x ∧ CG w0 W w' g :=
  (longI (W := w) x d h0 hN hd (Below.refl _ _)).mono fun _ _ ⟨T, he, ht, hb⟩ => ⟨T, he, ht, h.grow hb⟩
theorem mul_small {a b : Int} (a0 : 0 ≤ a) (a1 : a < 2) (b0 : 0 ≤ b) (b1 : b < 3) : 0 ≤ wrap64 (1 + wrap64 (a * b)) ∧ wrap64 (1 + wrap64 (a * b)) ≤ 30000 ∧ wrap64 (1 + wrap64 (a * b)) ≤ 3 := by
  have ha : a = 0 ∨ a = 1 := by omega
  have hb : b = 0 ∨ b = 1 ∨ b = 2 := by omega
  rcases ha with rfl | rfl <;> rcases hb with rfl | rfl | rfl <;> (unfold wrap64; omega)
theorem long_p {w0 W w : World} {g : Nat} (a b : Int) (a0 : 0 ≤ a) (a1 : a < 2) (b0 : 0 ≤ b) (b1 : b < 3) (h : CG w0 W w g) :
    Calls Tryd.prog 37 #[.int .i64 (wrap64 (1 + wrap64 (a * b))), .int .u8 32] w fun e w' => ∃ T : ByteArray, e = .returned (.string T) ∧ T.size ≤ 3 ∧ CG w0 W w' g :=
  (long_g _ 32 (mul_small a0 a1 b0 b1).1 (mul_small a0 a1 b0 b1).2.1 (by decide) h).mono fun _ _ ⟨T, he, ht, hc⟩ => ⟨T, he, by have := (mul_small a0 a1 b0 b1).2.2; omega, hc⟩
theorem lits2_ok : ∀ x ∈ ([⟨#[32]⟩, ⟨#[32, 32]⟩, ⟨#[9]⟩, ⟨#[10]⟩, ⟨#[127]⟩, ⟨#[233]⟩] : List ByteArray), x.size ≤ 2 := by decide
theorem size_one (x : UInt8) : (⟨#[x]⟩ : ByteArray).size = 1 := rfl
section
variable {W w : World} {A : Option Addr} {n : Nat} (c : Nat) (hr : RdB W A n) (hB : Below W.heap.size W w)
include hr hB
set_option maxHeartbeats 1000000 in
set_option maxRecDepth 100000 in
theorem dSplitFields : Calls Tryd.prog 21 #[.slice A n c] w fun e w' => ∃ T : ByteArray, e = .returned (.string T) ∧ T.size ≤ 30000 ∧ Below W.heap.size W w' := by
  go_enter Tryd.func21, Tryd.ntmps21
  go_wp2_with (first | (go_at_call 35; refine (new_any W _ _ _ _ (by assumption) (by first | assumption | exact Below.refl _ _)).mono ?_; rintro e w1 ⟨g, rfl, hc0, _⟩; have hc := CG.start hc0; clear hc0) | (go_at_call 36; refine (once_g _ (by omega) (by repeat (first | assumption | apply CG.alloc | apply CG.drewN | apply CG.drew))).mono ?_; rintro e w1 ⟨b, rfl, hc⟩; cases b) | (go_at_call 38; refine (below_g _ (by omega) (by repeat (first | assumption | apply CG.alloc | apply CG.drewN | apply CG.drew))).mono ?_; rintro e w1 ⟨r, rfl, hr, hc⟩))
  all_goals
    go_loopw [5, 6] (fun sv iv wr => ∃ (p : Int) (T : ByteArray), iv = .int .i64 p ∧ 0 ≤ p ∧ p ≤ 26 ∧ sv = .string T ∧ (T.size : Int) ≤ 700 * p ∧ Hid (Cur W wr g)) (fun _ iv _ => 30 - (intOf iv).toNat)
    case atStart => exact ⟨0, ⟨#[]⟩, rfl, by omega, by omega, rfl, by decide, (show CG _ W _ g from (by repeat (first | assumption | apply CG.alloc | apply CG.drewN | apply CG.drew))).1⟩
    case round =>
      obtain ⟨p, T, rfl, hp0, hp1, rfl, hT, HD⟩ := hrel
      have hcc := CG.start HD.out
      go_wp2_with (first | (go_at_call 36; refine (once_g _ (by omega) (by repeat (first | assumption | apply CG.alloc | apply CG.drewN | apply CG.drew))).mono ?_; rintro e w1 ⟨b, rfl, hc⟩; cases b) | (go_at_call 37; refine (long_g _ 32 (by omega) (by omega) (by decide) (by repeat (first | assumption | apply CG.alloc | apply CG.drewN | apply CG.drew))).mono ?_; rintro e w1 ⟨U, rfl, hU, hc⟩) | (go_at_call 37; refine (long_p _ _ (by omega) (by omega) (by omega) (by omega) (by repeat (first | assumption | apply CG.alloc | apply CG.drewN | apply CG.drew))).mono ?_; rintro e w1 ⟨U, rfl, hU, hc⟩) | (go_at_call 38; refine (below_g _ (by omega) (by repeat (first | assumption | apply CG.alloc | apply CG.drewN | apply CG.drew))).mono ?_; rintro e w1 ⟨r, rfl, hr, hc⟩) | (go_at_call 44; refine (pickS_g (fun u => u.size ≤ 2) (by decide) (by decide) (cg_ne (by assumption)) (litS_cells _ [⟨#[32]⟩, ⟨#[32, 32]⟩, ⟨#[9]⟩, ⟨#[10]⟩, ⟨#[127]⟩, ⟨#[233]⟩] _ _ lits2_ok) (by repeat (first | assumption | apply CG.alloc | apply CG.drewN | apply CG.drew))).mono ?_; rintro e w1 ⟨U, rfl, hU, hc⟩))
      all_goals (first | (go_ret; exact ⟨_, rfl, by first | omega | (simp [ByteArray.size_append]; omega), CG.below (by repeat (first | assumption | apply CG.alloc | apply CG.drewN | apply CG.drew))⟩) | skip)
      all_goals
        go_loopw [5, 7] (fun sv kv w2 => ∃ (k : Nat) (U : ByteArray), kv = .int .i64 k ∧ k ≤ 5 ∧ sv = .string U ∧ (U.size : Int) ≤ 700 * p + 610 + k ∧ Hid (Cur W w2 g)) (fun _ kv _ => 6 - (intOf kv).toNat)
        case atStart => exact ⟨0, _, rfl, by omega, rfl, by first | omega | (simp [ByteArray.size_append]; omega), (show CG _ W _ g from (by repeat (first | assumption | apply CG.alloc | apply CG.drewN | apply CG.drew))).1⟩
        case round =>
          obtain ⟨k, U, rfl, hk, rfl, hU, HD2⟩ := hrel
          have hc2 := CG.start HD2.out
          go_wp2_with (go_at_call 38; refine (below_g _ (by omega) (by repeat (first | assumption | apply CG.alloc | apply CG.drewN | apply CG.drew))).mono ?_; rintro e w1 ⟨r, rfl, hr, hc⟩; obtain ⟨d, rfl⟩ : ∃ d : Nat, r = d := ⟨r.toNat, by omega⟩; obtain ⟨x, hcv⟩ := conv33 d (by omega); have hx1 := size_one x)
          all_goals
            go_roundw
            case rel => first | exact ⟨k + 1, U ++ ⟨#[x]⟩, by go_num, by omega, rfl, by rw [ByteArray.size_append]; push_cast; omega, (show CG _ W _ g from (by repeat (first | assumption | apply CG.alloc | apply CG.drewN | apply CG.drew))).1⟩ | exact ⟨p + 1, U, by go_num, by omega, by omega, rfl, by omega, (show CG _ W _ g from (by repeat (first | assumption | apply CG.alloc | apply CG.drewN | apply CG.drew))).1⟩
            case measure => simp [intOf]; omega
end
end Go.Proofs.YtcafecpiijmkoaaDoor
