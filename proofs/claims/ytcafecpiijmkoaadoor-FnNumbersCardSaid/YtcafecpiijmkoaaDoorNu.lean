/- The law FnNumbers. -/
import Derived.Test.YtcafecpiijmkoaaDoorTu
import Derived.Test.YtcafecpiijmkoaaDoorDx
namespace Go.Proofs.YtcafecpiijmkoaaDoor
open Go.RowKit

/-- what ParseUint says of the decimal text of n -/
theorem pu_itoa {n m : Int} {ok : Bool} (h : PU ⟨(Lib.itoa n).toArray⟩ m ok) : (0 ≤ n ∧ n ≤ 1000000000 ∧ m = n ∧ ok = true) ∨ (¬ (0 ≤ n ∧ n ≤ 1000000000) ∧ ok = false) := by
  rcases h with ⟨u, hu, rfl, rfl⟩ | ⟨h, rfl, rfl⟩
  · have e : Lib.itoa n = Lib.itoa (u : Int) := by rw [Lib.itoa_nonneg]; exact hu.2
    have := itoa_inj e
    have := hu.1
    exact .inl ⟨by omega, by omega, by omega, rfl⟩
  · right
    refine ⟨fun hn => h ⟨n.toNat, by omega, ?_⟩, rfl⟩
    rw [← Lib.itoa_nonneg, Int.toNat_of_nonneg hn.1]
theorem itoa_ne (n : Int) : ¬ Lib.itoa n = [] := by
  unfold Lib.itoa
  split
  · simp
  · intro h; have := decDigits_pos n.toNat; rw [h] at this; simp at this
theorem itoa_size (n : Int) (h0 : -9223372036854775808 ≤ n) (h1 : n ≤ 9223372036854775807) : (⟨(Lib.itoa n).toArray⟩ : ByteArray).size ≤ 9223372036854775807 := by
  unfold Lib.itoa
  split
  · have := decDigits_len_le (u := n.natAbs) (k := 20) (by omega) (by omega)
    simp [ByteArray.size]; omega
  · have := decDigits_len_le (u := n.toNat) (k := 20) (by omega) (by omega)
    simp [ByteArray.size]; omega

set_option maxHeartbeats 2000000 in
set_option maxRecDepth 100000 in
theorem lawNumbers (A : Option Addr) (n c : Nat) (w : World) (hr : RdB w A n) (hT : Tab w) :
    Calls Tryd.prog 9 #[.slice A n c] w fun e w' => e = .returned (.bool true) ∧ Below w.heap.size w w' := by
  have hn := hr.1
  have HT := hid hT
  clear hT
  by_cases hbig : n > 1048576
  · clear hr
    go_enter Tryd.func9, Tryd.ntmps9
    go_wp2
    go_ret
    exact ⟨rfl, Below.refl _ _⟩
  · go_enter Tryd.func9, Tryd.ntmps9
    go_wp2_with (go_at_call 13; go_in)
    refine (dFormatInt _ hr (Below.refl _ _)).mono ?_
    clear hr
    rintro e w1 ⟨r, rfl, ⟨hi0, hi1⟩, hb⟩
    have HB1 := hid hb
    clear hb
    go_wp2_with fail
    refine (iFI r hi0 hi1 HT.out HB1.out).mono ?_
    rintro e w2 ⟨rfl, hb⟩
    have HB2 := hid hb
    clear hb
    go_wp2_with fail
    refine (iParseUint _ (itoa_size r hi0 hi1) HT.out HB2.out).mono ?_
    rintro e w3 ⟨⟨m, ok, rfl, hp⟩, hb⟩
    have HB3 := hid hb
    clear hb
    have hne : ¬ Lib.itoa r = [] := itoa_ne r
    rcases pu_itoa hp with ⟨h0, h1, rfl, rfl⟩ | ⟨h0, rfl⟩
    · clear hp
      go_wp2
      all_goals (go_ret; exact ⟨by first | rfl | (simp; omega), HB3.out⟩)
    · clear hp
      by_cases h1 : 0 ≤ r
      · have h2 : 1000000000 < r := by omega
        go_wp2
        all_goals (go_ret; exact ⟨by first | rfl | (simp; omega), HB3.out⟩)
      · go_wp2
        all_goals (go_ret; exact ⟨by first | rfl | (simp; omega), HB3.out⟩)
end Go.Proofs.YtcafecpiijmkoaaDoor
