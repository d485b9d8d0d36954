/- The law FnHexText. -/
import Derived.Test.YtcafecpiijmkoaaDoorHy
import Derived.Test.YtcafecpiijmkoaaDoorHx
import Derived.Test.YtcafecpiijmkoaaDoorTu
namespace Go.Proofs.YtcafecpiijmkoaaDoor
open Go.RowKit

theorem vl_fig : ∀ x : Fin 16, vl (fig x.1) = (x.1 : Int) := by decide
theorem hexL_at (l : List UInt8) (t : Nat) (h : t < l.length) : ((hexL l).getD (2 * t) 0).toNat = fig (l[t].toNat / 16) ∧ ((hexL l).getD (2 * t + 1) 0).toNat = fig (l[t].toNat % 16) := by
  induction l generalizing t with
  | nil => simp at h
  | cons c r ih =>
    have hc := c.toNat_lt
    cases t with
    | zero =>
      constructor
      · show (UInt8.ofNat (fig (c.toNat / 16))).toNat = _
        rw [fig_byte (by omega)]; rfl
      · show (UInt8.ofNat (fig (c.toNat % 16))).toNat = _
        rw [fig_byte (by omega)]; rfl
    | succ t =>
      have := ih t (by simpa using h)
      exact this
theorem hex_vl (s : ByteArray) (t : Nat) (h : t < s.data.toList.length) : vl (at' ⟨(hexL s.data.toList).toArray⟩ (2 * t)) = ((s.data.toList[t].toNat / 16 : Nat) : Int) ∧ vl (at' ⟨(hexL s.data.toList).toArray⟩ (2 * t + 1)) = ((s.data.toList[t].toNat % 16 : Nat) : Int) := by
  obtain ⟨h1, h2⟩ := hexL_at s.data.toList t h
  have hc := s.data.toList[t].toNat_lt
  constructor
  · show vl ((hexL s.data.toList).getD (2 * t) 0).toNat = _
    rw [h1]; exact vl_fig ⟨_, by omega⟩
  · show vl ((hexL s.data.toList).getD (2 * t + 1) 0).toNat = _
    rw [h2]; exact vl_fig ⟨_, by omega⟩
theorem hex_back {s T : ByteArray} {ok : Bool} (hs : s.size ≤ 20000) (h : DR ⟨(hexL s.data.toList).toArray⟩ T ok) : T = s ∧ ok = true := by
  have hl : s.data.toList.length = s.size := by simp
  have hsz : (⟨(hexL s.data.toList).toArray⟩ : ByteArray).size = 2 * s.size := by
    show (hexL s.data.toList).toArray.size = _
    rw [List.size_toArray, hexL_len, hl]
  rcases h with ⟨h, rfl, rfl⟩ | ⟨h, rfl, rfl⟩
  · refine ⟨?_, rfl⟩
    rw [hsz, show 2 * s.size / 2 = s.size by omega]
    have : decB ⟨(hexL s.data.toList).toArray⟩ s.size = s.data.toList := by
      apply List.ext_getElem
      · rw [decB_len, hl]
      · intro t h1 h2
        simp only [decB, List.getElem_map, List.getElem_range]
        obtain ⟨e1, e2⟩ := hex_vl s t h2
        have hc := s.data.toList[t].toNat_lt
        have : bt ⟨(hexL s.data.toList).toArray⟩ t = s.data.toList[t].toNat := by
          unfold bt; rw [e1, e2]; omega
        rw [this]; simp
    rw [this]
  · exfalso
    apply h
    refine ⟨by omega, by omega, fun t ht => ?_⟩
    obtain ⟨e1, e2⟩ := hex_vl s t (by omega)
    exact ⟨by rw [e1]; omega, by rw [e2]; omega⟩
theorem itoa10 : Lib.itoa 10 = [49, 48] := by
  rw [show (10 : Int) = ((10 : Nat) : Int) from rfl, Lib.itoa_nonneg, Lib.decDigits_two (by decide) (by decide)]; rfl

set_option maxHeartbeats 2000000 in
set_option maxRecDepth 100000 in
theorem lawHexText (A : Option Addr) (n c : Nat) (w : World) (hr : RdB w A n) (hT : Tab w) :
    Calls Tryd.prog 3 #[.slice A n c] w fun e w' => e = .returned (.bool true) ∧ Below w.heap.size w w' := by
  have hn := hr.1
  have HT := hid hT
  clear hT
  by_cases hbig : n > 1048576
  · clear hr
    go_enter Tryd.func3, Tryd.ntmps3
    go_wp2
    go_ret
    exact ⟨rfl, Below.refl _ _⟩
  · go_enter Tryd.func3, Tryd.ntmps3
    go_wp2_with (go_at_call 13; go_in)
    refine (dEncodeHex _ hr (Below.refl _ _)).mono ?_
    clear hr
    rintro e w1 ⟨T, rfl, hsz, hb⟩
    have HB1 := hid hb
    clear hb
    go_wp2_with fail
    refine (iEncode T (by omega) _).mono ?_
    rintro e w2 ⟨rfl, hb⟩
    have HB2 := hid (HB1.out.trans (hb.mono HB1.out.size))
    clear hb
    by_cases hl : 20000 < T.size
    · have hd : decide (T.size ≤ 20000) = false := decide_eq_false (by omega)
      have ht : encT T = ⟨#[]⟩ := if_pos hl
      rw [hd, ht]
      clear hd ht
      go_wp2_with fail
      refine (iFI 10 (by decide) (by decide) HT.out HB2.out).mono ?_
      rintro e w3 ⟨rfl, hb⟩
      have HB3 := hid hb
      clear hb
      rw [itoa10]
      go_wp2
      all_goals (go_ret; exact ⟨by first | rfl | (simp; done) | decide, HB3.out⟩)
    · have hd : decide (T.size ≤ 20000) = true := decide_eq_true (by omega)
      have ht : encT T = ⟨(hexL T.data.toList).toArray⟩ := if_neg hl
      have hz : (⟨(hexL T.data.toList).toArray⟩ : ByteArray).size = 2 * T.size := by
        show (hexL T.data.toList).toArray.size = _
        rw [List.size_toArray, hexL_len]; simp
      have HK := hid (fun (U : ByteArray) (ok : Bool) => @hex_back T U ok (by omega))
      rw [hd, ht]
      clear hd ht
      generalize (⟨(hexL T.data.toList).toArray⟩ : ByteArray) = H at hz HK ⊢
      go_wp2_with fail
      refine (iDecode H (by omega) _).mono ?_
      rintro e w3 ⟨U, ok, rfl, hd, hb⟩
      have HB3 := hid (HB2.out.trans (hb.mono HB2.out.size))
      obtain ⟨rfl, rfl⟩ := HK.out U ok hd
      clear hb hd
      go_wp2
      all_goals (go_ret; exact ⟨by first | rfl | (simp; omega), HB3.out⟩)
end Go.Proofs.YtcafecpiijmkoaaDoor
