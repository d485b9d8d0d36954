/- FormatInt of the second side (door seat). -/
import Derived.Test.YtcafecpiijmkoaaDoorHg
import Derived.Test.YtcafecpiijmkoaaDoorTn
namespace Go.Proofs.YtcafecpiijmkoaaDoor
open Go.RowKit

def decD (u : Nat) : List UInt8 := if u = 0 then [] else Lib.decDigits u
theorem decD_step (u : Nat) (h : u ≠ 0) : decD u = decD (u / 10) ++ [UInt8.ofNat (48 + u % 10)] := by
  rw [decD, if_neg h, Lib.decDigits]
  by_cases h1 : u < 10
  · rw [dif_pos h1, decD, if_pos (by omega), Nat.mod_eq_of_lt h1]; rfl
  · rw [dif_neg h1, decD, if_neg (by omega)]

theorem one_cat (x : UInt8) (L : List UInt8) : ((⟨#[x]⟩ : ByteArray) ++ (⟨L.toArray⟩ : ByteArray)) = ⟨(x :: L).toArray⟩ := by
  apply ByteArray.ext; simp [ByteArray.data_append]
theorem tdiv_bd (m : Int) (hm : ¬ m = 0) : (m < 0 → m ≤ m.tdiv 10 ∧ m.tdiv 10 ≤ 0) ∧ (0 < m → 0 ≤ m.tdiv 10 ∧ m.tdiv 10 ≤ m) ∧ (m.tdiv 10).natAbs < m.natAbs := by
  rcases Int.lt_or_lt_of_ne hm with h | h
  · have e : m.tdiv 10 = -((-m) / 10) := by
      rw [← Int.tdiv_eq_ediv_of_nonneg (by omega), Int.neg_tdiv]; omega
    rw [e]; omega
  · rw [Int.tdiv_eq_ediv_of_nonneg (by omega)]; omega
theorem dec_next {n m : Int} {d : Nat} {L : List UInt8} (hm : ¬ m = 0) (hd : d = m.natAbs % 10) (h : decD n.natAbs = decD m.natAbs ++ L) : decD n.natAbs = decD (m.tdiv 10).natAbs ++ (UInt8.ofNat (fig d) :: L) := by
  have e1 : (m.tdiv 10).natAbs = m.natAbs / 10 := by rw [Int.natAbs_tdiv]; rfl
  have e2 : fig d = 48 + m.natAbs % 10 := by rw [fig, if_pos (by omega), hd]
  rw [h, decD_step m.natAbs (by omega), e1, e2, List.append_assoc]; rfl

set_option maxHeartbeats 1000000 in
set_option maxRecDepth 100000 in
theorem sFormatInt (n : Int) (h0 : -9223372036854775808 ≤ n) (h1 : n ≤ 9223372036854775807) (w : World) :
    Calls Tryd.prog 25 #[.int .i64 n] w fun e w' => e = .returned (.string ⟨(Lib.itoa n).toArray⟩) ∧ Below w.heap.size w w' := by
  by_cases hz : n = 0
  · subst hz
    go_enter Tryd.func25, Tryd.ntmps25
    go_wp2
    go_ret
    have hi : Lib.itoa 0 = [48] := by rw [Lib.itoa, if_neg (by omega)]; show Lib.decDigits 0 = _; rw [Lib.decDigits]; rfl
    exact ⟨by rw [hi]; rfl, Below.refl _ _⟩
  · have hnz : (n == 0) = false := by simpa using hz
    go_enter Tryd.func25, Tryd.ntmps25
    go_wp2
    go_loopw [0, 4] (fun nv sv wr => ∃ (m : Int) (L : List UInt8), nv = .int .i64 m ∧ (n < 0 → m ≤ 0 ∧ n ≤ m) ∧ (0 ≤ n → 0 ≤ m ∧ m ≤ n) ∧ sv = .string ⟨L.toArray⟩ ∧ Hid (decD n.natAbs = decD m.natAbs ++ L) ∧ Hid (Below w.heap.size w wr)) (fun nv _ _ => (intOf nv).natAbs)
    case atStart => exact ⟨n, [], rfl, by omega, by omega, rfl, by show _ = _ ++ []; simp, Below.refl _ _⟩
    case round =>
      obtain ⟨m, L, rfl, hneg, hpos, rfl, HL, HB⟩ := hrel
      by_cases hm : m = 0
      · subst hm
        have hL : L = decD n.natAbs := by have := HL.out; rw [show decD (0 : Int).natAbs = [] from rfl, List.nil_append] at this; exact this.symm
        have hd : decD n.natAbs = Lib.decDigits n.natAbs := if_neg (by omega)
        have hlen : L.length ≤ 20 := by rw [hL, hd]; exact decDigits_len_le (by omega) (by omega)
        by_cases hn : n < 0
        · have hi : Lib.itoa n = 45 :: L := by rw [hL, hd, Lib.itoa, if_pos hn]
          have HI := hid hi
          clear hi hL hd
          go_wp2
          go_ret
          exact ⟨by rw [one_cat, HI.out]; rfl, HB.out⟩
        · have hi : Lib.itoa n = L := by rw [hL, hd, Lib.itoa, if_neg hn]; congr 1; omega
          have HI := hid hi
          clear hi hL hd
          go_wp2
          go_ret
          exact ⟨by rw [HI.out]; rfl, HB.out⟩
      · obtain ⟨d, hd, hd9, hsg⟩ : ∃ d : Nat, (m < 0 ∧ m.tmod 10 = -(d : Int) ∨ 0 < m ∧ m.tmod 10 = (d : Int)) ∧ d ≤ 9 ∧ d = m.natAbs % 10 := by
          refine ⟨m.natAbs % 10, ?_, by omega, rfl⟩
          rcases Int.lt_or_lt_of_ne hm with h | h
          · left
            refine ⟨h, ?_⟩
            have e : m = -(m.natAbs : Int) := by omega
            rw [e, Int.neg_tmod, Int.tmod_eq_emod_of_nonneg (by omega)]
            omega
          · right
            refine ⟨h, ?_⟩
            rw [Int.tmod_eq_emod_of_nonneg (by omega)]; omega
        have hlen : L.length ≤ 20 := by
          have e := congrArg List.length HL.out
          rw [List.length_append] at e
          have hd : decD n.natAbs = Lib.decDigits n.natAbs := if_neg (by omega)
          rw [hd] at e
          have := decDigits_len_le (u := n.natAbs) (k := 20) (by omega) (by omega)
          omega
        have HTD := hid (tdiv_bd m hm)
        have HSG := hid hsg
        clear hsg
        have hcv : ∀ w0 : World, (convert 22 9 (.slice (some ⟨w0.heap.size, 0, none⟩) 1 1)).run Tryd.prog (w0.alloc (.cells #[.int .u8 (fig d : Nat)] 5)) = .ok (.string ⟨#[UInt8.ofNat (fig d)]⟩) (w0.alloc (.cells #[.int .u8 (fig d : Nat)] 5)) := by
          intro w0
          refine run_convert_bytes_back (P := Tryd.prog) _ 22 9 5 ⟨w0.heap.size, 0, none⟩ 1 [UInt8.ofNat (fig d)] Tryd.underlying22 Tryd.underlying5 Tryd.underlying9 ?_
          intro t ht
          obtain rfl : t = 0 := by simpa using ht
          have := cell_one_new w0 (.int .u8 (fig d : Nat)) 5 0 (.int .u8 (fig d : Nat)) rfl
          simpa [fig_byte (show d < 16 by omega)] using this
        have hd' : (d = 0 ∧ m.tmod 10 = 0) ∨ (0 < d ∧ m.tmod 10 = -(d : Int)) ∨ (0 < d ∧ m.tmod 10 = (d : Int)) := by omega
        have HM := hid hd
        clear hd
        rcases hd' with ⟨rfl, ht⟩ | ⟨hp, ht⟩ | ⟨hp, ht⟩
        · go_wp2_with fail
          refine (figure 0 (by omega) _).mono ?_
          rintro e w1 ⟨rfl, rfl⟩
          go_wp2_with fail
          go_roundw
          case rel => exact ⟨m.tdiv 10, _ :: L, rfl, (fun h => by have := hneg h; have := HTD.out; omega), (fun h => by have := hpos h; have := HTD.out; omega), by rw [one_cat], dec_next hm HSG.out HL.out, HB.out.alloc HB.out.size _⟩
          case measure => exact HTD.out.2.2
        · go_wp2_with fail
          refine (figure d (by omega) _).mono ?_
          rintro e w1 ⟨rfl, rfl⟩
          go_wp2_with fail
          go_roundw
          case rel => exact ⟨m.tdiv 10, _ :: L, rfl, (fun h => by have := hneg h; have := HTD.out; omega), (fun h => by have := hpos h; have := HTD.out; omega), by rw [one_cat], dec_next hm HSG.out HL.out, HB.out.alloc HB.out.size _⟩
          case measure => exact HTD.out.2.2
        · go_wp2_with fail
          refine (figure d (by omega) _).mono ?_
          rintro e w1 ⟨rfl, rfl⟩
          go_wp2_with fail
          go_roundw
          case rel => exact ⟨m.tdiv 10, _ :: L, rfl, (fun h => by have := hneg h; have := HTD.out; omega), (fun h => by have := hpos h; have := HTD.out; omega), by rw [one_cat], dec_next hm HSG.out HL.out, HB.out.alloc HB.out.size _⟩
          case measure => exact HTD.out.2.2
end Go.Proofs.YtcafecpiijmkoaaDoor
