/- The law FnFieldsAgain. -/
import Derived.Test.YtcafecpiijmkoaaDoorSt
import Derived.Test.YtcafecpiijmkoaaDoorSv
namespace Go.Proofs.YtcafecpiijmkoaaDoor
open Go.RowKit

set_option maxHeartbeats 1000000 in
set_option maxRecDepth 100000 in
theorem sameTexts_eq {w : World} {a b : Value} {Ls : List ByteArray} (hl : Ls.length ≤ 1000) (ha : RdS w a Ls) (hb : RdS w b Ls) :
    Calls Tryd.prog 24 #[a, b] w fun e w' => e = .returned (.bool true) ∧ Below w.heap.size w w' := by
  have HA0 := hid ha
  have HB0 := hid hb
  obtain ⟨A, ca, rfl, hA⟩ := ha
  obtain ⟨B, cb, rfl, hB'⟩ := hb
  clear hA hB'
  go_enter Tryd.func24, Tryd.ntmps24
  go_wp2
  go_loopw [5] (fun iv wr => ∃ i : Nat, iv = .int .i64 i ∧ i ≤ Ls.length ∧ Hid (RdS wr (.slice A Ls.length ca) Ls) ∧ Hid (RdS wr (.slice B Ls.length cb) Ls) ∧ Hid (Below w.heap.size w wr)) (fun iv _ => 1001 - (intOf iv).toNat)
  case atStart => exact ⟨0, rfl, by omega, HA0.out, HB0.out, Below.refl _ _⟩
  case round =>
    obtain ⟨i, rfl, hi, HA, HB, HW⟩ := hrel
    by_cases hlt : i < Ls.length
    · obtain ⟨A', ca', hv, hA⟩ := HA.out
      injection hv with hv1 hv2 hv3
      subst hv1; subst hv3
      obtain ⟨B', cb', hv, hB⟩ := HB.out
      injection hv with hv1 hv2 hv3
      subst hv1; subst hv3
      obtain ⟨ba, rfl, hca⟩ := hA i hlt
      obtain ⟨bb, rfl, hcb⟩ := hB i hlt
      clear hA hB
      generalize Ls[i] = x at hca hcb
      go_wp2_with fail
      go_region
      go_wp2
      go_roundw
      case rel => exact ⟨i + 1, by go_num, by omega, HA.out.drew, HB.out.drew, HW.out.drew⟩
      case measure => simp [intOf]; omega
    · obtain rfl : i = Ls.length := by omega
      go_wp2
      go_ret
      exact ⟨rfl, HW.out⟩


theorem flA_len (r : List UInt8) : ∀ (cur : List UInt8), ∀ f ∈ flA cur r, f.length ≤ cur.length + r.length := by
  induction r with
  | nil =>
    intro cur f hf
    rw [flA] at hf
    by_cases h : cur = []
    · rw [if_pos h] at hf; cases hf
    · rw [if_neg h, List.mem_singleton] at hf
      subst hf; simp
  | cons x r ih =>
    intro cur f hf
    rw [flA] at hf
    by_cases hx : x = 32
    · rw [if_pos hx] at hf
      have h0 : ∀ f ∈ flA [] r, f.length ≤ cur.length + (x :: r).length := fun f hf => by
        have := ih [] f hf
        simp at this ⊢; omega
      by_cases h : cur = []
      · rw [if_pos h] at hf; exact h0 f hf
      · rw [if_neg h, List.mem_cons] at hf
        rcases hf with rfl | hf
        · simp
        · exact h0 f hf
    · rw [if_neg hx] at hf
      have := ih (cur ++ [x]) f hf
      simp at this ⊢; omega
theorem SF.size {l : ByteArray} {Ls : List ByteArray} (h : SF l Ls true) (i : Nat) (hi : i < Ls.length) : Ls[i].size ≤ 600 := by
  rcases h with ⟨⟨hg, _⟩, _, he⟩ | ⟨_, hf, _⟩
  · have hm : Ls[i].data.toList ∈ fl l.data.toList := by
      rw [← he]; exact List.mem_map.2 ⟨Ls[i], List.getElem_mem hi, rfl⟩
    have h1 := flA_len l.data.toList [] _ hm
    have h2 : l.data.toList.length = l.size := by simp
    have h3 : Ls[i].data.toList.length = Ls[i].size := by simp
    have := hg.1
    simp only [List.length_nil] at h1
    omega
  · cases hf
theorem join_next {Ls : List ByteArray} {i : Nat} (hi : i < Ls.length) {S : ByteArray} (h : S.data.toList = joinL (toLs (Ls.take i))) : (S ++ Ls[i] ++ ⟨#[32]⟩).data.toList = joinL (toLs (Ls.take (i + 1))) := by
  rw [List.take_succ_eq_append_getElem hi, toLs, List.map_append, joinL_append, ← toLs, ← h]
  simp [ByteArray.data_append, joinL]
theorem itoa_m3 : Lib.itoa (-3) = [45, 51] := by
  rw [show (-3 : Int) = -((3 : Nat) : Int) from rfl, Lib.itoa_neg 3 (by decide), Lib.decDigits_one (by decide)]; rfl

set_option maxHeartbeats 4000000 in
set_option maxRecDepth 100000 in
theorem lawFieldsAgain (A : Option Addr) (n c : Nat) (w : World) (hr : RdB w A n) (hT : Tab w) (m : Int) (hm : w.cell? ⟨0, 0, none⟩ = some (.int .i64 m)) :
    Calls Tryd.prog 5 #[.slice A n c] w fun e w' => e = .returned (.bool true) ∧ Below w.heap.size w w' := by
  have hn := hr.1
  have HT := hid hT
  have HM := hid hm
  clear hT hm
  by_cases hbig : n > 1048576
  · clear hr
    go_enter Tryd.func5, Tryd.ntmps5
    go_wp2
    go_ret
    exact ⟨rfl, Below.refl _ _⟩
  · go_enter Tryd.func5, Tryd.ntmps5
    go_wp2_with (go_at_call 13; go_in)
    refine (dSplitFields _ hr (Below.refl _ _)).mono ?_
    clear hr
    rintro e w1 ⟨T, rfl, hsz, hb⟩
    have HB1 := hid hb
    clear hb
    go_wp2_with fail
    have HM1 := hid ((HB1.out.cell (p := ⟨0, 0, none⟩) (World.block_lt_of_cell? w _ HM.out)).trans HM.out)
    refine (iSplit T (by omega) m HM1.out (Below.refl _ w1)).mono ?_
    rintro e w2 ⟨⟨v2, ok, Ls, rfl, hsf, ht⟩, hb⟩
    have HT2 := hid ht
    have HSF := hid hsf
    have hlen := hsf.len
    have HB2 := hid (HB1.out.trans (hb.mono HB1.out.size))
    clear hb ht
    go_wp2_with fail
    refine (sSplit T (by omega) (Below.refl _ w2)).mono ?_
    rintro e w3 ⟨⟨v3, ok3, Ls3, rfl, hsf3, _⟩, hb⟩
    obtain ⟨rfl, rfl⟩ := hsf.same hsf3
    have HT3 := hid (HT2.out.keep hb)
    have HB3 := hid (HB2.out.trans (hb.mono HB2.out.size))
    clear hb hsf hsf3
    obtain ⟨A2, cap2, rfl⟩ := txts_slice HT3.out
    cases ok
    · have hnil : Ls = [] := by
        rcases HSF.out with ⟨_, h, _⟩ | ⟨_, _, h⟩
        · cases h
        · exact h
      subst hnil
      go_wp2_with fail
      refine (iFI (-3) (by decide) (by decide) HT.out HB3.out).mono ?_
      rintro e w4 ⟨rfl, hb⟩
      have HB4 := hid hb
      clear hb
      rw [itoa_m3]
      go_wp2
      all_goals (go_ret; exact ⟨by first | rfl | (simp; done) | decide, HB4.out⟩)
    · go_wp2
      go_loopw [8, 9] (fun sv iv wr => ∃ (i : Nat) (S : ByteArray), iv = .int .i64 i ∧ i ≤ Ls.length ∧ sv = .string S ∧ S.size ≤ 601 * i ∧ Hid (S.data.toList = joinL (toLs (Ls.take i))) ∧ w3 = wr) (fun _ iv _ => 30 - (intOf iv).toNat)
      case atStart => exact ⟨0, ⟨#[]⟩, rfl, by omega, rfl, by decide, by rw [List.take_zero]; rfl, rfl⟩
      case round =>
        obtain ⟨i, S, rfl, hi, rfl, hS, HJ, rfl⟩ := hrel
        have h1 : (⟨#[32]⟩ : ByteArray).size = 1 := rfl
        by_cases hlt : i < Ls.length
        · obtain ⟨A3, cap3, hv, hA⟩ := RdS.of HT3.out
          injection hv with hv1 _ hv3
          subst hv1; subst hv3
          obtain ⟨b, rfl, hc⟩ := hA i hlt
          have hx := HSF.out.size i hlt
          have HJn := hid (join_next hlt HJ.out)
          clear hA
          generalize Ls[i] = x at hc hx HJn
          go_wp2
          go_roundw
          case rel => exact ⟨i + 1, S ++ x ++ (⟨#[32]⟩ : ByteArray), by go_num, by omega, rfl, by rw [ByteArray.size_append, ByteArray.size_append]; omega, HJn.out, trivial⟩
          case measure => simp [intOf]; omega
        · obtain rfl : i = Ls.length := by omega
          have hj := HJ.out
          rw [List.take_length] at hj
          have HJ2 := hid hj
          clear hj
          have HM3 := hid ((HB3.out.cell (p := ⟨0, 0, none⟩) (World.block_lt_of_cell? w _ HM.out)).trans HM.out)
          go_wp2_with fail
          refine (iSplit S (by omega) m HM3.out (Below.refl _ _)).mono ?_
          rintro e w4 ⟨⟨v4, ok4, Ls4, rfl, hsf4, ht4⟩, hb⟩
          have HB4 := hid (HB3.out.trans (hb.mono HB3.out.size))
          have HT4 := hid (HT3.out.keep hb)
          have HT5 := hid ht4
          clear ht4 hb
          by_cases h600 : 600 < S.size
          · go_wp2
            all_goals (go_ret; exact ⟨by first | rfl | (simp; done) | decide, HB4.out⟩)
          · obtain ⟨rfl, rfl⟩ := (fields_again HSF.out HJ2.out (by omega)).same hsf4
            go_wp2_with fail
            refine (sameTexts_eq (by omega) (RdS.of HT4.out) (RdS.of HT5.out)).mono ?_
            rintro e w5 ⟨rfl, hb⟩
            have HB5 := hid (HB4.out.trans (hb.mono HB4.out.size))
            clear hb
            go_wp2
            all_goals (go_ret; exact ⟨by first | rfl | (simp; done) | decide, HB5.out⟩)
end Go.Proofs.YtcafecpiijmkoaaDoor
