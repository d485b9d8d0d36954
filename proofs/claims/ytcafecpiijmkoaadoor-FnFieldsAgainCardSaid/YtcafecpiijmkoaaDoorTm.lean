/- The texts of thousandths: both sides' FormatFixed. -/
import Derived.Test.YtcafecpiijmkoaaDoorTj
namespace Go.Proofs.YtcafecpiijmkoaaDoor
open Go.RowKit

theorem cat2 (A B : List UInt8) : ((⟨A.toArray⟩ : ByteArray) ++ (⟨B.toArray⟩ : ByteArray)) = ⟨(A ++ B).toArray⟩ := by
  apply ByteArray.ext; simp [ByteArray.data_append]
theorem size_list (A : List UInt8) : (⟨A.toArray⟩ : ByteArray).size = A.length := by simp [ByteArray.size]
theorem itoa_nat (u : Nat) : Lib.itoa (u : Int) = Lib.decDigits u := Lib.itoa_nonneg u

theorem within (n lo hi : Int) (w : World) :
    Calls Tryd.prog 57 #[.int .i64 n, .int .i64 lo, .int .i64 hi] w fun e w' => e = .returned (.bool (decide (lo ≤ n ∧ n ≤ hi))) ∧ w = w' := by
  by_cases h1 : lo ≤ n <;> by_cases h2 : n ≤ hi
  all_goals
    go_enter Tryd.func57, Tryd.ntmps57
    go_wp2
    go_ret
    simp [h1, h2]
theorem l01In (n lo hi : Int) (w : World) :
    Calls Tryd.prog 49 #[.int .i64 n, .int .i64 lo, .int .i64 hi] w fun e w' => e = .returned (.bool (decide (lo ≤ n ∧ n ≤ hi))) ∧ w = w' := by
  by_cases h1 : lo ≤ n <;> by_cases h2 : n ≤ hi
  all_goals
    go_enter Tryd.func49, Tryd.ntmps49
    go_wp2
    go_ret
    simp [h1, h2]
theorem fixedOk (n : Int) (w : World) :
    Calls Tryd.prog 46 #[.int .i64 n] w fun e w' => e = .returned (.bool (decide (-1000000000 ≤ n ∧ n ≤ 1000000000))) ∧ w = w' := by
  go_enter Tryd.func46, Tryd.ntmps46
  go_wp2_with fail
  refine (within n (-1000000000) 1000000000 _).mono ?_
  rintro e w1 ⟨rfl, rfl⟩
  go_wp2
  go_ret
  exact ⟨congrArg Ending.returned (congrArg Value.bool (by simp)), rfl⟩

def slen : Value → Nat
  | .string s => s.size
  | _ => 0
theorem itoa_mod (u : Nat) : Lib.itoa ((u : Int) % 1000) = Lib.decDigits (u % 1000) := itoa_nat (u % 1000)
theorem step_call {P : Program} {ops : Array Oper} {o : Oper} {a : Act} {w : World} {K : Act → World → Prop} {Q : Exit → Act → World → Prop} {E : Prop}
    (hg : o.guard = none) (f : Nat) (x : Operand) (t : TypeId) (hop : o.op = Op.call { callee := Callee.value (Operand.func f), args := #[x], argTypes := #[t] })
    (hent : ∀ args w, (callFunc f args).run P w = .ok (.enter f args) w) (u v : Value) (hx : a.eval x = u) (R : World → Prop)
    (hc : Calls P f #[u] w fun e w' => e = .returned v ∧ R w') (hK : ∀ w', R w' → K (a.put o.dst v) w') :
    if Region.wanted o (yielded ops a.tmps) = true then Oper.wp P o a w K Q else E := by
  have hw : Region.wanted o (yielded ops a.tmps) = true := by simp [Region.wanted, hg]
  rw [if_pos hw]
  have hrun : (execOp a.eval o).run P w = .ok (.enter f #[a.eval x]) w := by simp [go_sem, execOp, hop, resolve, invoke, hent, Deferred.ofValue]
  unfold Oper.wp
  rw [hrun, hx]
  refine hc.mono ?_
  rintro e w' ⟨rfl, hr⟩
  exact hK _ hr
theorem itoa_1000 (u : Nat) : Lib.itoa (1000 + (u : Int) % 1000) = 49 :: d3 (u % 1000) := by
  rw [← dec_1000 _ (by omega), ← itoa_nat]; rfl
theorem itoa_div (u : Nat) : Lib.itoa ((u : Int) / 1000) = Lib.decDigits (u / 1000) := itoa_nat (u / 1000)

set_option maxHeartbeats 1000000 in
set_option maxRecDepth 100000 in
theorem iFormatFixed {W w : World} (n : Int) (h0 : -9223372036854775808 ≤ n) (h1 : n ≤ 9223372036854775807) (hT : Tab W) (hB : Below W.heap.size W w) :
    Calls Tryd.prog 20 #[.int .i64 n] w fun e w' => e = .returned (.string (fixB n)) ∧ Below W.heap.size W w' := by
  by_cases hr : -1000000000 ≤ n ∧ n ≤ 1000000000
  · have hf : fixB n = ⟨(fixL n).toArray⟩ := if_pos hr
    rw [hf]
    clear hf
    obtain ⟨r0, r1⟩ := hr
    have HB := hid hB
    have HT := hid hT
    clear hB hT
    by_cases hn : n < 0
    · obtain ⟨u, rfl⟩ : ∃ u : Nat, n = -(u : Int) := ⟨n.natAbs, by omega⟩
      go_enter Tryd.func20, Tryd.ntmps20
      go_wp2_with fail
      refine (fixedOk _ _).mono ?_
      rintro e w1 ⟨rfl, rfl⟩
      have hd : decide (-1000000000 ≤ (-(u : Int)) ∧ (-(u : Int)) ≤ 1000000000) = true := decide_eq_true ⟨r0, r1⟩
      rw [hd]
      clear hd
      go_wp2_with fail
      refine (iFI ((u : Int) % 1000) (by omega) (by omega) HT.out HB.out).mono ?_
      rintro e w1 ⟨rfl, hB1⟩
      have HB1 := hid hB1
      clear hB1
      rw [itoa_mod]
      have hl1 : (Lib.decDigits (u % 1000)).length ≤ 3 := decDigits_len_le (by omega) (by omega)
      have hl2 : (Lib.decDigits (u / 1000)).length ≤ 7 := decDigits_len_le (by omega) (by omega)
      have HP := hid (pad3_dec (u % 1000) (by omega))
      generalize Lib.decDigits (u % 1000) = L0 at hl1 HP ⊢
      go_wp2
      go_loopw [4] (fun rv wr => ∃ L : List UInt8, rv = .string ⟨L.toArray⟩ ∧ Hid (pad3 L = d3 (u % 1000)) ∧ L.length ≤ 3 ∧ Hid (Below W.heap.size W wr)) (fun rv _ => 3 - slen rv)
      case atStart => exact ⟨L0, rfl, HP.out, hl1, HB1.out⟩
      case round =>
        obtain ⟨L, rfl, HL, hL3, HB2⟩ := hrel
        by_cases hlt : L.length < 3
        · go_wp2
          go_roundw
          case rel => exact ⟨48 :: L, by rw [one_cat], by show pad3 _ = _; rw [pad3_step _ hlt]; exact HL.out, by rw [List.length_cons]; omega, HB2.out⟩
          case measure => (simp only [slen, one_cat, size_list, List.length_cons]; omega)
        · have hL : L = d3 (u % 1000) := by rw [← HL.out, pad3_done _ (by omega)]
          go_wp2_with fail
          refine (iFI ((u : Int) / 1000) (by omega) (by omega) HT.out HB2.out).mono ?_
          rintro e w1 ⟨rfl, hB3⟩
          have HB3 := hid hB3
          clear hB3
          rw [itoa_div]
          have HF := hid (show fixL (-(u : Int)) = 45 :: Lib.decDigits (u / 1000) ++ 46 :: L by rw [hL, fixL]; rw [if_pos hn, Int.natAbs_neg, Int.natAbs_natCast]; rfl)
          clear hL
          generalize Lib.decDigits (u / 1000) = D at hl2 HF ⊢
          go_wp2
          go_ret
          refine ⟨?_, HB3.out⟩
          rw [HF.out]
          refine congrArg Ending.returned (show Value.string (⟨#[45]⟩ ++ ⟨D.toArray⟩ ++ ⟨#[46]⟩ ++ ⟨L.toArray⟩) = _ from congrArg Value.string ?_)
          apply ByteArray.ext; simp [ByteArray.data_append]
    · obtain ⟨u, rfl⟩ : ∃ u : Nat, n = (u : Int) := ⟨n.toNat, by omega⟩
      go_enter Tryd.func20, Tryd.ntmps20
      go_wp2_with fail
      refine (fixedOk _ _).mono ?_
      rintro e w1 ⟨rfl, rfl⟩
      have hd : decide (-1000000000 ≤ (u : Int) ∧ (u : Int) ≤ 1000000000) = true := decide_eq_true ⟨r0, r1⟩
      rw [hd]
      clear hd
      go_wp2_with fail
      refine (iFI ((u : Int) % 1000) (by omega) (by omega) HT.out HB.out).mono ?_
      rintro e w1 ⟨rfl, hB1⟩
      have HB1 := hid hB1
      clear hB1
      rw [itoa_mod]
      have hl1 : (Lib.decDigits (u % 1000)).length ≤ 3 := decDigits_len_le (by omega) (by omega)
      have hl2 : (Lib.decDigits (u / 1000)).length ≤ 7 := decDigits_len_le (by omega) (by omega)
      have HP := hid (pad3_dec (u % 1000) (by omega))
      generalize Lib.decDigits (u % 1000) = L0 at hl1 HP ⊢
      go_wp2
      go_loopw [4] (fun rv wr => ∃ L : List UInt8, rv = .string ⟨L.toArray⟩ ∧ Hid (pad3 L = d3 (u % 1000)) ∧ L.length ≤ 3 ∧ Hid (Below W.heap.size W wr)) (fun rv _ => 3 - slen rv)
      case atStart => exact ⟨L0, rfl, HP.out, hl1, HB1.out⟩
      case round =>
        obtain ⟨L, rfl, HL, hL3, HB2⟩ := hrel
        by_cases hlt : L.length < 3
        · go_wp2
          go_roundw
          case rel => exact ⟨48 :: L, by rw [one_cat], by show pad3 _ = _; rw [pad3_step _ hlt]; exact HL.out, by rw [List.length_cons]; omega, HB2.out⟩
          case measure => (simp only [slen, one_cat, size_list, List.length_cons]; omega)
        · have hL : L = d3 (u % 1000) := by rw [← HL.out, pad3_done _ (by omega)]
          go_wp2_with fail
          refine (iFI ((u : Int) / 1000) (by omega) (by omega) HT.out HB2.out).mono ?_
          rintro e w1 ⟨rfl, hB3⟩
          have HB3 := hid hB3
          clear hB3
          rw [itoa_div]
          have HF := hid (show fixL (u : Int) =  Lib.decDigits (u / 1000) ++ 46 :: L by rw [hL, fixL]; rw [if_neg (by omega), Int.natAbs_natCast]; rfl)
          clear hL
          generalize Lib.decDigits (u / 1000) = D at hl2 HF ⊢
          go_wp2
          go_ret
          refine ⟨?_, HB3.out⟩
          rw [HF.out]
          refine congrArg Ending.returned (show Value.string (⟨#[]⟩ ++ ⟨D.toArray⟩ ++ ⟨#[46]⟩ ++ ⟨L.toArray⟩) = _ from congrArg Value.string ?_)
          apply ByteArray.ext; simp [ByteArray.data_append]
  · have hf : fixB n = ⟨#[]⟩ := if_neg hr
    rw [hf]
    clear hf
    have HB := hid hB
    clear hB
    go_enter Tryd.func20, Tryd.ntmps20
    go_wp2_with fail
    refine (fixedOk _ _).mono ?_
    rintro e w1 ⟨rfl, rfl⟩
    have hd : decide (-1000000000 ≤ n ∧ n ≤ 1000000000) = false := decide_eq_false hr
    rw [hd]
    go_wp2
    go_ret
    exact ⟨rfl, HB.out⟩

theorem tail3 (L : List UInt8) (h : L.length = 3) : (⟨(49 :: L).toArray⟩ : ByteArray).extract 1 4 = ⟨L.toArray⟩ := by
  match L, h with
  | [a, b, c], _ => apply ByteArray.ext; rw [ByteArray.data_extract]; simp
theorem sFIq {W w : World} (u : Nat) (hu : u ≤ 1000000000) (hB : Below W.heap.size W w) :
    Calls Tryd.prog 25 #[.int .i64 (IntKind.i64.wrap ((u : Int).tdiv 1000))] w fun e w' => e = .returned (.string ⟨(Lib.decDigits (u / 1000)).toArray⟩) ∧ Below W.heap.size W w' := by
  have e : IntKind.i64.wrap ((u : Int).tdiv 1000) = (u : Int) / 1000 := by
    rw [Int.tdiv_eq_ediv_of_nonneg (by omega), IntKind.wrap_i64]; omega
  rw [e, ← itoa_div]
  exact sFI _ (by omega) (by omega) hB

set_option maxHeartbeats 1000000 in
set_option maxRecDepth 100000 in
theorem sFormatFixed {W w : World} (n : Int) (h0 : -9223372036854775808 ≤ n) (h1 : n ≤ 9223372036854775807) (hB : Below W.heap.size W w) :
    Calls Tryd.prog 26 #[.int .i64 n] w fun e w' => e = .returned (.string (fixB n)) ∧ Below W.heap.size W w' := by
  by_cases hr : -1000000000 ≤ n ∧ n ≤ 1000000000
  · have hf : fixB n = ⟨(fixL n).toArray⟩ := if_pos hr
    rw [hf]
    clear hf
    obtain ⟨r0, r1⟩ := hr
    have HB := hid hB
    clear hB
    by_cases hn : n < 0
    · obtain ⟨u, rfl⟩ : ∃ u : Nat, n = -(u : Int) := ⟨n.natAbs, by omega⟩
      go_enter Tryd.func26, Tryd.ntmps26
      go_wp2_with fail
      refine (l01In _ _ _ _).mono ?_
      rintro e w1 ⟨rfl, rfl⟩
      have hd : decide (-1000000000 ≤ (-(u : Int)) ∧ (-(u : Int)) ≤ 1000000000) = true := decide_eq_true ⟨r0, r1⟩
      rw [hd]
      clear hd
      go_wp2_with fail
      refine (sFI (1000 + (u : Int) % 1000) (by omega) (by omega) HB.out).mono ?_
      rintro e wa ⟨rfl, hB1⟩
      have HB1 := hid hB1
      clear hB1
      rw [itoa_1000]
      have hl2 : (Lib.decDigits (u / 1000)).length ≤ 7 := decDigits_len_le (by omega) (by omega)
      have hl3 : (d3 (u % 1000)).length = 3 := rfl
      have HF := hid (show fixL (-(u : Int)) = 45 :: Lib.decDigits (u / 1000) ++ 46 :: d3 (u % 1000) by rw [fixL]; rw [if_pos hn, Int.natAbs_neg, Int.natAbs_natCast]; rfl)
      generalize d3 (u % 1000) = L at hl3 HF ⊢
      go_wp2_with fail
      have hx := tail3 L hl3
      have hq1 : ¬ 9223372036854775807 < 1 + (Lib.decDigits (u / 1000)).length := by omega
      have hq2 : ¬ 9223372036854775807 < 1 + (Lib.decDigits (u / 1000)).length + 1 := by omega
      have hq3 : ¬ 9223372036854775807 < 1 + (Lib.decDigits (u / 1000)).length + 1 + 3 := by omega
      have hent : ∀ args w, (callFunc 25 args).run Tryd.prog w = .ok (.enter 25 args) w := enters_of Tryd.func25 (by kernel_rfl) rfl
      go_region_law (refine step_call rfl 25 (.tmp 18) 3 rfl hent _ _ rfl _ (sFIq u (by omega) HB1.out.drew) ?_; intro w3 hB3)
      go_wp2
      go_ret
      refine ⟨?_, hB3⟩
      rw [HF.out]
      refine congrArg Ending.returned (show Value.string (⟨#[45]⟩ ++ ⟨(Lib.decDigits (u / 1000)).toArray⟩ ++ ⟨#[46]⟩ ++ ⟨L.toArray⟩) = _ from congrArg Value.string ?_)
      apply ByteArray.ext; simp [ByteArray.data_append]
    · obtain ⟨u, rfl⟩ : ∃ u : Nat, n = (u : Int) := ⟨n.toNat, by omega⟩
      go_enter Tryd.func26, Tryd.ntmps26
      go_wp2_with fail
      refine (l01In _ _ _ _).mono ?_
      rintro e w1 ⟨rfl, rfl⟩
      have hd : decide (-1000000000 ≤ (u : Int) ∧ (u : Int) ≤ 1000000000) = true := decide_eq_true ⟨r0, r1⟩
      rw [hd]
      clear hd
      go_wp2_with fail
      refine (sFI (1000 + (u : Int) % 1000) (by omega) (by omega) HB.out).mono ?_
      rintro e wa ⟨rfl, hB1⟩
      have HB1 := hid hB1
      clear hB1
      rw [itoa_1000]
      have hl2 : (Lib.decDigits (u / 1000)).length ≤ 7 := decDigits_len_le (by omega) (by omega)
      have hl3 : (d3 (u % 1000)).length = 3 := rfl
      have HF := hid (show fixL (u : Int) = Lib.decDigits (u / 1000) ++ 46 :: d3 (u % 1000) by rw [fixL]; rw [if_neg (by omega), Int.natAbs_natCast]; rfl)
      generalize d3 (u % 1000) = L at hl3 HF ⊢
      go_wp2_with fail
      have hx := tail3 L hl3
      have hq1 : ¬ 9223372036854775807 < (Lib.decDigits (u / 1000)).length := by omega
      have hq2 : ¬ 9223372036854775807 < (Lib.decDigits (u / 1000)).length + 1 := by omega
      have hq3 : ¬ 9223372036854775807 < (Lib.decDigits (u / 1000)).length + 1 + 3 := by omega
      have hent : ∀ args w, (callFunc 25 args).run Tryd.prog w = .ok (.enter 25 args) w := enters_of Tryd.func25 (by kernel_rfl) rfl
      go_region_law (refine step_call rfl 25 (.tmp 18) 3 rfl hent _ _ rfl _ (sFIq u (by omega) HB1.out.drew) ?_; intro w3 hB3)
      go_wp2
      go_ret
      refine ⟨?_, hB3⟩
      rw [HF.out]
      refine congrArg Ending.returned (show Value.string (⟨#[]⟩ ++ ⟨(Lib.decDigits (u / 1000)).toArray⟩ ++ ⟨#[46]⟩ ++ ⟨L.toArray⟩) = _ from congrArg Value.string ?_)
      apply ByteArray.ext; simp [ByteArray.data_append]
  · have hf : fixB n = ⟨#[]⟩ := if_neg hr
    rw [hf]
    clear hf
    have HB := hid hB
    clear hB
    go_enter Tryd.func26, Tryd.ntmps26
    go_wp2_with fail
    refine (l01In _ _ _ _).mono ?_
    rintro e w1 ⟨rfl, rfl⟩
    have hd : decide (-1000000000 ≤ n ∧ n ≤ 1000000000) = false := decide_eq_false hr
    rw [hd]
    go_wp2
    go_ret
    exact ⟨rfl, HB.out⟩
end Go.Proofs.YtcafecpiijmkoaaDoor
