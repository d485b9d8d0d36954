/- The law FnExactSplitFields: the marks, the comparisons. -/
import Derived.Test.YtcafecpiijmkoaaDoorSr
import Derived.Test.YtcafecpiijmkoaaDoorTi
namespace Go.Proofs.YtcafecpiijmkoaaDoor
open Go.RowKit

def mk (k : Nat) : ByteArray := ⟨(109 :: Lib.decDigits k).toArray⟩

set_option maxHeartbeats 1000000 in
set_option maxRecDepth 100000 in
theorem markText (n : Nat) (h0 : 1 ≤ n) (h1 : n ≤ 1000000) (w : World) :
    Calls Tryd.prog 52 #[.int .i64 n] w fun e w' => e = .returned (.string (mk n)) ∧ Below w.heap.size w w' := by
  go_enter Tryd.func52, Tryd.ntmps52
  go_wp2
  go_loopw [0, 3] (fun nv sv wr => ∃ (m : Nat) (L : List UInt8), nv = .int .i64 m ∧ m ≤ n ∧ sv = .string ⟨L.toArray⟩ ∧ Hid (decD n = decD m ++ L) ∧ Hid (Below w.heap.size w wr)) (fun nv _ _ => (intOf nv).toNat)
  case atStart => exact ⟨n, [], rfl, by omega, rfl, by show _ = _ ++ []; simp, Below.refl _ _⟩
  case round =>
    obtain ⟨m, L, rfl, hmn, rfl, HL, HB⟩ := hrel
    have hd : decD n = Lib.decDigits n := if_neg (by omega)
    have hlen : L.length ≤ 20 := by
      have e := congrArg List.length HL.out
      rw [List.length_append, hd] at e
      have := decDigits_len_le (u := n) (k := 20) (by omega) (by omega)
      omega
    have HD := hid hd
    clear hd
    by_cases hm : 0 < m
    · obtain ⟨d, hdm⟩ : ∃ d : Nat, (m : Int) % 10 = d := ⟨m % 10, by omega⟩
      have hd9 : d < 10 := by omega
      have HDd := hid (show d = m % 10 by omega)
      obtain ⟨x, hx⟩ : ∃ x : UInt8, UInt8.ofNat (48 + d) = x := ⟨_, rfl⟩
      have hxn : x.toNat = 48 + d := by rw [← hx]; exact dig_nat d hd9
      have HX := hid hx
      clear hx
      have hcv : ∀ w0 : World, (convert 22 9 (.slice (some ⟨w0.heap.size, 0, none⟩) 1 1)).run Tryd.prog (w0.alloc (.cells #[.int .u8 (48 + (d : Int))] 5)) = .ok (.string ⟨#[x]⟩) (w0.alloc (.cells #[.int .u8 (48 + (d : Int))] 5)) := by
        intro w0
        refine run_convert_bytes_back (P := Tryd.prog) _ 22 9 5 ⟨w0.heap.size, 0, none⟩ 1 [x] Tryd.underlying22 Tryd.underlying5 Tryd.underlying9 ?_
        intro t ht
        obtain rfl : t = 0 := by simpa using ht
        have := cell_one_new w0 (.int .u8 (48 + (d : Int))) 5 0 (.int .u8 (48 + (d : Int))) rfl
        have e : ((x.toNat : Nat) : Int) = 48 + (d : Int) := by rw [hxn]; push_cast; rfl
        simpa [e] using this
      clear hxn
      go_wp2
      go_roundw
      case rel => exact ⟨m / 10, x :: L, by go_num, by omega, by rw [one_cat], by
        show _ = _
        rw [HL.out, decD_step m (by omega), ← HX.out, HDd.out, List.append_assoc]; rfl, HB.out.alloc HB.out.size _⟩
      case measure => (simp [intOf]; omega)
    · obtain rfl : m = 0 := by omega
      have hL : Lib.decDigits n = L := by have := HL.out; rw [show decD 0 = [] from rfl, List.nil_append, HD.out] at this; exact this
      have HI := hid hL
      clear hL
      go_wp2
      go_ret
      exact ⟨by rw [mk, HI.out, ← one_cat]; rfl, HB.out⟩

/-- texts that can be read -/
def RdS (w : World) (v : Value) (Ls : List ByteArray) : Prop := ∃ A cap, v = .slice A Ls.length cap ∧ ∀ j (h : j < Ls.length), ∃ b, A = some ⟨b, 0, none⟩ ∧ w.cell? ⟨b, j, none⟩ = some (.string Ls[j])
theorem RdS.of {base : Nat} {w : World} {v : Value} {Ls : List ByteArray} (h : Txts base w v Ls) : RdS w v Ls := by
  have h0 := h
  rcases h.2 with ⟨rfl, hn⟩ | ⟨g, cap, cur, rfl, _⟩
  · exact ⟨none, 0, by rw [hn], fun j hj => by omega⟩
  · refine ⟨some ⟨g, 0, none⟩, cap, rfl, fun j hj => ⟨g, rfl, ?_⟩⟩
    rw [World.ownsRow.cellAt h0 j (by omega)]
    simp [List.getElem?_eq_getElem hj]
theorem RdS.below {w w' : World} {v : Value} {Ls : List ByteArray} (h : RdS w v Ls) (hB : Below w.heap.size w w') : RdS w' v Ls := by
  obtain ⟨A, cap, hv, hc⟩ := h
  refine ⟨A, cap, hv, fun j hj => ?_⟩
  obtain ⟨b, hA, hb⟩ := hc j hj
  exact ⟨b, hA, (hB.cell (World.block_lt_of_cell? w _ hb)).trans hb⟩

theorem RdS.drew {w : World} {v : Value} {Ls : List ByteArray} (h : RdS w v Ls) : RdS w.drew v Ls := h.below (Below.refl _ _).drew

set_option maxHeartbeats 1000000 in
set_option maxRecDepth 100000 in
theorem eqTexts {w : World} {a b : Value} {Ls : List ByteArray} (hl : Ls.length ≤ 1000) (ha : RdS w a Ls) (hb : RdS w b Ls) :
    Calls Tryd.prog 31 #[a, b] w fun e w' => e = .returned (.bool true) ∧ Below w.heap.size w w' := by
  have HA0 := hid ha
  have HB0 := hid hb
  obtain ⟨A, ca, rfl, hA⟩ := ha
  obtain ⟨B, cb, rfl, hB'⟩ := hb
  clear hA hB'
  go_enter Tryd.func31, Tryd.ntmps31
  go_wp2
  go_loopw [5] (fun iv wr => ∃ i : Nat, iv = .int .i64 i ∧ i ≤ Ls.length ∧ Hid (RdS wr (.slice A Ls.length ca) Ls) ∧ Hid (RdS wr (.slice B Ls.length cb) Ls) ∧ Hid (Below w.heap.size w wr)) (fun iv _ => 1001 - (intOf iv).toNat)
  case atStart => exact ⟨0, rfl, by omega, HA0.out, HB0.out, Below.refl _ _⟩
  case round =>
    obtain ⟨i, rfl, hi, HA, HB, HW⟩ := hrel
    by_cases hlt : i < Ls.length
    · obtain ⟨A', ca', hv, hA⟩ := HA.out
      injection hv with hv1 hv2 hv3
      subst hv1; subst hv3
      obtain ⟨B', cb', hv, hB⟩ := HB.out
      injection hv with hv1 hv2 hv3
      subst hv1; subst hv3
      obtain ⟨ba, rfl, hca⟩ := hA i hlt
      obtain ⟨bb, rfl, hcb⟩ := hB i hlt
      clear hA hB
      generalize Ls[i] = x at hca hcb
      go_wp2_with fail
      go_region
      go_wp2
      go_roundw
      case rel => exact ⟨i + 1, by go_num, by omega, HA.out.drew, HB.out.drew, HW.out.drew⟩
      case measure => simp [intOf]; omega
    · obtain rfl : i = Ls.length := by omega
      go_wp2
      go_ret
      exact ⟨rfl, HW.out⟩

theorem txts_set {base : Nat} {w : World} {v : Value} {Ls : List ByteArray} (h : Txts base w v Ls) (i : Nat) (hi : i < Ls.length) : ∃ g cap u, v = .slice (some ⟨g, 0, none⟩) Ls.length cap ∧ base ≤ g ∧ g < w.heap.size ∧ w.cell? ⟨g, i, none⟩ = some u ∧ w.frozen? ⟨g, i, none⟩ = false ∧ ∀ w' : World, w'.heap[g]? = w.heap[g]? → ∀ x, Txts base (w'.setCell ⟨g, i, none⟩ (.string x)) v (Ls.set i x) := by
  obtain ⟨h1, h2⟩ := h
  rcases h2 with ⟨_, hn⟩ | ⟨g, cap, cur, rfl, hg, hb, hc1, hc2, hcs, htk⟩
  · omega
  · rw [Nat.mul_one] at hcs
    refine ⟨g, cap, cur[i]'(by omega), rfl, hg, lt_of_block hb, by rw [block_cell hb i, Array.getElem?_eq_getElem], block_free hb i, fun w' hw x => ?_⟩
    refine ⟨by simp, .inr ⟨g, cap, cur.setIfInBounds i (.string x), by rw [List.length_set], hg, block_set (hw.trans hb) i _, by rw [List.length_set]; exact hc1, hc2, by rw [Array.size_setIfInBounds, hcs, Nat.mul_one], ?_⟩⟩
    rw [List.length_set, Array.toList_setIfInBounds, List.map_set, ← htk, List.take_set]
theorem Txts.keep {base : Nat} {w w' : World} {v : Value} {Ls : List ByteArray} (h : Txts base w v Ls) (hB : Below w.heap.size w w') : Txts base w' v Ls := by
  obtain ⟨h1, h2⟩ := h
  refine ⟨h1, ?_⟩
  rcases h2 with h2 | ⟨g, cap, cur, hv, hg, hb, rest⟩
  · exact .inl h2
  · exact .inr ⟨g, cap, cur, hv, hg, (hB.block _ (lt_of_block hb)).trans hb, rest⟩
def mks (k : Nat) (n : Nat) : List ByteArray := (List.range n).map fun t => mk (k + t)
theorem mks_len (k n : Nat) : (mks k n).length = n := by simp [mks]
theorem mks_next {k i : Nat} {Ls : List ByteArray} (hi : i < Ls.length) : (mks k i ++ Ls.drop i).set i (mk (k + i)) = mks k (i + 1) ++ Ls.drop (i + 1) := by
  rw [List.set_append, if_neg (by rw [mks_len]; omega), mks_len, Nat.sub_self, List.drop_eq_getElem_cons hi, List.set_cons_zero]
  simp [mks, List.range_succ]
theorem mks_full {k : Nat} {Ls : List ByteArray} : mks k Ls.length ++ Ls.drop Ls.length = mks k Ls.length := by simp
theorem mtI {w : World} (x : Int) (h0 : 1 ≤ x) (h1 : x ≤ 1000000) : Calls Tryd.prog 52 #[.int .i64 x] w fun e w' => e = .returned (.string (mk x.toNat)) ∧ Below w.heap.size w w' := by
  obtain ⟨n, rfl⟩ : ∃ n : Nat, x = n := ⟨x.toNat, by omega⟩
  exact markText n (by omega) (by omega) w

set_option maxHeartbeats 2000000 in
set_option maxRecDepth 100000 in
theorem markS {base B : Nat} {w : World} {v : Value} {Ls : List ByteArray} (k : Nat) (hk : 1 ≤ k) (hk2 : k ≤ 1000) (hl : Ls.length ≤ 1000) (h : Txts base w v Ls) (hB1 : B ≤ base) (hB2 : B ≤ w.heap.size) :
    Calls Tryd.prog 32 #[v, .int .i64 k] w fun e w' => e = .returned (.int .i64 ((k + Ls.length : Nat) : Int)) ∧ Txts base w' v (mks k Ls.length) ∧ Below B w w' := by
  obtain ⟨A, cap, rfl⟩ := txts_slice h
  have HT := hid h
  clear h
  go_enter Tryd.func32, Tryd.ntmps32
  go_wp2
  go_loopw [1, 5] (fun kv iv wr => ∃ i : Nat, iv = .int .i64 i ∧ kv = .int .i64 ((k + i : Nat) : Int) ∧ i ≤ Ls.length ∧ Hid (Txts base wr (.slice A Ls.length cap) (mks k i ++ Ls.drop i)) ∧ Hid (Below B w wr)) (fun _ iv _ => 1001 - (intOf iv).toNat)
  case atStart => exact ⟨0, rfl, by go_num, by omega, HT.out, Below.refl _ _⟩
  case round =>
    obtain ⟨i, rfl, rfl, hi, HO, HW⟩ := hrel
    by_cases hlt : i < Ls.length
    · obtain ⟨g, cap', u, hv, hg, hgl, hc, hf, hset⟩ := txts_set HO.out i (by rw [List.length_append, mks_len, List.length_drop]; omega)
      injection hv with hv1 hv2 hv3
      subst hv1; subst hv3
      clear hv2
      have HS := hid hset
      clear hset
      go_wp2_with fail
      refine (mtI ((k : Int) + (i : Int)) (by omega) (by omega)).mono ?_
      rintro e w1 ⟨rfl, hb⟩
      rw [show ((k : Int) + (i : Int)).toNat = k + i by omega]
      have hc1 := (hb.cell (p := ⟨g, i, none⟩) hgl).trans hc
      have hf1 := (hb.frozen (p := ⟨g, i, none⟩) hgl).trans hf
      have HW1 := hid (HW.out.trans (hb.mono (show B ≤ wr.heap.size from Nat.le_trans hB2 HW.out.size)))
      have HS1 := hid (mks_next (k := k) hlt ▸ HS.out w1 (hb.block g hgl) (mk (k + i)))
      clear hc hf hb
      generalize mk (k + i) = x at HS1 ⊢
      go_wp2
      go_roundw
      case rel => exact ⟨i + 1, by go_num, by go_num, by omega, HS1.out, HW1.out.setCell (by show B ≤ g; omega) _⟩
      case measure => simp [intOf]; omega
    · obtain rfl : i = Ls.length := by omega
      have hO := HO.out
      rw [mks_full] at hO
      have HO2 := hid hO
      clear hO
      go_wp2
      go_ret
      exact ⟨by first | rfl | (push_cast; rfl), HO2.out, HW.out⟩

theorem step_call {P : Program} {ops : Array Oper} {o : Oper} {a : Act} {w : World} {K : Act → World → Prop} {Q : Exit → Act → World → Prop} {E : Prop}
    (hg : o.guard = none) (f : Nat) (x : Operand) (t : TypeId) (hop : o.op = Op.call { callee := Callee.value (Operand.func f), args := #[x], argTypes := #[t] })
    (hent : ∀ args w, (callFunc f args).run P w = .ok (.enter f args) w) (u v : Value) (hx : a.eval x = u) (R : World → Prop)
    (hc : Calls P f #[u] w fun e w' => e = .returned v ∧ R w') (hK : ∀ w', R w' → K (a.put o.dst v) w') :
    if Region.wanted o (yielded ops a.tmps) = true then Oper.wp P o a w K Q else E := by
  have hw : Region.wanted o (yielded ops a.tmps) = true := by simp [Region.wanted, hg]
  rw [if_pos hw]
  have hrun : (execOp a.eval o).run P w = .ok (.enter f #[a.eval x]) w := by simp [go_sem, execOp, hop, resolve, invoke, hent, Deferred.ofValue]
  unfold Oper.wp
  rw [hrun, hx]
  refine hc.mono ?_
  rintro e w' ⟨rfl, hr⟩
  exact hK _ hr
theorem mtx {w : World} {k i : Nat} {x : ByteArray} (h : mk (k + i) = x) (h0 : 1 ≤ k) (h1 : k + i ≤ 1000000) : Calls Tryd.prog 52 #[.int .i64 ((k : Int) + (i : Int))] w fun e w' => e = .returned (.string x) ∧ Below w.heap.size w w' := by
  subst h
  have := markText (k + i) (by omega) h1 w
  push_cast at this
  exact this
theorem mks_at {k n i : Nat} (h : i < n) : (mks k n)[i]'(by rw [mks_len]; exact h) = mk (k + i) := by simp [mks]

set_option maxHeartbeats 2000000 in
set_option maxRecDepth 100000 in
theorem heldS {base : Nat} {w : World} {v : Value} (k n : Nat) (hk : 1 ≤ k) (hk2 : k ≤ 1000) (hl : n ≤ 1000) (h : Txts base w v (mks k n)) :
    Calls Tryd.prog 33 #[v, .int .i64 k] w fun e w' => e = .returned (.int .i64 ((k + n : Nat) : Int)) ∧ Below w.heap.size w w' := by
  have hr := RdS.of h
  obtain ⟨A, cap, rfl, hA⟩ := hr
  clear hA
  rw [mks_len] at h ⊢
  have HT := hid h
  clear h
  go_enter Tryd.func33, Tryd.ntmps33
  go_wp2
  go_loopw [1, 5] (fun kv iv wr => ∃ i : Nat, iv = .int .i64 i ∧ kv = .int .i64 ((k + i : Nat) : Int) ∧ i ≤ n ∧ Hid (Below w.heap.size w wr)) (fun _ iv _ => 1001 - (intOf iv).toNat)
  case atStart => exact ⟨0, rfl, by go_num, by omega, Below.refl _ _⟩
  case round =>
    obtain ⟨i, rfl, rfl, hi, HW⟩ := hrel
    by_cases hlt : i < n
    · obtain ⟨g, cap', u, hv, hg, hgl, hc, hf, hset⟩ := txts_set (HT.out.keep HW.out) i (by rw [mks_len]; exact hlt)
      injection hv with hv1 hv2 hv3
      subst hv1; subst hv3
      clear hv2 hset hf
      obtain ⟨A2, cap2, hv, hA⟩ := RdS.of (HT.out.keep HW.out)
      injection hv with hv1 hv2 hv3
      subst hv1
      obtain ⟨b2, hb2, hc2⟩ := hA i (by rw [mks_len]; exact hlt)
      injection hb2 with hb2
      injection hb2 with hb2 _ _
      subst hb2
      rw [mks_at hlt] at hc2
      clear hA hv2 hv3 hc
      generalize hx : mk (k + i) = x at hc2
      have HX := hid hx
      clear hx
      have hent : ∀ args w, (callFunc 52 args).run Tryd.prog w = .ok (.enter 52 args) w := enters_of Tryd.func52 (by kernel_rfl) rfl
      go_wp2_with fail
      go_region_law (refine step_call rfl 52 (.tmp 16) 3 rfl hent _ _ rfl _ (mtx HX.out hk (by omega)) ?_; intro w3 hB3; have hc3 : w3.cell? ⟨g, i, none⟩ = some (.string x) := (hB3.cell hgl).trans hc2)
      all_goals
        have HW3 := hid (HW.out.drew.trans (hB3.mono HW.out.size))
        clear hB3
        go_wp2
        go_roundw
        case rel => exact ⟨i + 1, by go_num, by go_num, by omega, HW3.out⟩
        case measure => simp [intOf]; omega
    · obtain rfl : i = n := by omega
      go_wp2
      go_ret
      exact ⟨by first | rfl | (push_cast; rfl), HW.out⟩
end Go.Proofs.YtcafecpiijmkoaaDoor
