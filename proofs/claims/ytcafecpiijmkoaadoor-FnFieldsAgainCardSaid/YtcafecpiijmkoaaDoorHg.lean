/- Hexadecimal text: the first side; figures (a part of XHe, for a seat that lacks spec.EncodeHex). -/
import Derived.Test.YtcafecpiijmkoaaDoorHs
import Derived.Test.YtcafecpiijmkoaaDoorCu
import Derived.Test.YtcafecpiijmkoaaDoorRows
import Derived.WalkKit
import Derived.WalkLawsBesides
import Derived.WalkSmall
import Derived.Deep.QuietTactic
import Derived.BigQuiet
import Derived.Maps.AppendAt
import Derived.Deep.RegionLaw
import Derived.Deep.RegionLawGrows
namespace Go.Proofs.YtcafecpiijmkoaaDoor
open Go.RowKit


def fig (x : Nat) : Nat := if x < 10 then 48 + x else 87 + x
def hexL : List UInt8 → List UInt8
  | [] => []
  | c :: r => UInt8.ofNat (fig (c.toNat / 16)) :: UInt8.ofNat (fig (c.toNat % 16)) :: hexL r

theorem hexL_append (a b : List UInt8) : hexL (a ++ b) = hexL a ++ hexL b := by
  induction a with
  | nil => rfl
  | cons c r ih => simp [hexL, ih]
theorem fig_lt {x : Nat} (h : x < 16) : fig x < 256 := by unfold fig; split <;> omega
theorem fig_byte {x : Nat} (h : x < 16) : (UInt8.ofNat (fig x)).toNat = fig x := by
  have := fig_lt h
  simp; omega
theorem digits_fin : ∀ x : Fin 16, ((⟨#[48, 49, 50, 51, 52, 53, 54, 55, 56, 57, 97, 98, 99, 100, 101, 102]⟩ : ByteArray)[x.1]'x.2).toNat = fig x.1 := by decide
theorem digits_at (x : Nat) (h : x < 16) : ((⟨#[48, 49, 50, 51, 52, 53, 54, 55, 56, 57, 97, 98, 99, 100, 101, 102]⟩ : ByteArray)[x]'h).toNat = fig x := digits_fin ⟨x, h⟩
theorem hex_step (s : ByteArray) (j : Nat) (h : j < s.size) {C : Nat} (hC : s[j].toNat = C) (hC2 : C < 256) : Lib.byteCells (hexL (s.data.toList.take (j + 1))) = Lib.byteCells (hexL (s.data.toList.take j)) ++ [.int .u8 (fig (C / 16) : Nat)] ++ [.int .u8 (fig (C % 16) : Nat)] := by
  have hl : j < s.data.toList.length := by simpa using h
  have e : s.data.toList[j] = s[j] := by simp; rfl
  rw [List.take_succ_eq_append_getElem hl, hexL_append, e]
  simp only [hexL, Lib.byteCells, List.map_append, List.map_cons, List.map_nil, hC, fig_byte (show C / 16 < 16 by omega), fig_byte (show C % 16 < 16 by omega), List.append_assoc, List.cons_append, List.nil_append]
theorem and_15 (C : Nat) (h : C < 256) : Go.bits .and .u8 (C : Int) 15 = (C : Int) % 16 := by
  have := (bits_nat .u8 8 (by decide) (fun n h0 h2 => wraps_u8 n h0 h2) C 15 h (by decide)).1
  rw [show (15 : Int) = ((15 : Nat) : Int) from rfl, this, Nat.and_two_pow_sub_one_eq_mod C 4]
  simp
theorem hexL_len (l : List UInt8) : (hexL l).length = 2 * l.length := by
  induction l with
  | nil => rfl
  | cons c r ih => simp [hexL, ih]; omega

theorem figure (x : Nat) (h : x < 16) (w : World) :
    Calls Tryd.prog 48 #[.int .i64 x] w fun e w' => e = .returned (.int .u8 (fig x)) ∧ w = w' := by
  by_cases h1 : x < 10
  · have hf : fig x = 48 + x := if_pos h1
    go_enter Tryd.func48, Tryd.ntmps48
    go_wp2
    go_ret
    exact ⟨by rw [hf]; push_cast; rfl, rfl⟩
  · have hf : fig x = 87 + x := if_neg h1
    go_enter Tryd.func48, Tryd.ntmps48
    go_wp2
    go_ret
    refine ⟨?_, rfl⟩
    rw [hf]; push_cast
    show Ending.returned (Value.int IntKind.u8 (97 + (x : Int) - 10)) = _
    congr 2; omega

/-- the text, and whether there is one -/
def encT (s : ByteArray) : ByteArray := if s.size > 20000 then ⟨#[]⟩ else ⟨(hexL s.data.toList).toArray⟩

set_option maxHeartbeats 1000000 in
theorem iEncode (s : ByteArray) (hs : s.size ≤ 9223372036854775807) (w : World) :
    Calls Tryd.prog 15 #[.string s] w fun e w' => e = .returned (.tuple #[.string (encT s), .bool (decide (s.size ≤ 20000))]) ∧ Below w.heap.size w w' := by
  by_cases h1 : s.size > 20000
  · have ht : encT s = ⟨#[]⟩ := if_pos h1
    have hd : decide (s.size ≤ 20000) = false := decide_eq_false (by omega)
    rw [ht, hd]
    go_enter Tryd.func15, Tryd.ntmps15
    go_wp2
    go_ret2
    exact ⟨rfl, Below.refl _ _⟩
  · have ht : encT s = ⟨(hexL s.data.toList).toArray⟩ := if_neg h1
    have hd : decide (s.size ≤ 20000) = true := decide_eq_true (by omega)
    rw [ht, hd]
    clear ht hd
    go_enter Tryd.func15, Tryd.ntmps15
    go_wp2
    go_loopw [5] (fun i wr => ∃ j : Nat, j ≤ s.size ∧ i = .int .i64 j ∧ Hid (Lib.IsBuilder 46 5 w.heap.size w.heap.size (Lib.byteCells (hexL (s.data.toList.take j))) wr) ∧ Hid (Below w.heap.size w wr)) (fun i _ => 20001 - (intOf i).toNat)
    case atStart => exact ⟨0, by omega, rfl, Lib.fresh_isBuilder _ _ _, (Below.refl _ _).alloc (Nat.le_refl _) _⟩
    case round =>
      obtain ⟨j, hj, rfl, HI, HB⟩ := hrel
      by_cases hlt : j < s.size
      · obtain ⟨C, hC⟩ : ∃ C : Nat, s[j].toNat = C := ⟨_, rfl⟩
        have hC2 : C < 256 := by rw [← hC]; exact s[j].toNat_lt
        have q1 : 0 ≤ (C : Int) / 16 := by omega
        have q2 : (C : Int) / 16 < 16 := by omega
        have HC := hid hC
        have q3 : 0 ≤ (C : Int) % 16 := by omega
        have q4 : (C : Int) % 16 < 16 := by omega
        have hand := and_15 C hC2
        have hlen : (Lib.byteCells (hexL (s.data.toList.take j))).length ≤ 40000 := by rw [Lib.byteCells_length, hexL_len, List.length_take]; omega
        have hsz := HB.out.size
        have hstep := hid (hex_step s j hlt hC hC2)
        go_wp2_with fail
        refine (writeByte _ _ _ _ _ HI.out (by omega) (by have := HB.out.size; omega)).mono ?_
        rintro e w1 ⟨rfl, hI1, hB1⟩
        have HI1 := hid hI1
        have HB1 := hid (HB.out.trans hB1)
        clear hI1 hB1
        go_wp2_with fail
        refine (writeByte _ _ _ _ _ (.inr HI1.out) (by rw [List.length_append]; simp only [List.length_cons, List.length_nil]; omega) (by have := HB1.out.size; omega)).mono ?_
        rintro e w2 ⟨rfl, hI2, hB2⟩
        have HI2 := hid hI2
        have HB2 := hid (HB1.out.trans hB2)
        clear hI2 hB2
        go_wp2
        go_roundw
        case rel =>
          refine ⟨j + 1, by omega, by go_num, ?_, HB2.out⟩
          show Lib.IsBuilder _ _ _ _ _ _
          rw [hstep.out]
          have := HI2.out
          rw [digits_at _ (by omega), digits_at _ (by omega)] at this
          exact .inr this
        case measure => (simp [intOf]; try omega)
      · obtain rfl : j = s.size := by omega
        have hall : s.data.toList.take s.size = s.data.toList := List.take_of_length_le (by simp)
        have hI := HI.out
        rw [hall] at hI
        have HI3 := hid hI
        clear hI
        go_wp2_with fail
        refine (builderString _ _ _ _ HI3.out HB.out.size).mono ?_
        rintro e w1 ⟨rfl, hB1⟩
        have HB1 := hid (HB.out.trans hB1)
        clear hB1
        go_wp2
        go_ret2
        exact ⟨rfl, HB1.out⟩

theorem figureI (x : Int) (h0 : 0 ≤ x) (h1 : x < 16) (w : World) :
    Calls Tryd.prog 48 #[.int .i64 x] w fun e w' => e = .returned (.int .u8 (fig x.toNat : Nat)) ∧ w' = w := by
  obtain ⟨n, rfl⟩ : ∃ n : Nat, x = n := ⟨x.toNat, by omega⟩
  exact (figure n (by omega) w).mono fun e w' ⟨he, hw⟩ => ⟨he, hw.symm⟩

theorem step_own {P : Program} {ops : Array Oper} {o : Oper} {a : Act} {w : World} {K : Act → World → Prop} {Q : Exit → Act → World → Prop} {E : Prop}
    (hg : o.guard = none) (s x : Operand) (t : TypeId) (hop : o.op = Op.call { callee := Callee.builtin Builtin.append, args := #[s, x], argTypes := #[t, t] })
    (base : Nat) (e : TypeId) (i : TypeInfo) (z : Value) (size bytes : Nat) (h1 : P.underlying t = some (.slice e)) (h2 : P.info? e = some i) (h3 : i.zero = some z) (h4 : i.size = size) (h5 : i.bytes = bytes) (h6 : z.cells.size = size) (h7 : 0 < size)
    (v : Value) (n : Nat) (xs : List Value) (hs : a.eval s = v) (hown : w.ownsRow base e size v n xs)
    (ad : Addr) (m c : Nat) (news : List Value) (hx : a.eval x = .slice (some ad) m c) (hn : news.length = m * size) (hc : ∀ j u, news[j]? = some u → w.cell? (ad.add j) = some u) (h1c : ∀ u ∈ news, u.oneCell' = true)
    (b1 : n + m ≤ maxLen) (b2 : (n + m) * bytes ≤ 140737488355328) (hb : base ≤ w.heap.size)
    (hK : ∀ v' w', w'.ownsRow base e size v' (n + m) (xs ++ news) → w.grownBy w' v.ownBlock → K (a.put o.dst v') w') :
    if Region.wanted o (yielded ops a.tmps) = true then Oper.wp P o a w K Q else E := by
  have hw : Region.wanted o (yielded ops a.tmps) = true := by simp [Region.wanted, hg]
  rw [if_pos hw]
  obtain ⟨v', w', hrun, r1, r2, _⟩ := run_append_own (P := P) w base t o.type e i z size bytes h1 h2 h3 h4 h5 h6 h7 v n xs hown ad m c news hn hc h1c b1 b2 hb
  unfold Oper.wp
  simp [execOp, hop, resolve, invoke, builtin, hs, hx, hrun, Result.andThen]
  exact hK v' w' r1 r2

theorem step_still {P : Program} {ops : Array Oper} {o : Oper} {a : Act} {w : World} {K : Act → World → Prop} {Q : Exit → Act → World → Prop} {E : Prop}
    (hg : o.guard = none) (f : Nat) (x : Operand) (t : TypeId) (hop : o.op = Op.call { callee := Callee.value (Operand.func f), args := #[x], argTypes := #[t] })
    (hent : ∀ args w, (callFunc f args).run P w = .ok (.enter f args) w) (u v : Value) (hx : a.eval x = u)
    (hc : Calls P f #[u] w fun e w' => e = .returned v ∧ w' = w) (hK : K (a.put o.dst v) w) :
    if Region.wanted o (yielded ops a.tmps) = true then Oper.wp P o a w K Q else E := by
  have hw : Region.wanted o (yielded ops a.tmps) = true := by simp [Region.wanted, hg]
  rw [if_pos hw]
  have hrun : (execOp a.eval o).run P w = .ok (.enter f #[a.eval x]) w := by simp [go_sem, execOp, hop, resolve, invoke, hent, Deferred.ofValue]
  unfold Oper.wp
  rw [hrun, hx]
  refine hc.mono ?_
  rintro e w' ⟨rfl, rfl⟩
  exact hK

theorem figA (C : Nat) (h : C < 256) (w : World) :
    Calls Tryd.prog 48 #[.int .i64 (IntKind.i64.wrap ((IntKind.i64.wrap (C : Int)).tdiv 16))] w fun e w' => e = .returned (.int .u8 (fig (C / 16) : Nat)) ∧ w' = w := by
  have e : IntKind.i64.wrap ((IntKind.i64.wrap (C : Int)).tdiv 16) = ((C / 16 : Nat) : Int) := by
    have h0 : IntKind.i64.wrap (C : Int) = C := by rw [IntKind.wrap_i64]; omega
    rw [h0, Int.tdiv_eq_ediv_of_nonneg (by omega), IntKind.wrap_i64]; omega
  rw [e]
  exact figureI _ (by omega) (by omega) w
theorem figB (C : Nat) (h : C < 256) (w : World) :
    Calls Tryd.prog 48 #[.int .i64 ((IntKind.i64.wrap (C : Int)).tmod 16)] w fun e w' => e = .returned (.int .u8 (fig (C % 16) : Nat)) ∧ w' = w := by
  have e : (IntKind.i64.wrap (C : Int)).tmod 16 = ((C % 16 : Nat) : Int) := by
    have h0 : IntKind.i64.wrap (C : Int) = C := by rw [IntKind.wrap_i64]; omega
    rw [h0, Int.tmod_eq_emod_of_nonneg (by omega)]; omega
  rw [e]
  exact figureI _ (by omega) (by omega) w

theorem two_new (w : World) (p q : Int) (m : Nat) : ∀ j u, [Value.int .u8 p, Value.int .u8 q][j]? = some u → ((w.alloc (.cells #[.int .u8 p, .int .u8 q] 5)).drewN m).cell? ((⟨w.heap.size, 0, none⟩ : Addr).add j) = some u := by
  intro j u hj
  have hb : ((w.alloc (.cells #[.int .u8 p, .int .u8 q] 5)).drewN m).heap[w.heap.size]? = some (.cells #[.int .u8 p, .int .u8 q] 5 (0, 0)) := heap_alloc_new w _
  have hc : ((w.alloc (.cells #[.int .u8 p, .int .u8 q] 5)).drewN m).cell? ⟨w.heap.size, 0 + j, none⟩ = #[Value.int .u8 p, Value.int .u8 q][0 + j]? := by rw [Lib.cell_of_heap hb]
  rw [Addr.add_lit, hc]
  match j, hj with
  | 0, hj => simpa using hj
  | 1, hj => simpa using hj

theorem info_u8 : (Tryd.prog.info? 5).map (fun i => (i.zero, i.size, i.bytes)) = some (some (.int .u8 0), 1, 1) := by kernel_rfl

end Go.Proofs.YtcafecpiijmkoaaDoor
