/- The cursor of the draws: what it holds, and contracts of the functions that move it. Each answers, whatever the bytes. -/
import Derived.Test.YtgjfpclpnobggaaRows
import Derived.WalkKit
import Derived.WalkLawsBesides
import Derived.WalkSmall
import Derived.Deep.Draws
import Derived.Deep.QuietTactic
import Derived.BigQuiet
namespace Go.Proofs.Ytgjfpclpnobggaa
open Go.RowKit

theorem hid {p : Prop} (h : p) : Hid p := h

/-- n bytes at A, readable in w -/
def RdB (w : World) (A : Option Addr) (n : Nat) : Prop := n ≤ 9223372036854775807 ∧ ∀ j, j < n → ∃ ad, A = some ad ∧ ∃ u : Int, w.cell? (ad.add j) = some (.int .u8 u)

/-- block g is a cursor over bytes that were there in W -/
def Cur (W w : World) (g : Nat) : Prop :=
  ∃ A n c, ∃ i h : Int, w.heap[g]? = some (.cells #[.slice A n c, .int .i64 i, .int .i64 h] 81 (0, 0)) ∧ W.heap.size ≤ g ∧ 0 ≤ i ∧ i ≤ n ∧ RdB W A n ∧ Below W.heap.size W w

theorem block_cell {w : World} {g : Nat} {t : TypeId} {cs : Array Value} (h : w.heap[g]? = some (.cells cs t (0, 0))) (i : Nat) : w.cell? ⟨g, i, none⟩ = cs[i]? := by simp [World.cell?, h]
theorem block_free {w : World} {g : Nat} {t : TypeId} {cs : Array Value} (h : w.heap[g]? = some (.cells cs t (0, 0))) (i : Nat) : w.frozen? ⟨g, i, none⟩ = false := by simp [World.frozen?, h]
theorem block_set {w : World} {g : Nat} {t : TypeId} {cs : Array Value} (h : w.heap[g]? = some (.cells cs t (0, 0))) (i : Nat) (u : Value) :
    (w.setCell ⟨g, i, none⟩ u).heap[g]? = some (.cells (cs.setIfInBounds i u) t (0, 0)) := by
  have hlt := lt_of_block h
  have h' : w.heap[g] = .cells cs t (0, 0) := by simpa [Array.getElem?_eq_getElem hlt] using h
  show (w.heap.modify g _)[g]? = _
  rw [Array.getElem?_eq_getElem (by simpa using hlt), Array.getElem_modify_self, h']
  rfl
theorem grown_refl (w : World) (r : Option Nat) : w.grownBy w r := ⟨rfl, rfl, rfl, Nat.le_refl _, fun _ _ _ => rfl⟩
theorem grown_trans {a b c : World} {r : Option Nat} (h : a.grownBy b r) (k : b.grownBy c r) : a.grownBy c r :=
  ⟨k.os.trans h.os, k.tape.trans h.tape, k.output.trans h.output, Nat.le_trans h.size k.size, fun i hi hr => (k.block i (Nat.lt_of_lt_of_le hi h.size) hr).trans (h.block i hi hr)⟩
theorem grown_set (w : World) (g i : Nat) (u : Value) : w.grownBy (w.setCell ⟨g, i, none⟩ u) (some g) :=
  ⟨rfl, rfl, rfl, by simp [World.setCell], fun k _ hk => Below.heap_setCell _ _ _ _ (fun e => hk (by rw [e]))⟩
theorem grown_drewN (w : World) (n : Nat) (r : Option Nat) : w.grownBy (w.drewN n) r := ⟨rfl, rfl, rfl, Nat.le_refl _, fun _ _ _ => rfl⟩
theorem below_of_grown {W w w' : World} {g : Nat} (h : Below W.heap.size W w) (hg : W.heap.size ≤ g) (k : w.grownBy w' (some g)) : Below W.heap.size W w' :=
  h.grown k h.size (fun i hi => by cases hi; exact hg)

/-- a cursor moves on only by its own two numbers -/
theorem Cur.kept {W w w' : World} {g g' : Nat} (h : Cur W w g) (k : w.grownBy w' (some g')) (hne : g ≠ g') (hg' : W.heap.size ≤ g') : Cur W w' g := by
  obtain ⟨A, n, c, i, h0, hb, hg, h1, h2, hr, hB⟩ := h
  exact ⟨A, n, c, i, h0, (k.block g (lt_of_block hb) (fun e => hne (by cases e; rfl))).trans hb, hg, h1, h2, hr, below_of_grown hB hg' k⟩
theorem Cur.below {W w : World} {g : Nat} (h : Cur W w g) : Below W.heap.size W w := by
  obtain ⟨A, n, c, i, h0, hb, hg, h1, h2, hr, hB⟩ := h; exact hB
theorem Cur.ge {W w : World} {g : Nat} (h : Cur W w g) : W.heap.size ≤ g := by
  obtain ⟨A, n, c, i, h0, hb, hg, h1, h2, hr, hB⟩ := h; exact hg
theorem Cur.lt {W w : World} {g : Nat} (h : Cur W w g) : g < w.heap.size := by
  obtain ⟨A, n, c, i, h0, hb, hg, h1, h2, hr, hB⟩ := h; exact lt_of_block hb
theorem Cur.drewN {W w : World} {g : Nat} (h : Cur W w g) (m : Nat) : Cur W (w.drewN m) g := by
  obtain ⟨A, n, c, i, h0, hb, hg, h1, h2, hr, hB⟩ := h; exact ⟨A, n, c, i, h0, hb, hg, h1, h2, hr, below_drewN hB m⟩

theorem cur_end {W w w' : World} {g : Nat} {A : Option Addr} {n c : Nat} {i h : Int} (hB : Below W.heap.size W w) (hg : W.heap.size ≤ g) (hr : RdB W A n) (h0 : 0 ≤ i) (h1 : i ≤ n)
    (hb : w'.heap[g]? = some (.cells #[.slice A n c, .int .i64 i, .int .i64 h] 81 (0, 0))) (k : w.grownBy w' (some g)) : Cur W w' g ∧ w.grownBy w' (some g) :=
  ⟨⟨A, n, c, i, h, hb, hg, h0, h1, hr, below_of_grown hB hg k⟩, k⟩

theorem wrap_byte (m : Nat) (h : m ≤ 255) : 0 ≤ IntKind.i64.wrap m ∧ IntKind.i64.wrap m ≤ 255 := by rw [IntKind.wrap_i64]; omega
theorem and255 (x : Int) : 0 ≤ Go.bits .and .i64 x 255 ∧ Go.bits .and .i64 x 255 ≤ 255 := by
  refine wrap_byte _ ?_
  rw [BitVec.toNat_and]; exact Nat.and_le_right

set_option maxHeartbeats 1000000 in
set_option maxRecDepth 100000 in
theorem new_any (W w : World) (A : Option Addr) (n c : Nat) (hr : RdB W A n) (hB : Below W.heap.size W w) :
    Calls Try.prog 45 #[.slice A n c] w fun e w' => ∃ g, e = .returned (.pointer (some ⟨g, 0, none⟩)) ∧ Cur W w' g ∧ Below w.heap.size w w' := by
  have hn := hr.1
  have HR := hid hr
  have HB := hid hB
  clear hr hB
  go_enter Try.func45, Try.ntmps45
  go_wp2
  go_loop [3, 4] (fun x i => ∃ (q : Int) (k : Nat), k ≤ n ∧ x = .int .i64 q ∧ i = .int .i64 k) (fun _ i => n - (intOf i).toNat)
  case atStart => exact ⟨_, 0, Nat.zero_le _, rfl, rfl⟩
  case round =>
    obtain ⟨q, k, hk, rfl, rfl⟩ := hrel
    by_cases hlt : k < n
    · by_cases h4 : k < 4000
      · obtain ⟨ad, rfl, u, hu⟩ := HR.out.2 k hlt
        have hc := (HB.out.cell (World.block_lt_of_cell? W _ hu)).trans hu
        clear hu
        go_wp2
        go_round
        case rel => exact ⟨_, k + 1, by omega, rfl, by go_num⟩
        case measure => simp [intOf]; omega
      · go_wp2
        go_ret
        exact ⟨w.heap.size, rfl, ⟨A, n, c, 0, q, by simpa using heap_alloc_new w _, HB.out.size, by omega, by omega, HR.out, HB.out.alloc HB.out.size _⟩, (Below.refl _ _).alloc (Nat.le_refl _) _⟩
    · go_wp2
      go_ret
      exact ⟨w.heap.size, rfl, ⟨A, n, c, 0, q, by simpa using heap_alloc_new w _, HB.out.size, by omega, by omega, HR.out, HB.out.alloc HB.out.size _⟩, (Below.refl _ _).alloc (Nat.le_refl _) _⟩

set_option maxHeartbeats 2000000 in
set_option maxRecDepth 100000 in
theorem byte_any (W w : World) (g : Nat) (hC : Cur W w g) :
    Calls Try.prog 71 #[.pointer (some ⟨g, 0, none⟩)] w fun e w' => ∃ r : Int, e = .returned (.int .i64 r) ∧ (0 ≤ r ∧ r ≤ 255) ∧ Cur W w' g ∧ w.grownBy w' (some g) := by
  obtain ⟨A, n, c, i, h, hb, hg, hi0, hin, hr, hB⟩ := hC
  have hc0 : w.cell? ⟨g, 0, none⟩ = some (.slice A n c) := (block_cell hb 0).trans rfl
  have hc1 : w.cell? ⟨g, 1, none⟩ = some (.int .i64 i) := (block_cell hb 1).trans rfl
  have hc2 : w.cell? ⟨g, 2, none⟩ = some (.int .i64 h) := (block_cell hb 2).trans rfl
  have hf1 := block_free hb 1
  have hf2 := block_free hb 2
  have hn := hr.1
  have HB := hid hB
  have Hb := hid hb
  have HR := hid hr
  clear hB hb hr
  have fin : ∀ h' : Int, ((w.setCell ⟨g, 2, none⟩ (.int .i64 h')).heap[g]? = some (.cells #[.slice A n c, .int .i64 i, .int .i64 h'] 81 (0, 0))) := fun h' => by simpa using block_set Hb.out 2 (.int .i64 h')
  have FIN := hid fin
  clear fin
  by_cases hlt : i < n
  · obtain ⟨ad, rfl, u, hu⟩ := HR.out.2 i.toNat (by omega)
    have hne : ad.block ≠ g := by have := World.block_lt_of_cell? W _ hu; have h2 : (ad.add i.toNat).block = ad.block := by unfold Addr.add; split <;> rfl
                                  omega
    have hcu := (HB.out.cell (World.block_lt_of_cell? W _ hu)).trans hu
    clear hu
    have hcu2 : ∀ v, (w.setCell ⟨g, 2, none⟩ v).cell? (ad.add i.toNat) = some (.int .u8 u) := by
      intro v
      rw [← hcu]
      refine World.cell?_of_block (Below.heap_setCell _ _ _ _ ?_)
      have h2 : (ad.add i.toNat).block = ad.block := by unfold Addr.add; split <;> rfl
      rw [h2]; exact hne
    go_enter Try.func71, Try.ntmps71
    go_wp2
    go_quiet (fail)
    go_wp2
    go_quiet (fail)
    go_wp2
    go_quiet (fail)
    go_wp2
    go_ret
    refine ⟨_, rfl, and255 _, cur_end (i := i + 1) HB.out hg HR.out (by omega) (by omega) (block_set (FIN.out _) 1 (.int .i64 (i + 1))) ?_⟩
    repeat (first | exact grown_refl _ _ | refine grown_trans ?_ (grown_drewN _ _ _) | refine grown_trans ?_ (grown_set _ _ _ _))
  · go_enter Try.func71, Try.ntmps71
    go_wp2
    go_quiet (fail)
    go_wp2
    go_quiet (fail)
    go_wp2
    go_ret
    refine ⟨_, rfl, and255 _, cur_end (i := i) HB.out hg HR.out (by omega) (by omega) (FIN.out _) ?_⟩
    repeat (first | exact grown_refl _ _ | refine grown_trans ?_ (grown_drewN _ _ _) | refine grown_trans ?_ (grown_set _ _ _ _))

set_option maxHeartbeats 1000000 in
set_option maxRecDepth 100000 in
theorem below_any (W w : World) (g : Nat) (m : Int) (hm : m ≤ 1000000000000) (hC : Cur W w g) :
    Calls Try.prog 49 #[.pointer (some ⟨g, 0, none⟩), .int .i64 m] w fun e w' => ∃ r : Int, e = .returned (.int .i64 r) ∧ (0 ≤ r ∧ (0 < m → r < m)) ∧ Cur W w' g ∧ w.grownBy w' (some g) := by
  have HC := hid hC
  clear hC
  by_cases h0 : m ≤ 0
  · go_enter Try.func49, Try.ntmps49
    go_wp2
    go_ret
    exact ⟨0, rfl, ⟨by omega, by omega⟩, HC.out, grown_refl _ _⟩
  · by_cases h1 : m ≤ 256
    · go_enter Try.func49, Try.ntmps49
      go_wp2_with (go_at_call 71; refine (byte_any W _ g HC.out).mono ?_; rintro e w1 ⟨r, rfl, hr, hC1, hg1⟩; have H1 := hid hC1; have G1 := hid hg1; clear hC1 hg1)
      go_ret
      exact ⟨_, rfl, ⟨by have := Int.emod_nonneg r (show m ≠ 0 by omega); omega, fun _ => Int.emod_lt_of_pos _ (by omega)⟩, H1.out, G1.out⟩
    · go_enter Try.func49, Try.ntmps49
      go_wp2_with fail
      refine (byte_any W _ g HC.out).mono ?_
      rintro e w1 ⟨r1, rfl, hr1, hC1, hg1⟩
      have H1 := hid hC1; have G1 := hid hg1; clear hC1 hg1
      go_wp2_with fail
      refine (byte_any W _ g H1.out).mono ?_
      rintro e w2 ⟨r2, rfl, hr2, hC2, hg2⟩
      have H2 := hid hC2; have G2 := hid hg2; clear hC2 hg2
      go_wp2_with fail
      refine (byte_any W _ g H2.out).mono ?_
      rintro e w3 ⟨r3, rfl, hr3, hC3, hg3⟩
      have H3 := hid hC3; have G3 := hid hg3; clear hC3 hg3
      go_wp2_with fail
      refine (byte_any W _ g H3.out).mono ?_
      rintro e w4 ⟨r4, rfl, hr4, hC4, hg4⟩
      have H4 := hid hC4; have G4 := hid hg4; clear hC4 hg4
      go_wp2
      go_ret
      exact ⟨_, rfl, ⟨by have := Int.emod_nonneg (r1 * 16777216 + r2 * 65536 + r3 * 256 + r4) (show m ≠ 0 by omega); omega, fun _ => Int.emod_lt_of_pos _ (by omega)⟩, H4.out, grown_trans (grown_trans (grown_trans G1.out G2.out) G3.out) G4.out⟩

theorem once_any (W w : World) (g : Nat) (m : Int) (hm : m ≤ 1000000000000) (hC : Cur W w g) :
    Calls Try.prog 83 #[.pointer (some ⟨g, 0, none⟩), .int .i64 m] w fun e w' => ∃ b : Bool, e = .returned (.bool b) ∧ Cur W w' g ∧ w.grownBy w' (some g) := by
  have HC := hid hC
  clear hC
  go_enter Try.func83, Try.ntmps83
  go_wp2_with (go_at_call 49; refine (below_any W _ g m hm HC.out).mono ?_; rintro e w1 ⟨r, rfl, hr, hC1, hg1⟩; have H1 := hid hC1; have G1 := hid hg1; clear hC1 hg1)
  go_ret
  exact ⟨_, rfl, H1.out, G1.out⟩

end Go.Proofs.Ytgjfpclpnobggaa
