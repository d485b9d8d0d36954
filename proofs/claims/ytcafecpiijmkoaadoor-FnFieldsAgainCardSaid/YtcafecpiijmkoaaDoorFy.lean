/- The law FnFixedParsed: its draw (a text), its walk. -/
import Derived.Test.YtcafecpiijmkoaaDoorFx
namespace Go.Proofs.YtcafecpiijmkoaaDoor
open Go.RowKit

set_option maxHeartbeats 1000000 in
set_option maxRecDepth 100000 in
theorem pickS_g {w0 W w : World} {g : Nat} {b n c : Nat} (Q : ByteArray → Prop) (hn : 0 < n) (hn2 : n ≤ 1000000) (hne : b ≠ g) (hv : ∀ j, j < n → ∃ u : ByteArray, w.cell? ⟨b, j, none⟩ = some (.string u) ∧ Q u) (h : CG w0 W w g) :
    Calls Tryd.prog 44 #[.pointer (some ⟨g, 0, none⟩), .slice (some ⟨b, 0, none⟩) n c] w fun e w' => ∃ r : ByteArray, e = .returned (.string r) ∧ Q r ∧ CG w0 W w' g := by
  have HV := hid hv
  have HC := hid h
  clear hv h
  go_enter Tryd.func44, Tryd.ntmps44
  go_wp2_with (go_at_call 38; refine (below_any W _ g _ (by omega) HC.out.1).mono ?_; rintro e w1 ⟨r, rfl, ⟨hr0, hr1⟩, hC1, hg1⟩; have H1 := hid hC1; have G1 := hid hg1; have hr2 := hr1 (by omega); clear hC1 hg1 hr1; obtain ⟨u, hu, hq⟩ := HV.out r.toNat (by omega); have hu1 := (World.cell?_of_block (w := w) (w' := w1) (a := ⟨b, r.toNat, none⟩) (G1.out.block b (World.block_lt_of_cell? w _ hu) (fun e => hne (by cases e; rfl)))).trans hu; clear hu; have HQ := hid hq; clear hq)
  go_ret
  exact ⟨_, rfl, HQ.out, H1.out, grown_trans HC.out.2 G1.out⟩

theorem litS_cells (w : World) (l : List ByteArray) (t : TypeId) (Q : ByteArray → Prop) (hQ : ∀ x ∈ l, Q x) : ∀ j, j < l.length → ∃ u : ByteArray, (w.alloc (.cells (l.map Value.string).toArray t)).cell? ⟨w.heap.size, j, none⟩ = some (.string u) ∧ Q u := by
  intro j hj
  have hb : (w.alloc (.cells (l.map Value.string).toArray t)).heap[w.heap.size]? = some (.cells (l.map Value.string).toArray t) := by simpa using heap_alloc_new w _
  refine ⟨l[j], ?_, hQ _ (List.getElem_mem hj)⟩
  rw [block_cell hb j]
  simp [List.getElem?_eq_getElem hj]

theorem Cur.grow {W w w' : World} {g : Nat} (h : Cur W w g) (hb : Below w.heap.size w w') : Cur W w' g := by
  obtain ⟨A, n, c, i, h0, hk, hg, h1, h2, hr, hB⟩ := h
  exact ⟨A, n, c, i, h0, (hb.block _ (lt_of_block hk)).trans hk, hg, h1, h2, hr, hB.trans (hb.mono hB.size)⟩
theorem grown_below {w w' : World} (h : Below w.heap.size w w') (r : Option Nat) : w.grownBy w' r := ⟨h.os, h.tape, h.output, h.size, fun k hk _ => h.block k hk⟩
theorem CG.grow {w0 W w w' : World} {g : Nat} (h : CG w0 W w g) (hb : Below w.heap.size w w') : CG w0 W w' g := ⟨h.1.grow hb, grown_trans h.2 (grown_below hb _)⟩

theorem sFF_g {w0 W w : World} {g : Nat} (n : Int) (h0 : -9223372036854775808 ≤ n) (h1 : n ≤ 9223372036854775807) (h : CG w0 W w g) :
    Calls Tryd.prog 26 #[.int .i64 n] w fun e w' => ∃ T : ByteArray, e = .returned (.string T) ∧ T.size ≤ 100 ∧ CG w0 W w' g :=
  (sFormatFixed (W := w) n h0 h1 (Below.refl _ _)).mono fun _ _ ⟨he, hb⟩ => ⟨_, he, by
    unfold fixB
    split
    · rename_i h
      have : (fixL n).length ≤ 12 := by
        unfold fixL
        split
        · have := fixU_len_le n.natAbs (by omega); simp; omega
        · have := fixU_len_le n.natAbs (by omega); omega
      simp [ByteArray.size]; omega
    · decide, h.grow hb⟩

theorem lits_ok : ∀ x ∈ ([⟨#[]⟩, ⟨#[45]⟩, ⟨#[48, 46, 48, 48]⟩, ⟨#[48, 46, 48, 48, 48, 48]⟩, ⟨#[45, 48, 46, 48, 48, 48]⟩, ⟨#[48, 48, 46, 48, 48, 48]⟩, ⟨#[49, 48, 48, 48, 48, 48, 48, 46, 48, 48, 48]⟩, ⟨#[49, 48, 48, 48, 48, 48, 48, 46, 48, 48, 49]⟩, ⟨#[45, 49, 48, 48, 48, 48, 48, 48, 46, 48, 48, 48]⟩, ⟨#[57, 57, 57, 57, 57, 57, 57, 46, 57, 57, 57]⟩, ⟨#[57, 57, 57, 57, 57, 57, 57, 57, 46, 57, 57, 57]⟩, ⟨#[49, 44, 48, 48, 48]⟩, ⟨#[43, 49, 46, 48, 48, 48]⟩, ⟨#[46, 53, 48, 48]⟩, ⟨#[48, 46, 53, 97, 48]⟩, ⟨#[49, 46, 48, 48, 48, 32]⟩] : List ByteArray), x.size ≤ 100 := by decide

section
variable {W w : World} {A : Option Addr} {n : Nat} (c : Nat) (hr : RdB W A n) (hB : Below W.heap.size W w)
include hr hB
set_option maxHeartbeats 1000000 in
set_option maxRecDepth 100000 in
theorem dParseFixed : Calls Tryd.prog 18 #[.slice A n c] w fun e w' => ∃ T : ByteArray, e = .returned (.string T) ∧ T.size ≤ 1000 ∧ Below W.heap.size W w' := by
  have h48 : (⟨#[48]⟩ : ByteArray).size = 1 := rfl
  go_enter Tryd.func18, Tryd.ntmps18
  go_wp2_with (first | (go_at_call 35; refine (new_any W _ _ _ _ (by assumption) (by first | assumption | exact Below.refl _ _)).mono ?_; rintro e w1 ⟨g, rfl, hc0, _⟩; have hc := CG.start hc0; clear hc0) | (go_at_call 38; refine (below_g _ (by omega) (by repeat (first | assumption | apply CG.alloc | apply CG.drewN | apply CG.drew))).mono ?_; rintro e w1 ⟨r, rfl, hr, hc⟩) | (go_at_call 26; refine (sFF_g _ (by omega) (by omega) (by repeat (first | assumption | apply CG.alloc | apply CG.drewN | apply CG.drew))).mono ?_; rintro e w1 ⟨T, rfl, hT, hc⟩) | (go_at_call 44; go_loud (refine (pickS_g (fun u => u.size ≤ 100) (by decide) (by decide) (cg_ne (by assumption)) (litS_cells _ [⟨#[]⟩, ⟨#[45]⟩, ⟨#[48, 46, 48, 48]⟩, ⟨#[48, 46, 48, 48, 48, 48]⟩, ⟨#[45, 48, 46, 48, 48, 48]⟩, ⟨#[48, 48, 46, 48, 48, 48]⟩, ⟨#[49, 48, 48, 48, 48, 48, 48, 46, 48, 48, 48]⟩, ⟨#[49, 48, 48, 48, 48, 48, 48, 46, 48, 48, 49]⟩, ⟨#[45, 49, 48, 48, 48, 48, 48, 48, 46, 48, 48, 48]⟩, ⟨#[57, 57, 57, 57, 57, 57, 57, 46, 57, 57, 57]⟩, ⟨#[57, 57, 57, 57, 57, 57, 57, 57, 46, 57, 57, 57]⟩, ⟨#[49, 44, 48, 48, 48]⟩, ⟨#[43, 49, 46, 48, 48, 48]⟩, ⟨#[46, 53, 48, 48]⟩, ⟨#[48, 46, 53, 97, 48]⟩, ⟨#[49, 46, 48, 48, 48, 32]⟩] _ _ lits_ok) (by repeat (first | assumption | apply CG.alloc | apply CG.drewN | apply CG.drew))).mono ?_; rintro e w1 ⟨r, rfl, hr, hc⟩)))
  all_goals (go_ret; exact ⟨_, rfl, by first | omega | (simp; omega), CG.below (by repeat (first | assumption | apply CG.alloc | apply CG.drewN | apply CG.drew))⟩)
end
end Go.Proofs.YtcafecpiijmkoaaDoor
