/- The draw of twelve places: a slice of whole numbers from 0 to 9999. -/
import Derived.Test.YtjllidnkndhgmaaDw
import Derived.Maps.AppendAt
namespace Go.Proofs.Ytjllidnkndhgmaa
open Go.RowKit

theorem info_int : (Try.prog.info? 3).map (fun i => (i.zero, i.size, i.bytes)) = some (some (.int .i64 0), 1, 8) := by kernel_rfl

/-- a cursor is no row of another type -/
theorem cur_ne_own {W w : World} {g : Nat} (h : Cur W w g) {base : Nat} {e : TypeId} {size n : Nat} {v : Value} {xs : List Value} (ho : w.ownsRow base e size v n xs) (he : e ≠ 89) : v.ownBlock ≠ some g := by
  obtain ⟨A, m, c, i, h0, hb, _⟩ := h
  rcases ho.2 with ⟨rfl, _⟩ | ⟨g', cap, cur, rfl, _, hg', _⟩
  · simp [Value.ownBlock]
  · intro heq
    simp only [Value.ownBlock, Option.some.injEq] at heq
    subst heq
    rw [hb] at hg'
    injection hg' with hg'
    injection hg' with _ ht
    exact he ht.symm
theorem Cur.keptO {W w w' : World} {g : Nat} {r : Option Nat} (h : Cur W w g) (k : w.grownBy w' r) (hne : r ≠ some g) (hr : ∀ b, r = some b → W.heap.size ≤ b) : Cur W w' g := by
  obtain ⟨A, n, c, i, h0, hb, hg, h1, h2, hr', hB⟩ := h
  exact ⟨A, n, c, i, h0, (k.block g (lt_of_block hb) (fun e => hne e.symm)).trans hb, hg, h1, h2, hr', hB.grown k hB.size hr⟩

/-- n whole numbers at v, each with Q -/
def Ints (w : World) (Q : Int → Prop) (v : Value) (n : Nat) : Prop := ∃ b c, v = .slice (some ⟨b, 0, none⟩) n c ∧ n ≤ c ∧ ∀ j, j < n → ∃ u : Int, w.cell? ⟨b, j, none⟩ = some (.int .i64 u) ∧ Q u

set_option maxHeartbeats 2000000 in
set_option maxRecDepth 100000 in
theorem dPlaces {W w : World} {A : Option Addr} {n : Nat} (c : Nat) (hr : RdB W A n) (hB : Below W.heap.size W w) :
    Calls Try.prog 28 #[.slice A n c] w fun e w' => ∃ v, e = .returned v ∧ Ints w' (fun u => 0 ≤ u ∧ u ≤ 9999) v 12 ∧ Below W.heap.size W w' := by
  obtain ⟨i0, hi, hz0, hz1, hz2⟩ := info_parts info_int
  go_enter Try.func28, Try.ntmps28
  go_wp2_with (go_at_call 70; refine (new_any W _ _ _ _ hr hB).mono ?_; clear hr hB; rintro e w1 ⟨g, rfl, hC, _⟩; have HC := hid hC; clear hC)
  have hb1 := HC.out.below.size
  go_loopw [4, 5] (fun v i wr => ∃ (k : Nat) (xs : List Int), k ≤ 12 ∧ xs.length = k ∧ Hid (∀ x ∈ xs, 0 ≤ x ∧ x ≤ 9999) ∧ i = .int .i64 k ∧ Hid (wr.ownsRow W.heap.size 3 1 v k (xs.map (Value.int .i64))) ∧ Hid (Cur W wr g)) (fun _ i _ => 12 - (intOf i).toNat)
  case atStart => exact ⟨0, [], by omega, rfl, fun _ h => (by cases h), rfl, World.ownsRow_lit (base := W.heap.size) w1 #[] 0 hb1 (by decide) (by rfl), HC.out.alloc _⟩
  case round =>
    obtain ⟨k, xs, hk, hxl, HX, rfl, HO, HD⟩ := hrel
    by_cases hlt : k < 12
    · go_wp2_with (first | (go_at_call 71; refine (below_any W _ g _ (by omega) HD.out).mono ?_; rintro e w2 ⟨r, rfl, ⟨hr0, hr1⟩, hC2, hg2⟩; have hr1 := hr1 (by omega); have HC2 := hid hC2; have HG2 := hid hg2; have hown2 := HO.out.kept HG2.out (.inr (cur_ne_own HD.out HO.out (by decide))); have HO2 := hid hown2; clear hC2 hg2 hown2) | (at_builtin; refine wpList_append_own _ rfl _ _ 33 rfl W.heap.size 3 i0 (.int .i64 0) 1 8 Try.underlying33 hi hz0 hz1 hz2 rfl (by decide) _ _ _ rfl (HO2.out.alloc _) ⟨w2.heap.size, 0, none⟩ 1 1 [.int .i64 r] rfl rfl ?c1 ?c2 ?c3 ?c4 ?c5 ?_))
      case c1 => exact cell_one_new _ _ _
      case c2 => simp [Value.oneCell']
      case c3 => unfold maxLen; omega
      case c4 => omega
      case c5 => have := HC2.out.below.size; simp; omega
      intro v' w3 hown3 hgr3 _
      have H3 := hid hown3
      have hcur : Cur W w3 g := (HC2.out.alloc _).keptO hgr3 (cur_ne_own (HC2.out.alloc (.cells #[.int .i64 r] 3)) (HO2.out.alloc _) (by decide)) (fun b hb => (HO2.out.lt b hb).1)
      have HC3 := hid hcur
      clear hown3 hgr3 hcur
      go_wp2
      go_roundw
      case rel =>
        refine ⟨k + 1, xs ++ [r], by omega, by simp [hxl], ?_, by go_num, ?_, HC3.out⟩
        · intro x hx
          rcases List.mem_append.1 hx with h | h
          · exact HX.out x h
          · rw [List.mem_singleton] at h; subst h; omega
        · have := H3.out
          rw [List.map_append]
          exact this
      case measure => simp [intOf]; omega
    · obtain rfl : k = 12 := by omega
      go_wp2
      go_ret
      refine ⟨_, rfl, ?_, HD.out.below⟩
      obtain ⟨b, cap, rfl⟩ : ∃ b cap, u4 = .slice (some ⟨b, 0, none⟩) 12 cap := by
        obtain ⟨_, h⟩ := HO.out
        rcases h with ⟨_, h⟩ | ⟨b, cap, _, h, _⟩
        · omega
        · exact ⟨b, cap, h⟩
      refine ⟨b, cap, rfl, ?_, fun j hj => ?_⟩
      · obtain ⟨_, h⟩ := HO.out
        rcases h with ⟨h, _⟩ | ⟨b', cap', cur, h, _, _, hle, _⟩
        · simp at h
        · simp only [Value.slice.injEq, Option.some.injEq, Addr.mk.injEq, and_true, true_and] at h
          omega
      · rw [HO.out.cellAt j (by omega)]
        have hj2 : j < xs.length := by omega
        exact ⟨xs[j], by simp [List.getElem?_eq_getElem hj2], HX.out _ (List.getElem_mem hj2)⟩

end Go.Proofs.Ytjllidnkndhgmaa
