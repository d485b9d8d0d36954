/- Polars: copies of whole numbers and of rows; the whole copy; comparisons. -/
import Derived.Test.YtgjfpclpnobggaaPb
namespace Go.Proofs.Ytgjfpclpnobggaa
open Go.RowKit

set_option maxHeartbeats 1000000 in
set_option maxRecDepth 100000 in
theorem toI {w : World} {v : Value} {xs : List Int} (hn : xs.length ≤ 1048576) (h : RdI w v xs) :
    Calls Try.prog 35 #[v] w fun e w' => ∃ v', e = .returned v' ∧ RdI w' v' xs ∧ Below w.heap.size w w' := by
  obtain ⟨hl, A, cap, rfl, hc⟩ := h
  have HC := hid hc
  clear hc
  have hmk := fun w => run_make_row' (P := Try.prog) 23 3 (.int .i64 0) 8 Try.underlying23 info_int rfl .i64 .i64 xs.length (by omega) (by omega) w
  go_enter Try.func35, Try.ntmps35
  go_wp2
  go_loopw [4] (fun iv wr => ∃ (i : Nat), i ≤ xs.length ∧ iv = .int .i64 i ∧ Hid (wr.heap[w.heap.size]? = some (.cells (icells (mix xs i 0)).toArray 3 (0, 0))) ∧ Hid (Below w.heap.size w wr)) (fun iv _ => 1048577 - (intOf iv).toNat)
  case atStart => exact ⟨0, by omega, rfl, by rw [mix_zero, ← made_i]; exact heap_alloc_new w _, (Below.refl _ _).alloc (Nat.le_refl _) _⟩
  case round =>
    obtain ⟨i, hi, rfl, HO, HB⟩ := hrel
    by_cases hlt : i < xs.length
    · obtain ⟨ad, rfl, hca⟩ := HC.out i hlt
      have hcw := (HB.out.cell (World.block_lt_of_cell? w _ hca)).trans hca
      obtain ⟨u, hu⟩ : ∃ u, (icells (mix xs i 0))[i]? = some u := ⟨_, List.getElem?_eq_getElem (by simp [icells, mix]; omega)⟩
      have hc0 : wr.cell? ⟨w.heap.size, i, none⟩ = some u := by rw [block_cell HO.out i]; simpa using hu
      have hf0 : wr.frozen? ⟨w.heap.size, i, none⟩ = false := block_free HO.out i
      have HS := hid (block_set HO.out i (.int .i64 xs[i]))
      have HM := hid (mix_set xs i 0 hlt)
      clear hca hu
      generalize xs[i] = x at hcw HS HM
      go_wp2
      go_roundw
      case rel => exact ⟨i + 1, by omega, by go_num, by rw [← HM.out, show (icells ((mix xs i 0).set i x)).toArray = (icells (mix xs i 0)).toArray.setIfInBounds i (.int .i64 x) by simp [icells, List.map_set]]; exact HS.out, HB.out.setCell (Nat.le_refl _) _⟩
      case measure => simp [intOf]; omega
    · obtain rfl : i = xs.length := by omega
      go_wp2
      go_ret
      exact ⟨_, rfl, rdi_block hl HO.out (mix_full _ _), HB.out⟩

/-- rows that are being copied: the first i are there -/
def RdN (w : World) (g : Nat) (n i : Nat) (xss : List (List Nat)) : Prop :=
  ∃ cs : Array Value, w.heap[g]? = some (.cells cs 22 (0, 0)) ∧ cs.size = n ∧ (∀ (j : Nat) (x : Value), cs[j]? = some x → ∃ A m c, x = .slice A m c) ∧ ∀ j (h : j < xss.length), j < i → ∃ u, cs[j]? = some u ∧ RdF w u xss[j]
theorem RdN.keep {w w' : World} {g n i : Nat} {xss : List (List Nat)} (h : RdN w g n i xss) (hB : Below w.heap.size w w') : RdN w' g n i xss := by
  obtain ⟨cs, h1, h2, hq, h3⟩ := h
  refine ⟨cs, (hB.block _ (lt_of_block h1)).trans h1, h2, hq, fun j hj hji => ?_⟩
  obtain ⟨u, hu, hr⟩ := h3 j hj hji
  exact ⟨u, hu, hr.below hB⟩
/-- a store of a slice that can be read, into a block that holds no single -/
theorem RdF.store {w : World} {g i : Nat} {cs : Array Value} {t : TypeId} {v u : Value} {xs : List Nat} (h : RdF w v xs) (hg : w.heap[g]? = some (.cells cs t (0, 0))) (hs : ∀ (j : Nat) (x : Value), cs[j]? = some x → ∃ A m c, x = .slice A m c) : RdF (w.setCell ⟨g, i, none⟩ u) v xs := by
  obtain ⟨hl, A, cap, hv, hc⟩ := h
  refine ⟨hl, A, cap, hv, fun j hj => ?_⟩
  obtain ⟨ad, hA, hb⟩ := hc j hj
  refine ⟨ad, hA, ?_⟩
  rw [World.cell?_setCell_other]
  · exact hb
  · intro e
    rw [← e, block_cell hg i] at hb
    obtain ⟨_, _, _, he⟩ := hs _ _ hb
    cases he
theorem RdI.store {w : World} {g i : Nat} {cs : Array Value} {t : TypeId} {v u : Value} {xs : List Int} (h : RdI w v xs) (hg : w.heap[g]? = some (.cells cs t (0, 0))) (hs : ∀ (j : Nat) (x : Value), cs[j]? = some x → ∃ A m c, x = .slice A m c) : RdI (w.setCell ⟨g, i, none⟩ u) v xs := by
  obtain ⟨hl, A, cap, hv, hc⟩ := h
  refine ⟨hl, A, cap, hv, fun j hj => ?_⟩
  obtain ⟨ad, hA, hb⟩ := hc j hj
  refine ⟨ad, hA, ?_⟩
  rw [World.cell?_setCell_other]
  · exact hb
  · intro e
    rw [← e, block_cell hg i] at hb
    obtain ⟨_, _, _, he⟩ := hs _ _ hb
    cases he
theorem RdG.store {w : World} {g g' i n c : Nat} {cs : Array Value} {t : TypeId} {u : Value} {xss : List (List Nat)} (h : RdG w (.slice (some ⟨g', 0, none⟩) n c) xss) (hne : g ≠ g') (hg : w.heap[g]? = some (.cells cs t (0, 0))) (hs : ∀ (j : Nat) (x : Value), cs[j]? = some x → ∃ A m c, x = .slice A m c) : RdG (w.setCell ⟨g, i, none⟩ u) (.slice (some ⟨g', 0, none⟩) n c) xss := by
  obtain ⟨hl, A, cap, hv, hc⟩ := h
  refine ⟨hl, A, cap, hv, fun j hj => ?_⟩
  obtain ⟨ad, x, hA, hb, hr⟩ := hc j hj
  refine ⟨ad, x, hA, ?_, hr.store hg hs⟩
  injection hv with hv1 _ _
  rw [hA] at hv1
  injection hv1 with hv1
  rw [← hv1, add_flat] at hb ⊢
  rw [World.cell?_setCell_other]
  · exact hb
  · intro e
    injection e with e1 _ _
    exact hne e1
theorem RdN.next {w : World} {g n i : Nat} {xss : List (List Nat)} (h : RdN w g n i xss) (hi : i < xss.length) (hn : n = xss.length) {A : Option Addr} {m c : Nat} (hr : RdF w (.slice A m c) xss[i]) : RdN (w.setCell ⟨g, i, none⟩ (.slice A m c)) g n (i + 1) xss := by
  obtain ⟨cs, h1, h2, hq, h3⟩ := h
  refine ⟨cs.setIfInBounds i (.slice A m c), block_set h1 i _, by rw [Array.size_setIfInBounds]; exact h2, fun j x hx => ?_, fun j hj hji => ?_⟩
  · by_cases hij : i = j
    · subst hij
      rw [Array.getElem?_setIfInBounds_self_of_lt (by omega)] at hx
      exact ⟨A, m, c, (Option.some.inj hx).symm⟩
    · rw [Array.getElem?_setIfInBounds_ne hij] at hx
      exact hq j x hx
  · by_cases hij : i = j
    · subst hij
      exact ⟨_, Array.getElem?_setIfInBounds_self_of_lt (by omega), hr.store h1 hq⟩
    · obtain ⟨u, hu, hru⟩ := h3 j hj (by omega)
      exact ⟨u, by rw [Array.getElem?_setIfInBounds_ne hij]; exact hu, hru.store h1 hq⟩
theorem RdN.cell {w : World} {g n i : Nat} {xss : List (List Nat)} (h : RdN w g n i xss) (hi : i < n) : (∃ u, w.cell? ⟨g, i, none⟩ = some u) ∧ w.frozen? ⟨g, i, none⟩ = false ∧ g < w.heap.size := by
  obtain ⟨cs, h1, h2, hq, h3⟩ := h
  exact ⟨⟨cs[i], by rw [block_cell h1 i, Array.getElem?_eq_getElem]⟩, block_free h1 i, lt_of_block h1⟩
theorem RdN.done {w : World} {g c : Nat} {xss : List (List Nat)} (hl : xss.length ≤ 9223372036854775807) (h : RdN w g xss.length xss.length xss) : RdG w (.slice (some ⟨g, 0, none⟩) xss.length c) xss := by
  obtain ⟨cs, h1, h2, hq, h3⟩ := h
  refine ⟨hl, _, c, rfl, fun j hj => ?_⟩
  obtain ⟨u, hu, hr⟩ := h3 j hj hj
  exact ⟨_, u, rfl, by rw [add_flat, block_cell h1 j]; exact hu, hr⟩
theorem RdN.start (w : World) (n : Nat) (xss : List (List Nat)) : RdN (w.alloc (.cells (madeCells #[.slice none 0 0] n) 22)) w.heap.size n 0 xss := by
  refine ⟨_, heap_alloc_new w _, by simp [madeCells], fun j x hx => ?_, fun j _ h => by omega⟩
  by_cases hj : j < n
  · rw [Array.getElem?_eq_getElem (by simp [madeCells]; exact hj)] at hx
    refine ⟨none, 0, 0, ?_⟩
    rw [← Option.some.inj hx]
    simp [madeCells, Nat.mod_one]
  · rw [Array.getElem?_eq_none (by simp [madeCells]; omega)] at hx; cases hx

set_option maxHeartbeats 1000000 in
set_option maxRecDepth 100000 in
theorem toG {w : World} {v : Value} {xss : List (List Nat)} (hn : xss.length ≤ 1048576) (hn2 : ∀ r ∈ xss, r.length ≤ 1048576) (h : RdG w v xss) :
    Calls Try.prog 36 #[v] w fun e w' => ∃ v', e = .returned v' ∧ RdG w' v' xss ∧ (∃ g c, v' = .slice (some ⟨g, 0, none⟩) xss.length c ∧ w.heap.size ≤ g) ∧ Below w.heap.size w w' := by
  obtain ⟨hl, A, cap, rfl, hc⟩ := h
  have HC := hid hc
  have HN := hid hn2
  clear hc hn2
  have hmk := fun w => run_make_row' (P := Try.prog) 24 22 (.slice none 0 0) 24 Try.underlying24 info_row rfl .i64 .i64 xss.length (by omega) (by omega) w
  go_enter Try.func36, Try.ntmps36
  go_wp2
  go_loopw [4] (fun iv wr => ∃ (i : Nat), i ≤ xss.length ∧ iv = .int .i64 i ∧ Hid (RdN wr w.heap.size xss.length i xss) ∧ Hid (Below w.heap.size w wr)) (fun iv _ => 1048577 - (intOf iv).toNat)
  case atStart => exact ⟨0, by omega, rfl, RdN.start w _ _, (Below.refl _ _).alloc (Nat.le_refl _) _⟩
  case round =>
    obtain ⟨i, hi, rfl, HO, HB⟩ := hrel
    by_cases hlt : i < xss.length
    · obtain ⟨ad, u, rfl, hca, hru⟩ := HC.out i hlt
      have hcw := (HB.out.cell (World.block_lt_of_cell? w _ hca)).trans hca
      have HR := hid (hru.below HB.out)
      have hxl := HN.out xss[i] (List.getElem_mem hlt)
      clear hru hca
      obtain ⟨x, hxx⟩ : ∃ x, xss[i] = x := ⟨_, rfl⟩
      have HX := hid hxx
      rw [hxx] at HR hxl
      clear hxx
      go_wp2_with fail
      refine (toF hxl HR.out).mono ?_
      rintro e w1 ⟨v', rfl, hr1, hb1⟩
      have hr2 := hr1
      obtain ⟨_, A3, c3, rfl, _⟩ := hr2
      have HO1 := hid (HO.out.keep hb1)
      obtain ⟨⟨u0, hc0⟩, hf0, _⟩ := HO1.out.cell (i := i) hlt
      have HO2 := hid (HO1.out.next (A := A3) (m := x.length) (c := c3) hlt rfl (by rw [HX.out]; exact hr1))
      have HB2 := hid (HB.out.trans (hb1.mono HB.out.size))
      clear hr1 hb1
      go_wp2
      go_roundw
      case rel => exact ⟨i + 1, by omega, by go_num, HO2.out, HB2.out.setCell (Nat.le_refl _) _⟩
      case measure => simp [intOf]; omega
    · obtain rfl : i = xss.length := by omega
      go_wp2
      go_ret
      exact ⟨_, rfl, HO.out.done hl, ⟨_, _, rfl, Nat.le_refl _⟩, HB.out⟩
end Go.Proofs.Ytgjfpclpnobggaa
