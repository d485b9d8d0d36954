/- The draw of FnHexText: a text of drawn bytes, or a long one of one byte. -/
import Derived.Test.YtcafecpiijmkoaaDoorHg
import Derived.Test.YtcafecpiijmkoaaDoorDx
import Derived.Maps.AppendAt
import Derived.Deep.OwnRows
namespace Go.Proofs.YtcafecpiijmkoaaDoor
open Go.RowKit

/-- a cursor is no row of another type -/
theorem cur_ne_own {W w : World} {g : Nat} (h : Cur W w g) {base : Nat} {e : TypeId} {size n : Nat} {v : Value} {xs : List Value} (ho : w.ownsRow base e size v n xs) (he : e ≠ 62) : v.ownBlock ≠ some g := by
  obtain ⟨A, m, c, i, h0, hb, _⟩ := h
  rcases ho.2 with ⟨rfl, _⟩ | ⟨g', cap, cur, rfl, _, hg', _⟩
  · simp [Value.ownBlock]
  · intro heq
    simp only [Value.ownBlock, Option.some.injEq] at heq
    subst heq
    rw [hb] at hg'
    injection hg' with hg'
    injection hg' with _ ht
    exact he ht.symm
theorem Cur.keptO {W w w' : World} {g : Nat} {r : Option Nat} (h : Cur W w g) (k : w.grownBy w' r) (hne : r ≠ some g) (hr : ∀ b, r = some b → W.heap.size ≤ b) : Cur W w' g := by
  obtain ⟨A, n, c, i, h0, hb, hg, h1, h2, hr', hB⟩ := h
  exact ⟨A, n, c, i, h0, (k.block g (lt_of_block hb) (fun e => hne e.symm)).trans hb, hg, h1, h2, hr', hB.grown k hB.size hr⟩


theorem conv_own (w : World) (base : Nat) (v : Value) (L : List UInt8) (h : w.ownsRow base 5 1 v L.length (Lib.byteCells L)) :
    (convert 22 9 v).run Tryd.prog w = .ok (.string ⟨L.toArray⟩) w := by
  rcases h.2 with ⟨rfl, h0⟩ | ⟨g, cap, cur, rfl, _⟩
  · have : L = [] := List.length_eq_zero_iff.1 (by omega)
    rw [this]; rfl
  · refine run_convert_bytes_back (P := Tryd.prog) w 22 9 5 ⟨g, 0, none⟩ cap _ Tryd.underlying22 Tryd.underlying5 Tryd.underlying9 ?_
    intro t ht
    rw [Addr.add_lit, Nat.zero_add, h.cellAt t (by omega)]
    simp [Lib.byteCells, ht]
theorem conv_block (w : World) (g : Nat) (c : Nat) (L : List UInt8) (h : w.heap[g]? = some (.cells (Lib.byteCells L).toArray 5 (0, 0))) :
    (convert 22 9 (.slice (some ⟨g, 0, none⟩) L.length c)).run Tryd.prog w = .ok (.string ⟨L.toArray⟩) w := by
  refine run_convert_bytes_back (P := Tryd.prog) w 22 9 5 ⟨g, 0, none⟩ c _ Tryd.underlying22 Tryd.underlying5 Tryd.underlying9 ?_
  intro t ht
  rw [Addr.add_lit, Nat.zero_add, block_cell h t]
  simp [Lib.byteCells, ht]
theorem u8_back (r : Nat) (h : r < 256) : (UInt8.ofNat r).toNat = r := by simp; omega
theorem wrap_u8 (r : Int) : ∃ d : Nat, d < 256 ∧ IntKind.u8.wrap r = (d : Int) := by
  refine ⟨(r % 256).toNat, by omega, ?_⟩
  simp [IntKind.wrap, IntKind.signed, IntKind.bits]
  omega

theorem cells_snoc (L : List UInt8) (d : Nat) (h : d < 256) : Lib.byteCells (L ++ [UInt8.ofNat d]) = Lib.byteCells L ++ [.int .u8 (d : Int)] := by
  simp only [Lib.byteCells, List.map_append, List.map_cons, List.map_nil, u8_back d h]

set_option maxHeartbeats 2000000 in
set_option maxRecDepth 100000 in
theorem text_g {w0 W w : World} {g : Nat} (n : Int) (h0 : 0 ≤ n) (h1 : n ≤ 5000) (h : CG w0 W w g) :
    Calls Tryd.prog 39 #[.pointer (some ⟨g, 0, none⟩), .int .i64 n] w fun e w' => ∃ T : ByteArray, e = .returned (.string T) ∧ T.size ≤ 5000 ∧ Cur W w' g := by
  obtain ⟨i0, hi, hz0, hz1, hz2⟩ := info_parts info_u8
  have hb0 := h.1.below.size
  have HO0 := hid (World.ownsRow_lit (e := 5) (size := 1) (base := W.heap.size) w #[] 0 hb0 (by decide) (by rfl))
  have HC := hid h.1
  clear h
  obtain ⟨N, rfl⟩ : ∃ N : Nat, n = N := ⟨n.toNat, by omega⟩
  go_enter Tryd.func39, Tryd.ntmps39
  go_wp2
  go_loopw [5, 6] (fun v i wr => ∃ (k : Nat) (L : List UInt8), k ≤ N ∧ L.length = k ∧ i = .int .i64 k ∧ Hid (wr.ownsRow W.heap.size 5 1 v k (Lib.byteCells L)) ∧ Hid (Cur W wr g)) (fun _ i _ => 5001 - (intOf i).toNat)
  case atStart => exact ⟨0, [], by omega, rfl, rfl, HO0.out, HC.out.alloc _⟩
  case round =>
    obtain ⟨k, L, hk, hL, rfl, HO, HD⟩ := hrel
    by_cases hlt : k < N
    · go_wp2_with (first | (go_at_call 53; refine (byte_any W _ g HD.out).mono ?_; rintro e w2 ⟨r, rfl, ⟨hr0, hr1⟩, hC2, hg2⟩; have HC2 := hid hC2; have HO2 := hid (HO.out.kept hg2 (.inr (cur_ne_own HD.out HO.out (by decide)))); clear hC2 hg2; obtain ⟨d, rfl⟩ : ∃ d : Nat, r = d := ⟨r.toNat, by omega⟩) | (at_builtin; refine wpList_append_own _ rfl _ _ 22 rfl W.heap.size 5 i0 (.int .u8 0) 1 1 Tryd.underlying22 hi hz0 hz1 hz2 rfl (by decide) _ _ _ rfl (HO2.out.alloc _) ⟨w2.heap.size, 0, none⟩ 1 1 [.int .u8 (d : Int)] rfl rfl ?c1 ?c2 ?c3 ?c4 ?c5 ?_))
      case c1 => exact cell_one_new _ _ _
      case c2 => simp [Value.oneCell']
      case c3 => unfold maxLen; omega
      case c4 => omega
      case c5 => have := HC2.out.below.size; simp; omega
      intro v' w3 hown3 hgr3 _
      have H3 := hid hown3
      have hcur : Cur W w3 g := (HC2.out.alloc _).keptO hgr3 (cur_ne_own (HC2.out.alloc (.cells #[.int .u8 (d : Int)] 5)) (HO2.out.alloc _) (by decide)) (fun b hb => (HO2.out.lt b hb).1)
      have HC3 := hid hcur
      clear hown3 hgr3 hcur
      go_wp2
      go_roundw
      case rel => exact ⟨k + 1, L ++ [UInt8.ofNat d], by omega, by simp [hL], by go_num, by show World.ownsRow _ _ _ _ _ _ _; rw [cells_snoc L d (by omega)]; exact H3.out, HC3.out⟩
      case measure => simp [intOf]; omega
    · obtain rfl : k = N := by omega
      have hO := HO.out
      rw [← hL] at hO
      have hconv := conv_own wr _ _ L hO
      rw [hL] at hO
      clear hO
      go_wp2
      go_ret
      exact ⟨_, rfl, by simp [ByteArray.size]; omega, HD.out⟩

theorem made_u8 (n : Nat) : madeCells #[.int .u8 0] n = (Lib.byteCells (List.replicate n 0)).toArray := by
  apply Array.ext
  · simp [madeCells, Lib.byteCells]
  · intro i h1 h2
    simp [madeCells, Lib.byteCells, Nat.mod_one]
theorem set_u8 (L : List UInt8) (i d : Nat) (h : d < 256) : (Lib.byteCells L).toArray.setIfInBounds i (.int .u8 (d : Int)) = (Lib.byteCells (L.set i (UInt8.ofNat d))).toArray := by
  simp [Lib.byteCells, List.map_set, u8_back d h]
theorem info_u8' : (Tryd.prog.info? 5).map (fun i => (i.zero, i.size, i.bytes)) = some (some (.int .u8 0), 1, 1) := info_u8

set_option maxHeartbeats 2000000 in
set_option maxRecDepth 100000 in
theorem long_any {W w : World} (N d : Nat) (hN : N ≤ 30000) (hd : d < 256) (hB : Below W.heap.size W w) :
    Calls Tryd.prog 37 #[.int .i64 N, .int .u8 d] w fun e w' => ∃ T : ByteArray, e = .returned (.string T) ∧ T.size = N ∧ Below W.heap.size W w' := by
  have hmk := fun w => run_make_row' (P := Tryd.prog) 22 5 (.int .u8 0) 1 Tryd.underlying22 info_u8' rfl .i64 .i64 N (by omega) (by omega) w
  have hsz := hB.size
  have HB := hid hB
  clear hB
  go_enter Tryd.func37, Tryd.ntmps37
  go_wp2
  go_loopw [6] (fun i wr => ∃ (k : Nat) (L : List UInt8), k ≤ N ∧ L.length = N ∧ i = .int .i64 k ∧ Hid (wr.heap[w.heap.size]? = some (.cells (Lib.byteCells L).toArray 5 (0, 0))) ∧ Hid (Below W.heap.size W wr)) (fun i _ => 30001 - (intOf i).toNat)
  case atStart => exact ⟨0, List.replicate N 0, by omega, by simp, rfl, by rw [← made_u8]; exact heap_alloc_new w _, HB.out.alloc hsz _⟩
  case round =>
    obtain ⟨k, L, hk, hL, rfl, HO, HD⟩ := hrel
    by_cases hlt : k < N
    · obtain ⟨x, hx⟩ : ∃ x, (Lib.byteCells L)[k]? = some x := ⟨_, List.getElem?_eq_getElem (by simp [Lib.byteCells]; omega)⟩
      have hc : wr.cell? ⟨w.heap.size, k, none⟩ = some x := by rw [block_cell HO.out k]; simpa using hx
      have hf : wr.frozen? ⟨w.heap.size, k, none⟩ = false := block_free HO.out k
      go_wp2
      go_roundw
      case rel => exact ⟨k + 1, L.set k (UInt8.ofNat d), by omega, by simp [hL], by go_num, by show (World.setCell _ _ _).heap[_]? = _; rw [← set_u8 L k d hd]; exact block_set HO.out k _, HD.out.setCell hsz _⟩
      case measure => simp [intOf]; omega
    · obtain rfl : k = N := by omega
      have hconv := conv_block wr w.heap.size L.length L HO.out
      rw [hL] at hconv
      go_wp2
      go_ret
      exact ⟨_, rfl, by simp [ByteArray.size, hL], HD.out⟩

theorem longI {W w : World} (x : Int) (d : Nat) (h0 : 0 ≤ x) (hN : x ≤ 30000) (hd : d < 256) (hB : Below W.heap.size W w) :
    Calls Tryd.prog 37 #[.int .i64 x, .int .u8 d] w fun e w' => ∃ T : ByteArray, e = .returned (.string T) ∧ T.size = x ∧ Below W.heap.size W w' := by
  obtain ⟨N, rfl⟩ : ∃ N : Nat, x = N := ⟨x.toNat, by omega⟩
  exact (long_any N d (by omega) hd hB).mono fun _ _ ⟨T, he, ht, hb⟩ => ⟨T, he, by omega, hb⟩

section
variable {W w : World} {A : Option Addr} {n : Nat} (c : Nat) (hr : RdB W A n) (hB : Below W.heap.size W w)
include hr hB
set_option maxHeartbeats 1000000 in
set_option maxRecDepth 100000 in
theorem dEncodeHex : Calls Tryd.prog 14 #[.slice A n c] w fun e w' => ∃ T : ByteArray, e = .returned (.string T) ∧ T.size ≤ 30000 ∧ Below W.heap.size W w' := by
  go_enter Tryd.func14, Tryd.ntmps14
  go_wp2_with (first | (go_at_call 35; refine (new_any W _ _ _ _ (by assumption) (by first | assumption | exact Below.refl _ _)).mono ?_; rintro e w1 ⟨g, rfl, hc0, _⟩; have hc := CG.start hc0; clear hc0) | (go_at_call 36; refine (once_g _ (by omega) (by repeat (first | assumption | apply CG.alloc | apply CG.drewN | apply CG.drew))).mono ?_; rintro e w1 ⟨b, rfl, hc⟩) | (go_at_call 38; refine (below_g _ (by omega) (by repeat (first | assumption | apply CG.alloc | apply CG.drewN | apply CG.drew))).mono ?_; rintro e w1 ⟨r, rfl, hr, hc⟩) | (go_at_call 39; refine (text_g _ (by omega) (by omega) (by repeat (first | assumption | apply CG.alloc | apply CG.drewN | apply CG.drew))).mono ?_; rintro e w1 ⟨T, rfl, hT, hc⟩) | (go_at_call 37; go_loud (refine (longI _ 200 (by omega) (by omega) (by decide) (CG.below (by repeat (first | assumption | apply CG.alloc | apply CG.drewN | apply CG.drew)))).mono ?_; rintro e w1 ⟨T, rfl, hT, hc⟩)))
  all_goals (go_ret; exact ⟨_, rfl, by omega, by first | exact hc | exact hc.below⟩)
end
end Go.Proofs.YtcafecpiijmkoaaDoor
