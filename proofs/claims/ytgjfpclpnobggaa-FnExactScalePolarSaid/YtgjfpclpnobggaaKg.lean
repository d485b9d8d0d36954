/- The draws of a polar alone and of a polar with a factor. -/
import Derived.Test.YtgjfpclpnobggaaKf
namespace Go.Proofs.Ytgjfpclpnobggaa
open Go.Shelf Go.RowKit

def Drawn (W w' : World) (v : Value) : Prop := ∃ ws an ss, RdP w' v ws an ss ∧ Small ws an ss ∧ Below W.heap.size W w'
/-- the result has been stored -/
structure PG (w0 W w : World) (g rs : Nat) (a b c : Value) : Prop where
  cur : Cur W w g
  wb : W.heap.size ≤ w0.heap.size
  gr : w0.grownBy w (some g)
  res : Tri w rs a b c
  rge : w0.heap.size ≤ rs
  dep : DepP (fun b => b = g ∨ b = rs ∨ b < w0.heap.size) w a b c
theorem PG.drawn {w0 W w : World} {g rs : Nat} {a b c : Value} (h : PG w0 W w g rs a b c) : Drawn W w (.agg #[a, b, c]) := by
  obtain ⟨ws, an, ss, h1, h2⟩ := h.dep.rd
  exact ⟨ws, an, ss, h1, h2, h.cur.below⟩
theorem PG.cg {w0 W w w' : World} {g rs : Nat} {a b c : Value} (h : PG w0 W w g rs a b c) (k : CG w W w' g) : PG w0 W w' g rs a b c where
  cur := k.1
  wb := h.wb
  gr := grown_trans h.gr k.2
  res := (k.2.block rs (lt_of_block h.res) (fun e => tri_ne_cur h.res h.cur (by cases e; rfl))).trans h.res
  rge := h.rge
  dep := h.dep.alike fun b hb hn => k.2.block b hb (fun e => hn (by cases e; exact .inl rfl))
theorem PF.cg {w0 W w w' : World} {g bp rs : Nat} {a b c : Value} (h : PF w0 W w g bp rs a b c) (k : CG w W w' g) : PF w0 W w' g bp rs a b c where
  cur := k.1
  wb := h.wb
  gr := grown_trans h.gr k.2
  tri := (k.2.block bp (lt_of_block h.tri) (fun e => tri_ne_cur h.tri h.cur (by cases e; rfl))).trans h.tri
  res := (k.2.block rs (lt_of_block h.res) (fun e => tri_ne_cur h.res h.cur (by cases e; rfl))).trans h.res
  rge := h.rge
  rne := h.rne
  dep := h.dep.alike fun b hb hn => k.2.block b hb (fun e => hn (by cases e; exact .inl rfl))
theorem stored_of {w0 W w : World} {g rs : Nat} {a b c : Value} (hC : Cur W w g) (hW : W.heap.size ≤ w0.heap.size) (hg : w0.grownBy w (some g)) (hT : Tri w rs (.slice none 0 0) (.slice none 0 0) (.slice none 0 0)) (hge : w0.heap.size ≤ rs) (hd : DepP (fun b => b = g ∨ b = rs ∨ b < w0.heap.size) w a b c) :
    PG w0 W (((w.setCell ⟨rs, 0, none⟩ a).setCell ⟨rs, 1, none⟩ b).setCell ⟨rs, 2, none⟩ c) g rs a b c := by
  have hcur : ∀ {w : World} {i : Nat} {u x y z : Value}, Cur W w g → w0.grownBy w (some g) → Tri w rs x y z → Cur W (w.setCell ⟨rs, i, none⟩ u) g ∧ w0.grownBy (w.setCell ⟨rs, i, none⟩ u) (some g) := fun hc hg ht =>
    ⟨hc.keptO (grown_set _ _ _ _) (fun e => tri_ne_cur ht hc (by cases e; rfl)) (fun b' hb => by cases hb; exact Nat.le_trans hW hge), grown_up hg (grown_set _ _ _ _) (fun b' hb => by cases hb; exact hge)⟩
  obtain ⟨c1, g1⟩ := hcur (i := 0) (u := a) hC hg hT
  obtain ⟨c2, g2⟩ := hcur (i := 1) (u := b) c1 g1 hT.set0
  obtain ⟨c3, g3⟩ := hcur (i := 2) (u := c) c2 g2 hT.set0.set1
  have hN : (fun b => b = g ∨ b = rs ∨ b < w0.heap.size) rs := .inr (.inl rfl)
  exact ⟨c3, hW, g3, hT.set0.set1.set2, hge, ((hd.alike (alike_cells hN)).alike (alike_cells hN)).alike (alike_cells hN)⟩
theorem PF.stored {w0 W w : World} {g bp rs : Nat} {a b c : Value} (h : PF w0 W w g bp rs a b c) : PG w0 W (((w.setCell ⟨rs, 0, none⟩ a).setCell ⟨rs, 1, none⟩ b).setCell ⟨rs, 2, none⟩ c) g rs a b c :=
  stored_of h.cur h.wb h.gr h.res h.rge h.dep
/-- the drawn polar -/
structure DP (w W w3 : World) (g : Nat) (a b c : Value) : Prop where
  cur : Cur W w3 g
  wb : W.heap.size ≤ w.heap.size
  gr : w.grownBy w3 (some g)
  res : Tri w3 w.heap.size (.slice none 0 0) (.slice none 0 0) (.slice none 0 0)
  dep : DepP (fun b => b = g ∨ b = w.heap.size ∨ b < w.heap.size) w3 a b c
theorem draw_start {W w w2 w3 : World} {g : Nat} {a b c : Value} (hW : Below W.heap.size W w) (hC2 : Cur W w2 g) (hb : Below (w.alloc (.cells #[.slice none 0 0, .slice none 0 0, .slice none 0 0] 29)).heap.size (w.alloc (.cells #[.slice none 0 0, .slice none 0 0, .slice none 0 0] 29)) w2)
    (hd : DepP (fun b => b = g ∨ b < w2.heap.size) w3 a b c) (hC : Cur W w3 g) (hg : w2.grownBy w3 (some g)) : DP w W w3 g a b c := by
  have hlt : w.heap.size < w2.heap.size := by have := hb.size; simp at this; omega
  have hr2 : Tri w2 w.heap.size (.slice none 0 0) (.slice none 0 0) (.slice none 0 0) := (hb.block _ (by simp)).trans (heap_alloc_new w _)
  have hne := tri_ne_cur hr2 hC2
  refine ⟨hC, hW.size, ?_, (hg.block _ hlt (fun e => hne (by cases e; rfl))).trans hr2, hd.weak (fun b hb => ?_)⟩
  · exact grown_trans ⟨hb.os, hb.tape, hb.output, by omega, fun i hi _ => (hb.block i (by simp; omega)).trans (Below.heap_alloc _ _ _ hi)⟩ hg
  · rcases hb with hb | hb | hb
    · exact .inl hb
    · exact .inr (by omega)
    · exact .inr (by omega)
theorem DP.pf {w W w3 : World} {g : Nat} {a b c : Value} (h : DP w W w3 g a b c) : PF w W (w3.alloc (.cells #[a, b, c] 29)) g w3.heap.size w.heap.size a b c where
  cur := h.cur.alloc _
  wb := h.wb
  gr := grown_trans h.gr (grown_alloc _ _ _)
  tri := heap_alloc_new w3 _
  res := (Below.heap_alloc _ _ _ (lt_of_block h.res)).trans h.res
  rge := Nat.le_refl _
  rne := by have := lt_of_block h.res; omega
  dep := h.dep.alike (fun b hb _ => Below.heap_alloc _ _ _ hb)

set_option maxHeartbeats 1000000 in
set_option maxRecDepth 100000 in
theorem dPolarOk {W w : World} {A : Option Addr} {n : Nat} (c : Nat) (hr : RdB W A n) (hB : Below W.heap.size W w) :
    Calls Try.prog 16 #[.slice A n c] w fun e w' => ∃ v, e = .returned v ∧ Drawn W w' v := by
  have HB := hid hB
  have HB1 := hid (hB.alloc hB.size (.cells #[.slice none 0 0, .slice none 0 0, .slice none 0 0] 29))
  have HR := hid hr
  clear hr hB
  go_enter Try.func16, Try.ntmps16
  go_wp2_with fail
  refine (new_any W _ _ _ _ HR.out HB1.out).mono ?_
  rintro e w2 ⟨g, rfl, hC2, hb2⟩
  have HC2 := hid hC2
  have HB2 := hid hb2
  clear hC2 hb2
  go_wp2_with fail
  refine (any_g HC2.out).mono ?_
  rintro e w3 ⟨a, b, c', rfl, hd, hC3, hg3⟩
  have HD := hid (draw_start HB.out HC2.out HB2.out hd hC3 hg3)
  clear hd hC3 hg3
  obtain ⟨⟨D1, n1, m1, rfl⟩, ⟨D2, n2, m2, rfl⟩, D3, n3, m3, rfl⟩ := HD.out.dep.shape
  obtain ⟨⟨p1, p2, p3⟩, q1, q2, q3⟩ := HD.out.res.facts
  go_wp2
  obtain ⟨⟨e1, e2, e3⟩, _⟩ := (((HD.out.res.set0 (x' := .slice D1 n1 m1)).set1 (y' := .slice D2 n2 m2)).set2 (z' := .slice D3 n3 m3)).facts
  (try simp only [Exit.inBlock, Exit.then])
  refine bodyPost_ret_by (v := .agg #[.slice D1 n1 m1, .slice D2 n2 m2, .slice D3 n3 m3]) ?_ rfl ?_
  · simp [go_sem, results, loadVar, e1, e2, e3]
    done
  exact ⟨_, rfl, (stored_of HD.out.cur HD.out.wb HD.out.gr HD.out.res (Nat.le_refl _) HD.out.dep).drawn⟩
end Go.Proofs.Ytgjfpclpnobggaa
