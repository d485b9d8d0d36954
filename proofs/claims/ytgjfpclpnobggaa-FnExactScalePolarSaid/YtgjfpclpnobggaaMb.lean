/- A polar that is being copied, in memory of its own; copyPolar. -/
import Derived.Test.YtgjfpclpnobggaaMa
namespace Go.Proofs.Ytgjfpclpnobggaa
open Go.Shelf Go.RowKit

/-- the copy: the argument's cells, the copy's cells, the result's cells, and what is owned -/
structure CB (w0 w : World) (ib bp rs : Nat) (a b c t1 t2 t3 v1 v2 v3 : Value) (F : List Nat) (Z : List Int) (R : List Value) (S : List (List Nat)) : Prop where
  bel : Below w0.heap.size w0 w
  inp : Tri w ib a b c
  tri : Tri w bp t1 t2 t3
  res : Tri w rs (.slice none 0 0) (.slice none 0 0) (.slice none 0 0)
  ige : w0.heap.size ≤ ib
  bge : w0.heap.size ≤ bp
  rge : w0.heap.size ≤ rs
  nbi : bp ≠ ib
  nbr : bp ≠ rs
  nri : rs ≠ ib
  mp : MP w0.heap.size w v1 v2 v3 F Z R S
theorem own_apart {w w' : World} {B n m : Nat} {e e' : TypeId} {x y : Value} {xs ys : List Value} (h : w.ownsRow B e 1 x n xs) (h' : w'.ownsRow w.heap.size e' 1 y m ys) : apart x y ∧ apart y x := by
  have key : ∀ b, x.ownBlock = some b → y.ownBlock = some b → False := fun b h1 h2 => by
    have := (h.lt b h1).2
    have := (h'.lt b h2).1
    omega
  constructor
  · cases hb : x.ownBlock with
    | none => exact .inl hb
    | some b => exact .inr fun e => key b hb (by rw [← e]; exact hb)
  · cases hb : y.ownBlock with
    | none => exact .inl hb
    | some b => exact .inr fun e => key b (by rw [← e]; exact hb) hb
section
variable {w0 w w' : World} {ib bp rs : Nat} {a b c t1 t2 t3 v1 v2 v3 : Value} {F : List Nat} {Z : List Int} {R : List Value} {S : List (List Nat)}
theorem CB.below (h : CB w0 w ib bp rs a b c t1 t2 t3 v1 v2 v3 F Z R S) (hB : Below w.heap.size w w') : CB w0 w' ib bp rs a b c t1 t2 t3 v1 v2 v3 F Z R S :=
  ⟨h.bel.trans (hB.mono h.bel.size), h.inp.keep hB, h.tri.keep hB, h.res.keep hB, h.ige, h.bge, h.rge, h.nbi, h.nbr, h.nri, h.mp.below hB⟩
theorem CB.alloc (h : CB w0 w ib bp rs a b c t1 t2 t3 v1 v2 v3 F Z R S) (o : Obj) : CB w0 (w.alloc o) ib bp rs a b c t1 t2 t3 v1 v2 v3 F Z R S := h.below ((Below.refl _ _).alloc (Nat.le_refl _) o)
theorem CB.drew (h : CB w0 w ib bp rs a b c t1 t2 t3 v1 v2 v3 F Z R S) : CB w0 w.drew ib bp rs a b c t1 t2 t3 v1 v2 v3 F Z R S := h.below (Below.refl _ _).drew
theorem CB.drewN (h : CB w0 w ib bp rs a b c t1 t2 t3 v1 v2 v3 F Z R S) (n : Nat) : CB w0 (w.drewN n) ib bp rs a b c t1 t2 t3 v1 v2 v3 F Z R S := h.below (below_drewN (Below.refl _ _) n)
/-- a turn of one owned block -/
theorem CB.turn {r : Option Nat} (h : CB w0 w ib bp rs a b c t1 t2 t3 v1 v2 v3 F Z R S) (k : w.grownBy w' r) (hr : ∀ q, r = some q → w0.heap.size ≤ q) (n1 : r ≠ some ib) (n2 : r ≠ some bp) (n3 : r ≠ some rs) (hm : MP w0.heap.size w' v1 v2 v3 F Z R S) : CB w0 w' ib bp rs a b c t1 t2 t3 v1 v2 v3 F Z R S :=
  ⟨h.bel.grown k h.bel.size hr, (k.block ib (lt_of_block h.inp) (Ne.symm n1)).trans h.inp, (k.block bp (lt_of_block h.tri) (Ne.symm n2)).trans h.tri, (k.block rs (lt_of_block h.res) (Ne.symm n3)).trans h.res, h.ige, h.bge, h.rge, h.nbi, h.nbr, h.nri, hm⟩
theorem CB.app3 {v3' x : Value} {s : List Nat} (h : CB w0 w ib bp rs a b c t1 t2 t3 v1 v2 v3 F Z R S) (k : w.grownBy w' v3.ownBlock) (ho : w'.ownsRow w0.heap.size 22 1 v3' (R.length + 1) (R ++ [x])) (hx : w.ownsRow w0.heap.size 36 1 x s.length (fcells s)) (ax : apart x v1) (xr : ∀ r ∈ R, apart x r ∧ apart r x) :
    CB w0 w' ib bp rs a b c t1 t2 t3 v1 v2 v3' F Z (R ++ [x]) (S ++ [s]) :=
  ⟨h.bel.grown k h.bel.size (fun q hq => (h.mp.o3.lt q hq).1), (k.block ib (lt_of_block h.inp) (Ne.symm (tri_ne_own h.inp h.mp.o3 (by decide)))).trans h.inp, (k.block bp (lt_of_block h.tri) (Ne.symm (tri_ne_own h.tri h.mp.o3 (by decide)))).trans h.tri, (k.block rs (lt_of_block h.res) (Ne.symm (tri_ne_own h.res h.mp.o3 (by decide)))).trans h.res, h.ige, h.bge, h.rge, h.nbi, h.nbr, h.nri, h.mp.app3 k ho hx ax xr⟩
theorem MP.tri {B q i : Nat} {x y z u : Value} (h : MP B w v1 v2 v3 F Z R S) (ht : Tri w q x y z) : MP B (w.setCell ⟨q, i, none⟩ u) v1 v2 v3 F Z R S :=
  h.turn (grown_set w q i u) (.inr (tri_ne_own ht h.o1 (by decide))) (.inr (tri_ne_own ht h.o2 (by decide))) (.inr (tri_ne_own ht h.o3 (by decide))) (fun r hr => by
    obtain ⟨s, hs⟩ := h.row hr
    exact .inr (tri_ne_own ht hs (by decide)))
theorem CB.set2 (h : CB w0 w ib bp rs a b c t1 t2 t3 v1 v2 v3 F Z R S) (u : Value) : CB w0 (w.setCell ⟨bp, 2, none⟩ u) ib bp rs a b c t1 t2 u v1 v2 v3 F Z R S :=
  ⟨h.bel.setCell (p := ⟨bp, 2, none⟩) h.bge _, h.inp.setO h.nbi.symm, h.tri.set2, h.res.setO h.nbr.symm, h.ige, h.bge, h.rge, h.nbi, h.nbr, h.nri, h.mp.tri h.tri⟩
theorem CB.cell {br cr i j x : Nat} {s : List Nat} (h : CB w0 w ib bp rs a b c t1 t2 t3 v1 v2 v3 F Z R S) (hr : R[i]? = some (.slice (some ⟨br, 0, none⟩) s.length cr)) (hs : S[i]? = some s) (hj : j < s.length) : CB w0 (w.setCell ⟨br, j, none⟩ (.float .f32 x)) ib bp rs a b c t1 t2 t3 v1 v2 v3 F Z R (S.set i (s.set j x)) := by
  have ho := h.mp.ro i _ _ hr hs
  exact ⟨h.bel.setCell (p := ⟨br, j, none⟩) (ho.lt br rfl).1 _, h.inp.setO (fun e => tri_ne_own h.inp ho (by decide) (by rw [e]; rfl)), h.tri.setO (fun e => tri_ne_own h.tri ho (by decide) (by rw [e]; rfl)), h.res.setO (fun e => tri_ne_own h.res ho (by decide) (by rw [e]; rfl)), h.ige, h.bge, h.rge, h.nbi, h.nbr, h.nri, h.mp.cell hr hs hj⟩
theorem CB.end_ (h : CB w0 w ib bp rs a b c t1 t2 t3 v1 v2 v3 F Z R S) (x y z : Value) : MP w0.heap.size (((w.setCell ⟨rs, 0, none⟩ x).setCell ⟨rs, 1, none⟩ y).setCell ⟨rs, 2, none⟩ z) v1 v2 v3 F Z R S ∧ Below w0.heap.size w0 (((w.setCell ⟨rs, 0, none⟩ x).setCell ⟨rs, 1, none⟩ y).setCell ⟨rs, 2, none⟩ z) :=
  ⟨((h.mp.tri h.res).tri h.res.set0).tri h.res.set0.set1, ((h.bel.setCell (p := ⟨rs, 0, none⟩) h.rge _).setCell (p := ⟨rs, 1, none⟩) h.rge _).setCell (p := ⟨rs, 2, none⟩) h.rge _⟩
/-- no row yet -/
theorem CB.start {v1 v2 : Value} (h1 : w.ownsRow w0.heap.size 36 1 v1 F.length (fcells F)) (h2 : w.ownsRow w0.heap.size 3 1 v2 Z.length (icells Z)) (hi : Tri w ib a b c) (hr : Tri w rs (.slice none 0 0) (.slice none 0 0) (.slice none 0 0)) (i0 : w0.heap.size ≤ ib) (r0 : w0.heap.size ≤ rs) (nri : rs ≠ ib) (hB : Below w0.heap.size w0 w) :
    CB w0 (w.alloc (.cells #[v1, v2, .slice none 0 0] 29)) ib w.heap.size rs a b c v1 v2 (.slice none 0 0) v1 v2 (.slice none 0 0) F Z [] [] :=
  have hb := (Below.refl w.heap.size w).alloc (Nat.le_refl _) (.cells #[v1, v2, .slice none 0 0] 29)
  ⟨hB.trans (hb.mono hB.size), hi.keep hb, heap_alloc_new w _, hr.keep hb, i0, hB.size, r0, (by have := lt_of_block hi; omega), (by have := lt_of_block hr; omega), nri,
    ⟨h1.alloc _, h2.alloc _, own_nil _ _ _ _ rfl, rfl, (fun j r s h => by simp at h), (fun r h => by cases h), (fun i j r r' h => by simp at h)⟩⟩
end
end Go.Proofs.Ytgjfpclpnobggaa
