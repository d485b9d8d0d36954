/- ScalePolar of the second side: what grows; a step of a region that appends. -/
import Derived.Test.YtgjfpclpnobggaaMe
import Derived.Deep.RegionHeld3
namespace Go.Proofs.Ytgjfpclpnobggaa
open Go.Shelf Go.RowKit

theorem own_over {c w' : World} {B B' n n' : Nat} {e e' : TypeId} {v v' : Value} {xs xs' : List Value} (hg : c.grownBy w' v'.ownBlock) (hc : c.ownsRow B' e' 1 v' n' xs') (he : e ≠ e') (h : c.ownsRow B e 1 v n xs) : w'.ownsRow B e 1 v n xs := h.kept hg (own_ne h hc he)
theorem tri_over {c w' : World} {B' n' g : Nat} {e' : TypeId} {v' x y z : Value} {xs' : List Value} (hg : c.grownBy w' v'.ownBlock) (hc : c.ownsRow B' e' 1 v' n' xs') (he : e' ≠ 29) (h : Tri c g x y z) : Tri w' g x y z := (hg.block g (lt_of_block h) (Ne.symm (tri_ne_own h hc he))).trans h
theorem bel_over {w0 c w' : World} {n' : Nat} {e' : TypeId} {v' : Value} {xs' : List Value} (hg : c.grownBy w' v'.ownBlock) (hc : c.ownsRow w0.heap.size e' 1 v' n' xs') (h : Below w0.heap.size w0 c) : Below w0.heap.size w0 w' := h.grown hg h.size (fun b hb => (hc.lt b hb).1)
theorem size_alloc (w : World) (o : Obj) : (w.alloc o).heap.size = w.heap.size + 1 := by simp
theorem bel_set {a w : World} {b i : Nat} {u : Value} (hb : a.heap.size ≤ b) (h : Below a.heap.size a w) : Below a.heap.size a (w.setCell ⟨b, i, none⟩ u) := h.setCell (p := ⟨b, i, none⟩) hb u
theorem own_lit {w0 X : World} {e : TypeId} {q : Nat} (hq : X.heap.size = q) (h : Below w0.heap.size w0 X) : (X.alloc (.cells #[] e)).ownsRow w0.heap.size e 1 (.slice (some ⟨q, 0, none⟩) 0 0) 0 [] := by
  subst hq
  exact World.ownsRow_lit X #[] 0 h.size (by decide) rfl
theorem src_cells {w1 c : World} {ad : Addr} {xs : List Value} (h : ∀ (j : Nat) (u : Value), xs[j]? = some u → w1.cell? (ad.add j) = some u) (hB : Below w1.heap.size w1 c) : ∀ (j : Nat) (u : Value), xs[j]? = some u → c.cell? (ad.add j) = some u := fun j u hj => (hB.cell (World.block_lt_of_cell? w1 _ (h j u hj))).trans (h j u hj)
theorem Below.drewS {a w : World} (h : Below a.heap.size a w) : Below a.heap.size a w.drew := h.drew
theorem step_own_c {P : Program} {ops : Array Oper} {o : Oper} {a : Act} {w w1 : World} {K : Act → World → Prop} {Q : Exit → Act → World → Prop} {E : Prop}
    (hg : o.guard = none) (s x : Operand) (t : TypeId) (hop : o.op = Op.call { callee := Callee.builtin Builtin.append, args := #[s, x], argTypes := #[t, t] })
    (e : TypeId) (i : TypeInfo) (z : Value) (bytes : Nat) (h1 : P.underlying t = some (.slice e)) (h2 : P.info? e = some i) (h3 : i.zero = some z) (h4 : i.size = 1) (h5 : i.bytes = bytes) (h6 : z.cells.size = 1)
    (v : Value) (n : Nat) (xs : List Value) (hs : a.eval s = v)
    (ad : Addr) (m c : Nat) (news : List Value) (hx : a.eval x = .slice (some ad) m c) (hn : news.length = m * 1) (hc : ∀ (j : Nat) (u : Value), news[j]? = some u → w1.cell? (ad.add j) = some u) (h1c : ∀ u ∈ news, u.oneCell' = true)
    (b1 : n + m ≤ maxLen) (b2 : (n + m) * bytes ≤ 140737488355328) (hB : Below w1.heap.size w1 w) (hown : w.ownsRow w1.heap.size e 1 v n xs)
    (hK : ∀ v' w', w.ownsRow w1.heap.size e 1 v n xs → w'.ownsRow w1.heap.size e 1 v' (n + m) (xs ++ news) → w.grownBy w' v.ownBlock → K (a.put o.dst v') w') :
    if Region.wanted o (yielded ops a.tmps) = true then Oper.wp P o a w K Q else E :=
  step_own_at hg s x t hop w1.heap.size e i z 1 bytes h1 h2 h3 h4 h5 h6 (by decide) v n xs hs hown ad m c news hx hn (src_cells hc hB) h1c b1 b2 hB.size (fun v' w' g1 g2 _ => hK v' w' hown g1 g2)
theorem held2 {w1 c : World} {g : Nat} {x y z : Value} (h : Tri w1 g x y z) (hB : Below w1.heap.size w1 c) : c.cell? ⟨g, 0, none⟩ = some x ∧ c.cell? ⟨g, 1, none⟩ = some y := ⟨(h.keep hB).facts.1.1, (h.keep hB).facts.1.2.1⟩
theorem srcF {w : World} {ad : Addr} {c : Nat} {xs : List Nat} (h : RdF w (.slice (some ad) xs.length c) xs) : ∀ (j : Nat) (u : Value), (fcells xs)[j]? = some u → w.cell? (ad.add j) = some u := fun j u hj => by
  obtain ⟨_, A, c', hv, hc⟩ := h
  injection hv with e1 _ _
  subst e1
  have hl : j < xs.length := by have := (List.getElem?_eq_some_iff.1 hj).1; simpa [fcells] using this
  obtain ⟨ad', e, hcj⟩ := hc j hl
  obtain rfl := Option.some.inj e
  have : u = .float .f32 xs[j] := by simpa [fcells, List.getElem?_eq_getElem hl] using hj.symm
  subst this
  exact hcj
theorem srcI {w : World} {ad : Addr} {c : Nat} {xs : List Int} (h : RdI w (.slice (some ad) xs.length c) xs) : ∀ (j : Nat) (u : Value), (icells xs)[j]? = some u → w.cell? (ad.add j) = some u := fun j u hj => by
  obtain ⟨_, A, c', hv, hc⟩ := h
  injection hv with e1 _ _
  subst e1
  have hl : j < xs.length := by have := (List.getElem?_eq_some_iff.1 hj).1; simpa [icells] using this
  obtain ⟨ad', e, hcj⟩ := hc j hl
  obtain rfl := Option.some.inj e
  have : u = .int .i64 xs[j] := by simpa [icells, List.getElem?_eq_getElem hl] using hj.symm
  subst this
  exact hcj
theorem cells1F (xs : List Nat) : ∀ u ∈ fcells xs, u.oneCell' = true := fun u hu => by
  obtain ⟨b, _, rfl⟩ := List.mem_map.1 hu
  rfl
theorem cells1I (xs : List Int) : ∀ u ∈ icells xs, u.oneCell' = true := fun u hu => by
  obtain ⟨b, _, rfl⟩ := List.mem_map.1 hu
  rfl
theorem own_zero {w : World} {B : Nat} {e : TypeId} {v : Value} {n : Nat} {xs : List Value} (h : w.ownsRow B e 1 v (0 + n) ([] ++ xs)) : w.ownsRow B e 1 v n xs := by simpa using h

/-- the row of singles that is being made -/
structure RB (w0 w : World) (v1 : Value) (R : List Value) (v : Value) (xs : List Nat) : Prop where
  own : w.ownsRow w0.heap.size 36 1 v xs.length (fcells xs)
  one : apart v v1
  eno : apart v1 v
  rows : ∀ r ∈ R, apart r v ∧ apart v r
section
variable {w0 w w' : World} {ib bp rs : Nat} {a b c t1 t2 t3 v1 v2 v3 v : Value} {F : List Nat} {Z : List Int} {R : List Value} {S : List (List Nat)} {xs : List Nat}
theorem RB.below (h : RB w0 w v1 R v xs) (hB : Below w.heap.size w w') : RB w0 w' v1 R v xs := ⟨own_rd h.own hB, h.one, h.eno, h.rows⟩
theorem RB.start (h : CB w0 w ib bp rs a b c t1 t2 t3 v1 v2 v3 F Z R S) : RB w0 (w.alloc (.cells #[] 36)) v1 R (.slice (some ⟨w.heap.size, 0, none⟩) 0 0) [] := by
  have ho : (w.alloc (.cells #[] 36)).ownsRow w.heap.size 36 1 (.slice (some ⟨w.heap.size, 0, none⟩) 0 0) 0 [] := World.ownsRow_lit w #[] 0 (Nat.le_refl _) (by decide) rfl
  obtain ⟨e1, e2⟩ := own_apart h.mp.o1 ho
  exact ⟨own_base ho h.bel.size, e2, e1, fun r hr => by
    obtain ⟨s, hs⟩ := h.mp.row hr
    exact own_apart hs ho⟩
theorem RB.app {v' : Value} {x : Nat} (h : RB w0 w v1 R v xs) (hC : CB w0 w ib bp rs a b c t1 t2 t3 v1 v2 v3 F Z R S) (q : w.grownBy w' v.ownBlock) (ho : w'.ownsRow w0.heap.size 36 1 v' (xs.length + 1) (fcells xs ++ [.float .f32 x])) (hat : v'.ownBlock = v.ownBlock ∨ v'.ownBlock = some w.heap.size) :
    RB w0 w' v1 R v' (xs ++ [x]) ∧ CB w0 w' ib bp rs a b c t1 t2 t3 v1 v2 v3 F Z R S := by
  have fresh : ∀ u : Value, (∀ b, u.ownBlock = some b → b < w.heap.size) → apart u v → apart v u → apart u v' ∧ apart v' u := fun u hu h1 h2 => by
    rcases hat with e | e
    · unfold apart at *
      rw [e]
      exact ⟨h1, h2⟩
    · unfold apart
      rw [e]
      constructor
      · cases hb : u.ownBlock with
        | none => exact .inl rfl
        | some b => exact .inr fun e2 => by cases e2; have := hu _ hb; omega
      · right
        intro e2
        have := hu _ e2.symm
        omega
  obtain ⟨f1, f2⟩ := fresh v1 (fun b hb => (hC.mp.o1.lt b hb).2) h.eno h.one
  refine ⟨⟨by simpa [fcells] using ho, f2, f1, fun r hr => ?_⟩, ?_⟩
  · obtain ⟨s, hs⟩ := hC.mp.row hr
    exact fresh r (fun b hb => (hs.lt b hb).2) (h.rows r hr).1 (h.rows r hr).2
  · refine hC.turn q (fun b hb => (h.own.lt b hb).1) (tri_ne_own hC.inp h.own (by decide)) (tri_ne_own hC.tri h.own (by decide)) (tri_ne_own hC.res h.own (by decide)) ?_
    exact hC.mp.turn q h.eno (own_ne hC.mp.o2 h.own (by decide)) (own_ne hC.mp.o3 h.own (by decide)) (fun r hr => (h.rows r hr).1)
end
/-- the first i rows, scaled -/
def Pre (k : Nat) (ss S : List (List Nat)) (i : Nat) : Prop := S.length = i ∧ ∀ a, a < i → (S.getD a []).length = (ss.getD a []).length ∧ ∀ b, b < (ss.getD a []).length → FIs .f32 (at2 S a b) (fop .mul .f32 (fc .f32 (at2 ss a b)) (fc .f32 k))
def PreR (k : Nat) (ss : List (List Nat)) (i : Nat) (xs : List Nat) : Prop := ∀ b, b < xs.length → FIs .f32 (xs.getD b 0) (fop .mul .f32 (fc .f32 (at2 ss i b)) (fc .f32 k))
theorem PreR.next {k i x : Nat} {ss : List (List Nat)} {xs : List Nat} (h : PreR k ss i xs) (hx : FIs .f32 x (fop .mul .f32 (fc .f32 (at2 ss i xs.length)) (fc .f32 k))) : PreR k ss i (xs ++ [x]) := fun b hb => by
  rw [List.length_append] at hb
  rw [List.getD_eq_getElem?_getD]
  by_cases hlt : b < xs.length
  · rw [List.getElem?_append_left hlt, ← List.getD_eq_getElem?_getD]; exact h b hlt
  · have e : b = xs.length := by simp at hb; omega
    subst e
    rw [List.getElem?_append_right (Nat.le_refl _), Nat.sub_self]
    exact hx
theorem Pre.next {k i : Nat} {ss S : List (List Nat)} {xs : List Nat} (h : Pre k ss S i) (hl : xs.length = (ss.getD i []).length) (hx : PreR k ss i xs) : Pre k ss (S ++ [xs]) (i + 1) := by
  obtain ⟨h1, h2⟩ := h
  refine ⟨by simp [h1], fun a ha => ?_⟩
  by_cases hlt : a < i
  · have e : (S ++ [xs]).getD a [] = S.getD a [] := by
      rw [List.getD_eq_getElem?_getD, List.getElem?_append_left (by omega), ← List.getD_eq_getElem?_getD]
    unfold at2
    rw [e]
    exact h2 a hlt
  · obtain rfl : a = i := by omega
    have e : (S ++ [xs]).getD a [] = xs := by
      rw [List.getD_eq_getElem?_getD, List.getElem?_append_right (by omega), h1, Nat.sub_self]; rfl
    unfold at2
    rw [e]
    exact ⟨hl, fun b hb => hx b (by omega)⟩
theorem Pre.done {k : Nat} {ss S : List (List Nat)} (h : Pre k ss S ss.length) : Scaled k ss S := by
  obtain ⟨h1, h2⟩ := h
  have out : ∀ (T : List (List Nat)) (a : Nat), T.length ≤ a → T.getD a [] = [] := fun T a ha => by
    rw [List.getD_eq_getElem?_getD, List.getElem?_eq_none ha]; rfl
  refine ⟨h1, fun a => ?_, fun a b => ⟨fun hc hb => (h2 a (by omega)).2 b hb, fun hn => ?_⟩⟩
  · by_cases ha : a < ss.length
    · exact (h2 a ha).1
    · rw [out S a (by omega), out ss a (by omega)]
  · unfold at2
    rw [out S a (by omega), out ss a (by omega)]
end Go.Proofs.Ytgjfpclpnobggaa
