/- The draw of any polar. -/
import Derived.Test.YtgjfpclpnobggaaKe
import Derived.Deep.RegionLawGrows
namespace Go.Proofs.Ytgjfpclpnobggaa
open Go.Shelf Go.RowKit

theorem own_base {w : World} {b1 b2 size n : Nat} {e : TypeId} {v : Value} {xs : List Value} (h : w.ownsRow b1 e size v n xs) (hb : b2 ≤ b1) : w.ownsRow b2 e size v n xs := by
  refine ⟨h.1, ?_⟩
  rcases h.2 with hn | ⟨g, cap, cur, hv, hg, rest⟩
  · exact .inl hn
  · exact .inr ⟨g, cap, cur, hv, Nat.le_trans hb hg, rest⟩
/-- the drawn polar in a block of its own -/
theorem any_start {W w w2 : World} {g m : Nat} {v1 v2 v3 : Value} {F : List Nat} {Z : List Int} {R : List Value} (hC : Cur W w g) (hP : PO (w.alloc (.cells #[.slice none 0 0, .slice none 0 0, .slice none 0 0] 29)) W w2 g v1 v2 v3 F Z R m) :
    PS w W (w2.alloc (.cells #[v1, v2, v3] 29)) g w2.heap.size w.heap.size v1 v2 v3 v1 v2 v3 F Z R m := by
  have hle : w.heap.size ≤ (w.alloc (.cells #[.slice none 0 0, .slice none 0 0, .slice none 0 0] 29)).heap.size := by simp
  have hlt : w.heap.size < w2.heap.size := by have := hP.gr.size; simp at this; omega
  have hne : w.heap.size ≠ g := Nat.ne_of_gt hC.lt
  have hrs : Tri w2 w.heap.size (.slice none 0 0) (.slice none 0 0) (.slice none 0 0) := (hP.gr.block _ (by simp) (fun e => hne (by cases e; rfl))).trans (heap_alloc_new w _)
  exact {
    cur := hP.cur.alloc _
    wb := hC.below.size
    gr := grown_trans (grown_trans (grown_alloc _ _ _) hP.gr) (grown_alloc _ _ _)
    tri := heap_alloc_new w2 _
    bge := by omega
    res := (Below.heap_alloc _ _ _ (lt_of_block hrs)).trans hrs
    rge := Nat.le_refl _
    rne := by omega
    o1 := (own_base hP.o1 hle).alloc _
    o2 := (own_base hP.o2 hle).alloc _
    o3 := (own_base hP.o3 hle).alloc _
    ro := fun r hr => by
      obtain ⟨xs, hl, hx, hn⟩ := hP.ro r hr
      exact ⟨xs, hl, (own_base hx hle).alloc _, hn⟩ }

theorem step_callE2 {P : Program} {ops : Array Oper} {o : Oper} {a : Act} {w : World} {K : Act → World → Prop} {Q : Exit → Act → World → Prop} {E : Prop}
    (hg : o.guard = none) (f : Nat) (x y : Operand) (t1 t2 : TypeId) (hop : o.op = Op.call { callee := Callee.value (Operand.func f), args := #[x, y], argTypes := #[t1, t2] })
    (hent : ∀ args w, (callFunc f args).run P w = .ok (.enter f args) w) (u1 u2 : Value) (hx : a.eval x = u1) (hy : a.eval y = u2) (R : Value → World → Prop)
    (hc : Calls P f #[u1, u2] w fun e w' => ∃ v, e = .returned v ∧ R v w') (hK : ∀ v w', R v w' → K (a.put o.dst v) w') :
    if Region.wanted o (yielded ops a.tmps) = true then Oper.wp P o a w K Q else E := by
  have hw : Region.wanted o (yielded ops a.tmps) = true := by simp [Region.wanted, hg]
  rw [if_pos hw]
  have hrun : (execOp a.eval o).run P w = .ok (.enter f #[a.eval x, a.eval y]) w := by simp [go_sem, execOp, hop, resolve, invoke, hent, Deferred.ofValue]
  unfold Oper.wp
  rw [hrun, hx, hy]
  refine hc.mono ?_
  rintro e w' ⟨v, rfl, hr⟩
  exact hK _ _ hr
theorem single_e {W w : World} {g : Nat} (m : Int) (hm : 0 ≤ m ∧ m ≤ 1000000) (h : Cur W w g) : Calls Try.prog 50 #[.pointer (some ⟨g, 0, none⟩), .int .i64 m] w fun e w' => ∃ v, e = .returned v ∧ ((∃ r, v = .float .f32 r) ∧ CG w W w' g) :=
  (single_g m hm (CG.start h)).mono fun _ _ ⟨r, he, _, hc⟩ => ⟨_, he, ⟨r, rfl⟩, hc⟩
theorem number_e {W w : World} {g : Nat} (h : Cur W w g) : Calls Try.prog 68 #[.pointer (some ⟨g, 0, none⟩)] w fun e w' => ∃ v, e = .returned v ∧ ((∃ r, v = .int .i64 r) ∧ CG w W w' g) :=
  (number_g (CG.start h)).mono fun _ _ ⟨r, he, _, hc⟩ => ⟨_, he, ⟨r, rfl⟩, hc⟩
theorem own_some {w : World} {base : Nat} {e : TypeId} {A : Option Addr} {n c : Nat} {xs : List Value} (h : w.ownsRow base e 1 (.slice A n c) n xs) (hn : 0 < n) : (∃ b, A = some ⟨b, 0, none⟩) ∧ n ≤ c := by
  rcases h.2 with ⟨h', h''⟩ | ⟨g, cap, cur, h', _, _, hle, _⟩
  · omega
  · injection h' with h1 h2 h3
    exact ⟨⟨g, h1⟩, by omega⟩

theorem wind_cell {w : World} {base b n c j : Nat} {e : TypeId} {F : List Nat} (h : w.ownsRow base e 1 (.slice (some ⟨b, 0, none⟩) n c) n (fcells F)) (hj : j < n) : (∃ y, w.cell? ⟨b, j, none⟩ = some (.float .f32 y)) ∧ w.frozen? ⟨b, j, none⟩ = false := by
  obtain ⟨_, h1, h2, h3⟩ := own_set (u := .bool true) h hj
  have h4 : j < F.length := by simpa [fcells] using h3
  exact ⟨⟨F[j], by rw [h1]; simp [fcells, List.getElem?_eq_getElem h4]⟩, h2⟩
theorem angle_cell {w : World} {base b n c j : Nat} {e : TypeId} {Z : List Int} (h : w.ownsRow base e 1 (.slice (some ⟨b, 0, none⟩) n c) n (icells Z)) (hj : j < n) : (∃ y, w.cell? ⟨b, j, none⟩ = some (.int .i64 y)) ∧ w.frozen? ⟨b, j, none⟩ = false := by
  obtain ⟨_, h1, h2, h3⟩ := own_set (u := .bool true) h hj
  have h4 : j < Z.length := by simpa [icells] using h3
  exact ⟨⟨Z[j], by rw [h1]; simp [icells, List.getElem?_eq_getElem h4]⟩, h2⟩

theorem DepP.shape {N : Nat → Prop} {w : World} {a b c : Value} (h : DepP N w a b c) : (∃ A n q, a = .slice A n q) ∧ (∃ A n q, b = .slice A n q) ∧ ∃ A n q, c = .slice A n q := by
  obtain ⟨ws, an, ss, ⟨⟨_, A1, c1, rfl, _⟩, _⟩, ⟨⟨_, A2, c2, rfl, _⟩, _⟩, ⟨_, A3, c3, rfl, _⟩, _⟩ := h
  exact ⟨⟨_, _, _, rfl⟩, ⟨_, _, _, rfl⟩, _, _, _, rfl⟩

section
variable {w0 W w : World} {g bp rs : Nat} {t1 t2 t3 v1 v2 v3 : Value} {F : List Nat} {Z : List Int} {R : List Value} {m b3 c3 ii j br cr : Nat}
theorem PS.rowv (h : PS w0 W w g bp rs t1 t2 t3 v1 v2 v3 F Z R m) (hi : ii < R.length) (hm : 0 < m) : ∃ br cr, m ≤ cr ∧ R[ii]? = some (.slice (some ⟨br, 0, none⟩) m cr) := by
  obtain ⟨xs, hl, ho, hn⟩ := h.ro R[ii] (List.getElem_mem hi)
  obtain ⟨A, c, e⟩ := own_shape ho
  rw [e] at ho
  obtain ⟨⟨b, rfl⟩, hc⟩ := own_some ho hm
  exact ⟨b, c, hc, by rw [List.getElem?_eq_getElem hi, e]⟩
theorem PS.rowc (h : PS w0 W w g bp rs t1 t2 t3 v1 v2 (.slice (some ⟨b3, 0, none⟩) R.length c3) F Z R m) (hr : R[ii]? = some (.slice (some ⟨br, 0, none⟩) m cr)) :
    w.cell? ⟨b3, ii, none⟩ = some (.slice (some ⟨br, 0, none⟩) m cr) ∧ w.frozen? ⟨b3, ii, none⟩ = false ∧ RowO w0 w v1 m (.slice (some ⟨br, 0, none⟩) m cr) := by
  obtain ⟨hi, he⟩ := List.getElem?_eq_some_iff.1 hr
  obtain ⟨_, h1, h2, _⟩ := own_set (u := .bool true) h.o3 hi
  exact ⟨h1.trans hr, h2, h.ro _ (List.mem_of_getElem? hr)⟩
theorem RowO.cell (h : RowO w0 w v1 m (.slice (some ⟨br, 0, none⟩) m cr)) (hj : j < m) : (∃ y, w.cell? ⟨br, j, none⟩ = some (.float .f32 y)) ∧ w.frozen? ⟨br, j, none⟩ = false := by
  obtain ⟨xs, hl, ho, hn⟩ := h
  exact wind_cell ho hj
end

theorem add_one (b j : Nat) : (⟨b, 1, none⟩ : Addr).add j = ⟨b, 1 + j, none⟩ := by unfold Addr.add; split <;> simp_all
theorem PF.drew {w0 W w : World} {g bp rs : Nat} {a b c : Value} (h : PF w0 W w g bp rs a b c) : PF w0 W w.drew g bp rs a b c :=
  ⟨h.cur.drewN 1, h.wb, grown_trans h.gr (grown_drewN _ 1 _), h.tri, h.res, h.rge, h.rne, h.dep.alike (fun _ _ _ => rfl)⟩
section
variable {w0 W w : World} {g bp rs : Nat} {t1 t2 t3 v1 v2 v3 : Value} {F : List Nat} {Z : List Int} {R : List Value} {m b3 c3 ii j br cr : Nat}
theorem PS.cut3 (h : PS w0 W w g bp rs v1 v2 (.slice (some ⟨b3, 0, none⟩) R.length c3) v1 v2 (.slice (some ⟨b3, 0, none⟩) R.length c3) F Z R m) (hr : R[ii]? = some (.slice (some ⟨br, 0, none⟩) m cr))
    (hF : F.length ≤ 100) (hZ : Z.length ≤ 100) (hR : R.length ≤ 100) (hm : m ≤ 100) : PF w0 W (w.setCell ⟨b3, ii, none⟩ (.slice (some ⟨br, 1, none⟩) (m - 1) (cr - 1))) g bp rs v1 v2 (.slice (some ⟨b3, 0, none⟩) R.length c3) := by
  obtain ⟨hi, he⟩ := List.getElem?_eq_some_iff.1 hr
  obtain ⟨ho3, _, _, _⟩ := own_set (u := .slice (some ⟨br, 1, none⟩) (m - 1) (cr - 1)) h.o3 hi
  have o1 := h.o1.kept (grown_set w b3 ii (.slice (some ⟨br, 1, none⟩) (m - 1) (cr - 1))) (own_ne h.o1 h.o3 (by decide))
  have o2 := h.o2.kept (grown_set w b3 ii (.slice (some ⟨br, 1, none⟩) (m - 1) (cr - 1))) (own_ne h.o2 h.o3 (by decide))
  exact {
    cur := h.cur.keptO (grown_set _ _ _ _) (cur_ne_own h.cur h.o3 (by decide)) (fun b' hb => Nat.le_trans h.wb (h.o3.lt b' hb).1)
    wb := h.wb
    gr := grown_up h.gr (grown_set _ _ _ _) (fun b' hb => (h.o3.lt b' hb).1)
    tri := h.tri.setO (fun e => tri_ne_own h.tri h.o3 (by decide) (by rw [e]; rfl))
    res := h.res.setO (fun e => tri_ne_own h.res h.o3 (by decide) (by rw [e]; rfl))
    rge := h.rge
    rne := h.rne
    dep := by
      obtain ⟨ss, s1, s2, s3⟩ := depg_of (cap := c3) (n := 100) (R := R.set ii (.slice (some ⟨br, 1, none⟩) (m - 1) (cr - 1))) (A := some ⟨b3, 0, none⟩) (N := fun b => b = g ∨ b = rs ∨ b < w0.heap.size) (w := w.setCell ⟨b3, ii, none⟩ (.slice (some ⟨br, 1, none⟩) (m - 1) (cr - 1))) (by simpa using hR)
        (fun a e => own_far (h.farI h.o3 (by decide) (by decide)) a R.length c3 (by rw [e])) (own_cells ho3) (fun r hm' => by
          rcases List.mem_or_eq_of_mem_set hm' with hm' | rfl
          · obtain ⟨xs, hl, ho, _⟩ := h.ro r hm'
            exact ⟨xs, by omega, own_rdf (ho.kept (grown_set _ _ _ _) (own_ne ho h.o3 (by decide))) (by omega), own_far (h.farI ho (by decide) (by decide))⟩
          · obtain ⟨xs, hl, ho, _⟩ := h.ro _ (List.mem_of_getElem? hr)
            have hk := ho.kept (grown_set w b3 ii (.slice (some ⟨br, 1, none⟩) (m - 1) (cr - 1))) (own_ne ho h.o3 (by decide))
            have hfar := h.farI ho (by decide) (by decide) br rfl
            refine ⟨xs.tail, by simp; omega, ⟨by simp; omega, some ⟨br, 1, none⟩, cr - 1, by simp [hl], fun j hj => ⟨_, rfl, ?_⟩⟩, fun a n c e => ?_⟩
            · simp at hj
              rw [add_one, hk.cellAt (1 + j) (by omega)]
              have e1 : 1 + j < xs.length := by omega
              simp [fcells, Nat.add_comm]
            · injection e with e1
              injection e1 with e1
              subst e1
              exact hfar)
      rw [List.length_set] at s3
      exact ⟨F, Z, ss, ⟨own_rdf o1 (by omega), own_far (h.farI h.o1 (by decide) (by decide))⟩, ⟨own_rdi o2 (by omega), own_far (h.farI h.o2 (by decide) (by decide))⟩, s3, hF, hZ, by simp at s1; omega, s2⟩ }
theorem PS.pf3 {v3' : Value} (h : PS w0 W w g bp rs v1 v2 t3 v1 v2 v3 F Z R m) (hF : F.length ≤ 100) (hZ : Z.length ≤ 100) (hd : ∃ ss, DepG (fun b => b = g ∨ b = rs ∨ b = bp ∨ b < w0.heap.size) w v3' ss ∧ ss.length ≤ 100 ∧ ∀ r ∈ ss, r.length ≤ 100) : PF w0 W (w.setCell ⟨bp, 2, none⟩ v3') g bp rs v1 v2 v3' := by
  have h2 := h.set2 v3'
  obtain ⟨ss, d1, d2, d3⟩ := hd
  have d4 := d1.alike (alike_cells (i := 2) (u := v3') (show (fun b => b = g ∨ b = rs ∨ b = bp ∨ b < w0.heap.size) bp from .inr (.inr (.inl rfl))))
  exact ⟨h2.cur, h2.wb, h2.gr, h2.tri, h2.res, h2.rge, h2.rne, F, Z, ss, (h2.parts hF hZ).1, (h2.parts hF hZ).2, d4.weak (fun b hb => by rcases hb with hb | hb | hb; exact .inl hb; exact .inr (.inl hb); exact .inr (.inr (.inr hb))), hF, hZ, d2, d3⟩
theorem PS.farP (h : PS w0 W w g bp rs t1 t2 t3 v1 v2 v3 F Z R m) {e : TypeId} {n : Nat} {v : Value} {xs : List Value} (ho : w.ownsRow w0.heap.size e 1 v n xs) (h1 : e ≠ 81) (h2 : e ≠ 29) : ∀ b, v.ownBlock = some b → ¬ (b = g ∨ b = rs ∨ b = bp ∨ b < w0.heap.size) := fun b hb hn => by
  rcases hn with rfl | rfl | rfl | hn
  · exact cur_ne_own h.cur ho h1 hb
  · exact tri_ne_own h.res ho h2 hb
  · exact tri_ne_own h.tri ho h2 hb
  · have := (ho.lt b hb).1; omega
theorem PS.tail4 (h : PS w0 W w g bp rs t1 t2 t3 v1 v2 (.slice (some ⟨b3, 0, none⟩) R.length c3) F Z R m) (hR : R.length ≤ 100) (hm : m ≤ 100) :
    ∃ ss, DepG (fun b => b = g ∨ b = rs ∨ b = bp ∨ b < w0.heap.size) w (.slice (some ⟨b3, 1, none⟩) (R.length - 1) (c3 - 1)) ss ∧ ss.length ≤ 100 ∧ ∀ r ∈ ss, r.length ≤ 100 := by
  have hfar := h.farP h.o3 (by decide) (by decide) b3 rfl
  obtain ⟨ss, s1, s2, s3⟩ := depg_of (cap := c3 - 1) (n := 100) (R := R.tail) (A := some ⟨b3, 1, none⟩) (N := fun b => b = g ∨ b = rs ∨ b = bp ∨ b < w0.heap.size) (w := w) (by simp; omega)
    (fun a e => by injection e with e; subst e; exact hfar) (fun j hj => ⟨_, rfl, by
      simp at hj
      rw [add_one, h.o3.cellAt (1 + j) (by omega)]
      have e1 : 1 + j < R.length := by omega
      simp [Nat.add_comm]⟩) (fun r hr => by
      obtain ⟨xs, hl, ho, _⟩ := h.ro r (List.mem_of_mem_tail hr)
      exact ⟨xs, by omega, own_rdf ho (by omega), own_far (h.farP ho (by decide) (by decide))⟩)
  rw [List.length_tail] at s3
  exact ⟨ss, s3, by simp at s1; omega, s2⟩
theorem PS.none4 (h : PS w0 W w g bp rs t1 t2 t3 v1 v2 (.slice (some ⟨b3, 0, none⟩) R.length c3) F Z R m) :
    ∃ ss, DepG (fun b => b = g ∨ b = rs ∨ b = bp ∨ b < w0.heap.size) w (.slice (some ⟨b3, 0, none⟩) 0 0) ss ∧ ss.length ≤ 100 ∧ ∀ r ∈ ss, r.length ≤ 100 := by
  have hfar := h.farP h.o3 (by decide) (by decide) b3 rfl
  exact ⟨[], ⟨by decide, some ⟨b3, 0, none⟩, 0, rfl, (fun a e => by injection e with e; subst e; exact hfar), fun j hj => absurd hj (Nat.not_lt_zero j)⟩, by decide, fun r hr => by cases hr⟩
theorem any_nil (hC : Cur W w g) (hW : W.heap.size ≤ w0.heap.size) (hg : w0.grownBy w (some g)) (hT : Tri w rs t1 t2 t3) (hge : w0.heap.size ≤ rs) : AnyMade w0 W (((w.setCell ⟨rs, 0, none⟩ (.slice none 0 0)).setCell ⟨rs, 1, none⟩ (.slice none 0 0)).setCell ⟨rs, 2, none⟩ (.slice none 0 0)) g (.returned (.agg #[.slice none 0 0, .slice none 0 0, .slice none 0 0])) := by
  have hcur : ∀ {w : World} {i : Nat} {u x y z : Value}, Cur W w g → w0.grownBy w (some g) → Tri w rs x y z → Cur W (w.setCell ⟨rs, i, none⟩ u) g ∧ w0.grownBy (w.setCell ⟨rs, i, none⟩ u) (some g) := fun hc hg ht =>
    ⟨hc.keptO (grown_set _ _ _ _) (fun e => tri_ne_cur ht hc (by cases e; rfl)) (fun b' hb => by cases hb; exact Nat.le_trans hW hge), grown_up hg (grown_set _ _ _ _) (fun b' hb => by cases hb; exact hge)⟩
  obtain ⟨c1, g1⟩ := hcur (i := 0) (u := .slice none 0 0) hC hg hT
  obtain ⟨c2, g2⟩ := hcur (i := 1) (u := .slice none 0 0) c1 g1 hT.set0
  obtain ⟨c3, g3⟩ := hcur (i := 2) (u := .slice none 0 0) c2 g2 hT.set0.set1
  exact ⟨_, _, _, rfl, ⟨[], [], [], ⟨⟨by decide, none, 0, rfl, (fun j hj => absurd hj (Nat.not_lt_zero j))⟩, (fun a n c e => by cases e)⟩, ⟨⟨by decide, none, 0, rfl, (fun j hj => absurd hj (Nat.not_lt_zero j))⟩, (fun a n c e => by cases e)⟩, ⟨by decide, none, 0, rfl, (fun a e => by cases e), (fun j hj => absurd hj (Nat.not_lt_zero j))⟩, by decide, by decide, by decide, fun r hr => by cases hr⟩, c3, g3⟩
end

theorem PS.app3' {w0 W w w' : World} {g bp rs : Nat} {t1 t2 t3 v1 v2 v3 : Value} {F : List Nat} {Z : List Int} {R : List Value} {m : Nat} {v3' x : Value} (h : PS w0 W w g bp rs t1 t2 t3 v1 v2 v3 F Z R m) (hx : x ∈ R) (k : w.grownBy w' v3.ownBlock) (ho : w'.ownsRow w0.heap.size 22 1 v3' (R.length + 1) (R ++ [x])) :
    PS w0 W w' g bp rs t1 t2 t3 v1 v2 v3' F Z (R ++ [x]) m := h.app3 (h.ro x hx) k ho
theorem below_e {W w : World} {g : Nat} (h : Cur W w g) : Calls Try.prog 49 #[.pointer (some ⟨g, 0, none⟩), .int .i64 2] w fun e w' => ∃ v, e = .returned v ∧ ((∃ r : Int, v = .int .i64 r ∧ 0 ≤ r ∧ r < 2) ∧ CG w W w' g) :=
  (below_g 2 (by omega) (CG.start h)).mono fun _ _ ⟨r, he, ⟨h0, h1⟩, hc⟩ => ⟨_, he, ⟨r, rfl, h0, h1 (by omega)⟩, hc⟩
theorem step_own_at {P : Program} {ops : Array Oper} {o : Oper} {a : Act} {w : World} {K : Act → World → Prop} {Q : Exit → Act → World → Prop} {E : Prop}
    (hg : o.guard = none) (s x : Operand) (t : TypeId) (hop : o.op = Op.call { callee := Callee.builtin Builtin.append, args := #[s, x], argTypes := #[t, t] })
    (base : Nat) (e : TypeId) (i : TypeInfo) (z : Value) (size bytes : Nat) (h1 : P.underlying t = some (.slice e)) (h2 : P.info? e = some i) (h3 : i.zero = some z) (h4 : i.size = size) (h5 : i.bytes = bytes) (h6 : z.cells.size = size) (h7 : 0 < size)
    (v : Value) (n : Nat) (xs : List Value) (hs : a.eval s = v) (hown : w.ownsRow base e size v n xs)
    (ad : Addr) (m c : Nat) (news : List Value) (hx : a.eval x = .slice (some ad) m c) (hn : news.length = m * size) (hc : ∀ j u, news[j]? = some u → w.cell? (ad.add j) = some u) (h1c : ∀ u ∈ news, u.oneCell' = true)
    (b1 : n + m ≤ maxLen) (b2 : (n + m) * bytes ≤ 140737488355328) (hb : base ≤ w.heap.size)
    (hK : ∀ v' w', w'.ownsRow base e size v' (n + m) (xs ++ news) → w.grownBy w' v.ownBlock → (v'.ownBlock = v.ownBlock ∨ v'.ownBlock = some w.heap.size) → K (a.put o.dst v') w') :
    if Region.wanted o (yielded ops a.tmps) = true then Oper.wp P o a w K Q else E := by
  have hw : Region.wanted o (yielded ops a.tmps) = true := by simp [Region.wanted, hg]
  rw [if_pos hw]
  obtain ⟨v', w', hr, r2, r3, _, r5⟩ := run_append_own_at (P := P) w base t o.type e i z size bytes h1 h2 h3 h4 h5 h6 h7 v n xs hown ad m c news hn hc h1c b1 b2 hb
  unfold Oper.wp
  simp [execOp, hop, resolve, invoke, builtin, hs, hx, hr, Result.andThen]
  exact hK v' w' r2 r3 r5
theorem farith_run (op : BinOp) (hop : isArith op = true) (t : TypeId) (k : FloatKind) (x y : Nat) :
    (∃ r, ∀ w, (binOp op t (.float k x) (.float k y)).run Try.prog w = .ok (.float k r) w) ∨ (∃ N : World → Nat, ∀ w, (binOp op t (.float k x) (.float k y)).run Try.prog w = .ok (.float k (N w)) w.drew) := by
  cases h : floatBits op k x y with
  | some r => exact .inl ⟨r, fun w => run_float_arith w op t k x y r h⟩
  | none =>
    refine .inr ⟨fun w => (Question.nanBits k x y).cut (w.tape w.drawn (.nanBits k x y)), fun w => ?_⟩
    unfold floatBits at h
    cases op <;> simp [isArith] at hop <;> simp only at h <;> simp [binOp, Op.floatArith, h, Question.forced]
theorem PS.drew {w0 W w : World} {g bp rs : Nat} {t1 t2 t3 v1 v2 v3 : Value} {F : List Nat} {Z : List Int} {R : List Value} {m : Nat} (h : PS w0 W w g bp rs t1 t2 t3 v1 v2 v3 F Z R m) : PS w0 W w.drew g bp rs t1 t2 t3 v1 v2 v3 F Z R m := h.drewN 1
/-- how long the slice in a cell is -/
def lenAt (w : World) (b : Nat) : Nat := match w.cell? ⟨b, 0, none⟩ with
  | some (.slice _ n _) => n
  | _ => 0
theorem lenAt_of {w : World} {b n c : Nat} {A : Option Addr} (h : w.cell? ⟨b, 0, none⟩ = some (.slice A n c)) : lenAt w b = n := by unfold lenAt; rw [h]

set_option maxHeartbeats 4000000 in
set_option maxRecDepth 100000 in
theorem any_g {W w : World} {g : Nat} (hC : Cur W w g) :
    Calls Try.prog 44 #[.pointer (some ⟨g, 0, none⟩)] w fun e w' => AnyMade w W w' g e := by
  have HC := hid hC
  clear hC
  obtain ⟨i0, hi0, hi1, hi2, hi3⟩ := info_parts info_f32
  obtain ⟨k0, hk0, hk1, hk2, hk3⟩ := info_parts info_int
  obtain ⟨r0, hr0, hr1, hr2, hr3⟩ := info_parts info_row
  have hsf := fun (a : Addr) (n : Nat) (w : World) => run_store Try.prog w a (.float .f32 n) .plain rfl
  go_enter Try.func44, Try.ntmps44
  go_wp2_with fail
  refine (polar_g (HC.out.alloc _)).mono ?_
  rintro e w2 ⟨v1, v2, v3, F, Z, R, rfl, hP, hF0, hF1, hRF, hZ0, hZ1⟩
  have HP := hid (any_start HC.out hP.out)
  have HRF := hid hRF
  have hR0 : 1 ≤ R.length := by omega
  have hR1 : R.length ≤ 4 := by omega
  obtain ⟨A1, c1, rfl⟩ := own_shape HP.out.o1
  obtain ⟨A2, c2, rfl⟩ := own_shape HP.out.o2
  obtain ⟨A3, c3, rfl⟩ := own_shape HP.out.o3
  clear hP hRF HC
  obtain ⟨⟨x1, x2, x3⟩, y1, y2, y3⟩ := HP.out.tri.facts
  go_wp2_with fail
  generalize w2.alloc (.cells #[.slice A1 F.length c1, .slice A2 Z.length c2, .slice A3 R.length c3] 29) = w3 at HP x1 x2 x3 y1 y2 y3 ⊢
  generalize w2.heap.size = bp at HP x1 x2 x3 y1 y2 y3 ⊢
  generalize w.heap.size = rs at HP ⊢
  refine (below_any W _ g _ (by omega) HP.out.cur).mono ?_
  rintro e w4 ⟨i, rfl, ⟨gi0, gi1⟩, hC4, hG4⟩
  have HP4 := hid (HP.out.grown hG4 hC4)
  replace gi1 := gi1 (by omega)
  clear hC4 hG4 HP x1 x2 x3 y1 y2 y3
  obtain ⟨⟨x1, x2, x3⟩, y1, y2, y3⟩ := HP4.out.tri.facts
  go_wp2_with fail
  refine (below_any W _ g _ (by omega) HP4.out.cur).mono ?_
  rintro e w5 ⟨k, rfl, ⟨gk0, gk1⟩, hC5, hG5⟩
  have HP5 := hid (HP4.out.grown hG5 hC5)
  replace gk1 := gk1 (by omega)
  clear hC5 hG5 HP4 x1 x2 x3 y1 y2 y3
  obtain ⟨⟨x1, x2, x3⟩, y1, y2, y3⟩ := HP5.out.tri.facts
  go_wp2_with fail
  refine (below_any W _ g _ (by omega) HP5.out.cur).mono ?_
  rintro e w6 ⟨t, rfl, ⟨ht0, ht1⟩, hC6, hG6⟩
  have HP6 := hid (HP5.out.grown hG6 hC6)
  replace ht1 := ht1 (by omega)
  clear hC6 hG6 HP5 x1 x2 x3 y1 y2 y3
  go_upto_block 0 with fail
  go_cut [] (fun wx => ∃ a b c, Hid (PF w W wx g bp rs a b c))
  case first =>
    have hsw : t = 0 ∨ t = 1 ∨ t = 2 ∨ t = 3 ∨ t = 4 ∨ t = 5 ∨ t = 6 ∨ t = 7 ∨ t = 8 ∨ 8 < t := by omega
    obtain ⟨⟨b1, rfl⟩, gc1⟩ := own_some HP6.out.o1 (by omega)
    obtain ⟨⟨b2, rfl⟩, gc2⟩ := own_some HP6.out.o2 (by omega)
    obtain ⟨⟨b3, rfl⟩, gc3⟩ := own_some HP6.out.o3 (by omega)
    have hent1 : ∀ args w, (callFunc 50 args).run Try.prog w = .ok (.enter 50 args) w := enters_of Try.func50 (by kernel_rfl) rfl
    have hent2 : ∀ args w, (callFunc 68 args).run Try.prog w = .ok (.enter 68 args) w := enters_of Try.func68 (by kernel_rfl) rfl
    obtain ⟨⟨x1, x2, x3⟩, y1, y2, y3⟩ := HP6.out.tri.facts
    obtain ⟨ii, rfl⟩ : ∃ ii : Nat, i = ii := ⟨i.toNat, by omega⟩
    obtain ⟨kk, rfl⟩ : ∃ kk : Nat, k = kk := ⟨k.toNat, by omega⟩
    have gi2 : ii < F.length := by omega
    have gk2 : kk < Z.length := by omega
    have gi3 : ii < R.length := by have := HRF.out; omega
    obtain ⟨br, cr, gcr, hrv⟩ := HP6.out.rowv gi3 (by omega)
    have HRV := hid hrv
    obtain ⟨s1, s2, s3⟩ := HP6.out.rowc HRV.out
    have HR6 := hid s3
    clear s3 hrv
    rcases hsw with rfl | rfl | rfl | rfl | rfl | rfl | rfl | rfl | rfl | hsw
    · go_wp2_with fail
      go_region_law (refine step_callE2 rfl 50 (.tmp 26) (.const (.int .i64 120)) 63 3 rfl hent1 _ _ rfl rfl _ (single_e 120 (by omega) (HP6.out.cur.drewN 1)) ?_; intro v7 w7 hv7; obtain ⟨⟨r7, hv7⟩, hc7⟩ := hv7; subst hv7; have HP7 := hid ((HP6.out.drewN 1).cg hc7); obtain ⟨⟨z1, z2, z3⟩, u1, u2, u3⟩ := HP7.out.tri.facts; obtain ⟨⟨d1, d2⟩, d3⟩ := wind_cell HP7.out.o1 gi2)
      all_goals
        have HE := hid ((HP7.out.wind (x := r7) gi2).pf (by simp; omega) (by omega) (by omega) (by omega))
        go_wp2
        go_meet
        exact ⟨_, _, _, HE.out⟩
    · go_wp2_with fail
      go_region_law (refine step_callE rfl 68 (.tmp 34) 63 rfl hent2 _ rfl _ (number_e (HP6.out.cur.drewN 1)) ?_; intro v7 w7 hv7; obtain ⟨⟨r7, hv7⟩, hc7⟩ := hv7; subst hv7; have HP7 := hid ((HP6.out.drewN 1).cg hc7); obtain ⟨⟨z1, z2, z3⟩, u1, u2, u3⟩ := HP7.out.tri.facts; obtain ⟨⟨d1, d2⟩, d3⟩ := angle_cell HP7.out.o2 gk2)
      all_goals
        have HE := hid ((HP7.out.angle (x := r7) gk2).pf (by omega) (by simp; omega) (by omega) (by omega))
        go_wp2
        go_meet
        exact ⟨_, _, _, HE.out⟩
    · go_wp2_with fail
      go_region_law (refine step_callE2 rfl 50 (.tmp 45) (.const (.int .i64 60)) 63 3 rfl hent1 _ _ rfl rfl _ (single_e 60 (by omega) (HP6.out.cur.drewN 1)) ?_; intro v7 w7 hv7; obtain ⟨⟨r7, hv7⟩, hc7⟩ := hv7; subst hv7; have HP7 := hid ((HP6.out.drewN 1).cg hc7); obtain ⟨⟨z1, z2, z3⟩, u1, u2, u3⟩ := HP7.out.tri.facts; obtain ⟨s1, s2, s3⟩ := HP7.out.rowc HRV.out; have HR7 := hid s3; clear s3; obtain ⟨⟨d1, d2⟩, d3⟩ := HR7.out.cell gk2)
      all_goals
        have HE := hid ((HP7.out.speed (x := r7) HR7.out gk2).pf (by omega) (by omega) (by omega) (by omega))
        go_wp2
        go_meet
        exact ⟨_, _, _, HE.out⟩
    · have HE := hid ((HP6.out.cut3 HRV.out (by omega) (by omega) (by omega) (by omega)).drew)
      go_wp2_with fail
      go_region
      all_goals
        go_wp2
        go_meet
        exact ⟨_, _, _, HE.out⟩
    · by_cases g1 : c3 = 1
      · obtain rfl := g1
        have HE := hid (HP6.out.pf3 (by omega) (by omega) HP6.out.none4)
        obtain ⟨hRe, hRn⟩ : R.length = 1 ∧ True := ⟨by omega, trivial⟩
        go_wp2
        go_meet
        exact ⟨_, _, _, HE.out⟩
      · have HE := hid (HP6.out.pf3 (by omega) (by omega) (HP6.out.tail4 (by omega) (by omega)))
        go_wp2
        go_meet
        exact ⟨_, _, _, HE.out⟩
    · obtain ⟨⟨p1, p2, p3⟩, q1, q2, q3⟩ := HP6.out.res.facts
      go_wp2
      obtain ⟨⟨e1, e2, e3⟩, _⟩ := (((HP6.out.res.set0 (x' := .slice none 0 0)).set1 (y' := .slice none 0 0)).set2 (z' := .slice none 0 0)).facts
      (try simp only [Exit.inBlock, Exit.then])
      refine bodyPost_ret_by (v := .agg #[.slice none 0 0, .slice none 0 0, .slice none 0 0]) ?_ rfl ?_
      · simp [go_sem, results, loadVar, e1, e2, e3]
        done
      exact any_nil HP6.out.cur HP6.out.wb HP6.out.gr HP6.out.res HP6.out.rge
    · clear s1 s2 x1 x2 x3 y1 y2 y3 HR6 HRV
      have hent3 : ∀ args w, (callFunc 49 args).run Try.prog w = .ok (.enter 49 args) w := enters_of Try.func49 (by kernel_rfl) rfl
      go_wp2_with fail
      go_loopw [] (fun wr => ∃ (F' : List Nat) (R' : List Value) (A1 A3 : Option Addr) (c1 c3 : Nat), 1 ≤ F'.length ∧ F'.length ≤ 13 ∧ Hid (R'.length = F'.length) ∧ Hid (PS w W wr g bp rs (.slice A1 F'.length c1) (.slice (some ⟨b2, 0, none⟩) Z.length c2) (.slice A3 R'.length c3) (.slice A1 F'.length c1) (.slice (some ⟨b2, 0, none⟩) Z.length c2) (.slice A3 R'.length c3) F' Z R' Z.length)) (fun wr => 14 - lenAt wr bp)
      case atStart => exact ⟨F, R, _, _, _, _, hF0, by omega, HRF.out, HP6.out⟩
      case round =>
        obtain ⟨F', R', A1, A3, d1, d3, l0, l1, HL, HP⟩ := hrel
        clear HP6
        obtain ⟨⟨x1, x2, x3⟩, y1, y2, y3⟩ := HP.out.tri.facts
        have HM := hid (lenAt_of x1)
        go_upto_region 18 with fail
        go_cut [77] (fun tv wx => ∃ bb : Bool, tv = .bool bb ∧ (bb = true → F'.length < 13) ∧ Hid (PS w W wx g bp rs (.slice A1 F'.length d1) (.slice (some ⟨b2, 0, none⟩) Z.length c2) (.slice A3 R'.length d3) (.slice A1 F'.length d1) (.slice (some ⟨b2, 0, none⟩) Z.length c2) (.slice A3 R'.length d3) F' Z R' Z.length))
        case first =>
          go_region_law (refine step_callE2 rfl 49 (.tmp 74) (.const (.int .i64 2)) 63 3 rfl hent3 _ _ rfl rfl _ (below_e (HP.out.cur.drewN 1)) ?_; intro v7 w7 hv7; obtain ⟨⟨r7, hv7, h70, h71⟩, hc7⟩ := hv7; subst hv7; have HP7 := hid (HP.out.drew.cg hc7); obtain ⟨⟨z1, z2, z3⟩, u1, u2, u3⟩ := HP7.out.tri.facts)
          all_goals
            have hw8 : IntKind.i64.wrap (12 + r7) = 12 + r7 := by rw [IntKind.wrap_i64]; omega
            go_wp2
            go_meet
            refine ⟨_, rfl, ?_, HP7.out⟩
            intro h
            simp [hw8] at h
            omega
        case rest =>
          obtain ⟨bb, rfl, hbb, HPx⟩ := hcut
          clear HP x1 x2 x3 y1 y2 y3
          cases bb
          · have HE := hid (HPx.out.pf (by omega) (by omega) (by have := HL.out; omega) (by omega))
            clear hbb
            go_wp2
            go_meet
            exact ⟨_, _, _, HE.out⟩
          · have l2 := hbb rfl
            clear hbb
            obtain ⟨⟨b1, rfl⟩, gd1⟩ := own_some HPx.out.o1 (by omega)
            obtain ⟨⟨b3, rfl⟩, gd3⟩ := own_some HPx.out.o3 (by have := HL.out; omega)
            obtain ⟨⟨x1, x2, x3⟩, y1, y2, y3⟩ := HPx.out.tri.facts
            obtain ⟨p, hp⟩ : ∃ p, (F'.length : Int) - 1 = p := ⟨_, rfl⟩
            have p0 : 0 ≤ p := by omega
            have p1 : p < (F'.length : Int) := by omega
            have hw1 : IntKind.i64.wrap p = p := by rw [IntKind.wrap_i64]; omega
            have hw2 : wrap64 p = p := by unfold wrap64; omega
            obtain ⟨⟨y, d5⟩, d6⟩ := wind_cell HPx.out.o1 (show p.toNat < F'.length by omega)
            clear d6
            have hB := len_bound (n := F'.length) (by omega)
            obtain ⟨e1, e2, e3, e4⟩ := hB
            have ea := fun o => (((Below.refl wc.heap.size wc).alloc (Nat.le_refl _) o).cell (World.block_lt_of_cell? wc _ x1)).trans x1
            go_upto_region 19 with fail
            go_cut [] (fun wx => ∃ (A4 : Option Addr) (d4 x : Nat), Hid (PS w W wx g bp rs (.slice A4 (F'.length + 1) d4) (.slice (some ⟨b2, 0, none⟩) Z.length c2) (.slice (some ⟨b3, 0, none⟩) R'.length d3) (.slice A4 (F'.length + 1) d4) (.slice (some ⟨b2, 0, none⟩) Z.length c2) (.slice (some ⟨b3, 0, none⟩) R'.length d3) (F' ++ [x]) Z R' Z.length))
            case first =>
              rcases farith_run .add rfl 36 .f32 y 1065353216 with ⟨q, hq⟩ | ⟨q, hq⟩
              all_goals
                go_region_law (refine step_own_at rfl (.tmp 79) (.tmp 89) 22 rfl w.heap.size 36 i0 (.float .f32 0) 1 4 Try.underlying22 hi0 hi1 hi2 hi3 rfl (by decide) _ _ _ rfl (PS.o1 (by repeat (first | exact HPx.out | apply PS.drew | apply PS.alloc))) ⟨_, 0, none⟩ 1 1 [.float .f32 _] rfl rfl (cell_one_new _ _ _) (one_cell_f _) e1 e2 (PS.size (by repeat (first | exact HPx.out | apply PS.drew | apply PS.alloc)) _) ?_; intro v7 w7 hown7 hgr7 hat7; have HA := hid (PS.app1 (by repeat (first | exact HPx.out | apply PS.drew | apply PS.alloc)) hgr7 hown7 hat7); obtain ⟨A7, c7, rfl⟩ := own_shape hown7; obtain ⟨⟨z1, z2, z3⟩, u1, u2, u3⟩ := HA.out.tri.facts)
                all_goals
                  have HS := hid (HA.out.set0 (.slice A7 (F'.length + 1) c7))
                  clear hown7 hgr7 hat7 hq d5 x1 x2 x3 y1 y2 y3 z1 z2 z3 u1 u2 u3 hp hw1 hw2
                  go_wp2
                  go_meet
                  exact ⟨_, _, _, HS.out⟩
            case rest =>
              clear x1 x2 x3 y1 y2 y3 p0 p1 hw1 hw2 hp d5 ea HPx e1 e2 e3 e4
              obtain ⟨A4, d4, x, HP⟩ := hcut
              obtain ⟨br0, cr0, gcr0, hrv0⟩ := HP.out.rowv (ii := 0) (by have := HL.out; omega) (by omega)
              have HRV0 := hid hrv0
              clear hrv0
              obtain ⟨s1, s2, s3⟩ := HP.out.rowc HRV0.out
              clear s2 s3
              obtain ⟨⟨x1, x2, x3⟩, y1, y2, y3⟩ := HP.out.tri.facts
              have ea := fun o => (((Below.refl wc.heap.size wc).alloc (Nat.le_refl _) o).cell (World.block_lt_of_cell? wc _ x3)).trans x3
              have hB := len_bound (n := R'.length) (by have := HL.out; omega)
              obtain ⟨e1, e2, e3, e4⟩ := hB
              have hR0 : 0 < R'.length := by have := HL.out; omega
              go_wp2_with fail
              go_region_law (refine step_own_at rfl (.tmp 93) (.tmp 98) 24 rfl w.heap.size 22 r0 (.slice none 0 0) 1 24 Try.underlying24 hr0 hr1 hr2 hr3 rfl (by decide) _ _ _ rfl (PS.o3 (by repeat (first | exact HP.out | apply PS.drew | apply PS.alloc))) ⟨_, 0, none⟩ 1 1 [.slice (some ⟨br0, 0, none⟩) Z.length cr0] rfl rfl (cell_one_new _ _ _) (one_cell_s _ _ _) e1 e4 (PS.size (by repeat (first | exact HP.out | apply PS.drew | apply PS.alloc)) _) ?_; intro v7 w7 hown7 hgr7 hat7; have HA := hid (PS.app3' (by repeat (first | exact HP.out | apply PS.drew | apply PS.alloc)) (List.mem_of_getElem? HRV0.out) hgr7 hown7); obtain ⟨A7, c7, rfl⟩ := own_shape hown7; obtain ⟨⟨z1, z2, z3⟩, u1, u2, u3⟩ := HA.out.tri.facts)
              all_goals
                have HS := hid (HA.out.set2 (.slice A7 (R'.length + 1) c7))
                clear hown7 hgr7 hat7 s1 x1 x2 x3 y1 y2 y3 z1 z2 z3 u1 u2 u3 ea
                go_wp2
                go_roundw
                case rel => exact ⟨F' ++ [x], R' ++ [.slice (some ⟨br0, 0, none⟩) Z.length cr0], _, _, _, _, by simp, by simp; omega, hid (by simp [HL.out]), hid (by simpa using HS.out)⟩
                case measure =>
                  rw [HM.out, lenAt_of HS.out.tri.facts.1.1]
                  omega
    · obtain ⟨⟨d1, d2⟩, d3⟩ := HR6.out.cell gk2
      have HE := hid ((HP6.out.speed (x := 1112014848) HR6.out gk2).pf (by omega) (by omega) (by omega) (by omega))
      go_wp2
      go_meet
      exact ⟨_, _, _, HE.out⟩
    · go_wp2_with fail
      go_loopw [118] (fun jv wr => ∃ j : Nat, jv = .int .i64 j ∧ j ≤ Z.length ∧ Hid (PS w W wr g bp rs (.slice (some ⟨b1, 0, none⟩) F.length c1) (.slice (some ⟨b2, 0, none⟩) Z.length c2) (.slice (some ⟨b3, 0, none⟩) R.length c3) (.slice (some ⟨b1, 0, none⟩) F.length c1) (.slice (some ⟨b2, 0, none⟩) Z.length c2) (.slice (some ⟨b3, 0, none⟩) R.length c3) F Z R Z.length)) (fun jv _ => 100 - (intOf jv).toNat)
      case atStart => exact ⟨0, rfl, by omega, HP6.out⟩
      case round =>
        obtain ⟨j, rfl, hj, HP⟩ := hrel
        clear HP6 s1 s2 x1 x2 x3 y1 y2 y3 HR6
        obtain ⟨⟨x1, x2, x3⟩, y1, y2, y3⟩ := HP.out.tri.facts
        obtain ⟨s1, s2, s3⟩ := HP.out.rowc HRV.out
        have HR6 := hid s3
        clear s3 s2
        by_cases hlt : j < Z.length
        · obtain ⟨⟨d1, d2⟩, d3⟩ := HR6.out.cell hlt
          have HS := hid (HP.out.speed (x := 0) HR6.out hlt)
          go_wp2
          go_roundw
          case rel => exact ⟨j + 1, by go_num, by omega, HS.out⟩
          case measure => (simp [intOf]; try omega)
        · obtain rfl : j = Z.length := by omega
          have HE := hid (HP.out.pf (by omega) (by omega) (by omega) (by omega))
          go_wp2
          go_meet
          exact ⟨_, _, _, HE.out⟩
    · have HE := hid (HP6.out.pf (by omega) (by omega) (by omega) (by omega))
      have n0 : (t == 0) = false := beq_eq_false_iff_ne.2 (by omega)
      have n1 : (t == 1) = false := beq_eq_false_iff_ne.2 (by omega)
      have n2 : (t == 2) = false := beq_eq_false_iff_ne.2 (by omega)
      have n3 : (t == 3) = false := beq_eq_false_iff_ne.2 (by omega)
      have n4 : (t == 4) = false := beq_eq_false_iff_ne.2 (by omega)
      have n5 : (t == 5) = false := beq_eq_false_iff_ne.2 (by omega)
      have n6 : (t == 6) = false := beq_eq_false_iff_ne.2 (by omega)
      have n7 : (t == 7) = false := beq_eq_false_iff_ne.2 (by omega)
      have n8 : (t == 8) = false := beq_eq_false_iff_ne.2 (by omega)
      go_wp2
      go_meet
      exact ⟨_, _, _, HE.out⟩
  case rest =>
    obtain ⟨a, b, c, HF⟩ := hcut
    obtain ⟨⟨D1, n1, m1, rfl⟩, ⟨D2, n2, m2, rfl⟩, D3, n3, m3, rfl⟩ := HF.out.dep.shape
    obtain ⟨⟨x1, x2, x3⟩, y1, y2, y3⟩ := HF.out.tri.facts
    obtain ⟨⟨p1, p2, p3⟩, q1, q2, q3⟩ := HF.out.res.facts
    go_wp2
    obtain ⟨⟨e1, e2, e3⟩, _⟩ := (((HF.out.res.set0 (x' := .slice D1 n1 m1)).set1 (y' := .slice D2 n2 m2)).set2 (z' := .slice D3 n3 m3)).facts
    (try simp only [Exit.inBlock, Exit.then])
    refine bodyPost_ret_by (v := .agg #[.slice D1 n1 m1, .slice D2 n2 m2, .slice D3 n3 m3]) ?_ rfl ?_
    · simp [go_sem, results, loadVar, e1, e2, e3]
      done
    exact HF.out.made
end Go.Proofs.Ytgjfpclpnobggaa
