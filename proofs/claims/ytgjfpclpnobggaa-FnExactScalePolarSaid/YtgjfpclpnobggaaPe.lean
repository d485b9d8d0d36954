/- Polars: the whole copy; comparisons of like with like. -/
import Derived.Test.YtgjfpclpnobggaaPc
import Derived.Shelf.Abstract
import Derived.Maps.AppendAt
import Derived.Deep.RegionLaw
import Derived.Deep.RegionLawGrows
namespace Go.Proofs.Ytgjfpclpnobggaa
open Go.Shelf Go.RowKit

theorem below3 (w : World) (o1 o2 o3 : Obj) : Below w.heap.size w (((w.alloc o1).alloc o2).alloc o3) :=
  (((Below.refl _ w).alloc (Nat.le_refl _) o1).alloc (by simp) o2).alloc (by simp; omega) o3
theorem blk2 (w : World) (o1 o2 o3 : Obj) : (((w.alloc o1).alloc o2).alloc o3).heap[w.heap.size + 1]? = some o2 := by
  have h := heap_alloc_new (w.alloc o1) o2
  rw [show (w.alloc o1).heap.size = w.heap.size + 1 by simp] at h
  exact (Below.heap_alloc _ _ _ (lt_of_block h)).trans h
theorem blk3 (w : World) (o1 o2 o3 : Obj) : (((w.alloc o1).alloc o2).alloc o3).heap[w.heap.size + 1 + 1]? = some o3 := by
  have h := heap_alloc_new ((w.alloc o1).alloc o2) o3
  rw [show ((w.alloc o1).alloc o2).heap.size = w.heap.size + 1 + 1 by simp] at h
  exact h

theorem blk1 (w : World) (o1 o2 o3 : Obj) : (((w.alloc o1).alloc o2).alloc o3).heap[w.heap.size]? = some o1 := by
  have h := heap_alloc_new w o1
  have h2 := (Below.heap_alloc _ o2 _ (lt_of_block h)).trans h
  exact (Below.heap_alloc _ o3 _ (lt_of_block h2)).trans h2
def Arg3 (w : World) (g : Nat) (x y z : Value) : Prop := w.heap[g]? = some (.cells #[x, y, z] 26 (0, 0))
theorem Arg3.facts {w : World} {g : Nat} {x y z : Value} (h : Arg3 w g x y z) : w.cell? ⟨g, 0, none⟩ = some x ∧ w.cell? ⟨g, 1, none⟩ = some y ∧ w.cell? ⟨g, 2, none⟩ = some z :=
  ⟨block_cell h 0, block_cell h 1, block_cell h 2⟩
theorem Arg3.keep {w w' : World} {g : Nat} {x y z : Value} (h : Arg3 w g x y z) (hB : Below w.heap.size w w') : Arg3 w' g x y z := (hB.block _ (lt_of_block h)).trans h
/-- three cells of a struct in a block -/
def Tri (w : World) (g : Nat) (x y z : Value) : Prop := w.heap[g]? = some (.cells #[x, y, z] 29 (0, 0))
theorem Tri.facts {w : World} {g : Nat} {x y z : Value} (h : Tri w g x y z) : (w.cell? ⟨g, 0, none⟩ = some x ∧ w.cell? ⟨g, 1, none⟩ = some y ∧ w.cell? ⟨g, 2, none⟩ = some z) ∧ (w.frozen? ⟨g, 0, none⟩ = false ∧ w.frozen? ⟨g, 1, none⟩ = false ∧ w.frozen? ⟨g, 2, none⟩ = false) :=
  ⟨⟨block_cell h 0, block_cell h 1, block_cell h 2⟩, block_free h 0, block_free h 1, block_free h 2⟩
theorem Tri.keep {w w' : World} {g : Nat} {x y z : Value} (h : Tri w g x y z) (hB : Below w.heap.size w w') : Tri w' g x y z := (hB.block _ (lt_of_block h)).trans h

theorem tri_slices {A B C : Option Addr} {a b c a' b' c' : Nat} : ∀ (j : Nat) (x : Value), (#[.slice A a a', .slice B b b', .slice C c c'] : Array Value)[j]? = some x → ∃ A m c, x = .slice A m c := by
  intro j x hx
  match j with
  | 0 => simp at hx; exact ⟨_, _, _, hx.symm⟩
  | 1 => simp at hx; exact ⟨_, _, _, hx.symm⟩
  | 2 => simp at hx; exact ⟨_, _, _, hx.symm⟩
  | j + 3 => simp at hx
theorem Tri.set0 {w : World} {g : Nat} {x y z x' : Value} (h : Tri w g x y z) : Tri (w.setCell ⟨g, 0, none⟩ x') g x' y z := block_set h 0 x'
theorem Tri.set1 {w : World} {g : Nat} {x y z y' : Value} (h : Tri w g x y z) : Tri (w.setCell ⟨g, 1, none⟩ y') g x y' z := block_set h 1 y'
theorem Tri.set2 {w : World} {g : Nat} {x y z z' : Value} (h : Tri w g x y z) : Tri (w.setCell ⟨g, 2, none⟩ z') g x y z' := block_set h 2 z'
theorem Tri.setO {w : World} {g k i : Nat} {x y z u : Value} (h : Tri w k x y z) (hne : k ≠ g) : Tri (w.setCell ⟨g, i, none⟩ u) k x y z := (Below.heap_setCell _ _ _ _ hne).trans h
theorem Arg3.set {w : World} {g k i : Nat} {x y z u : Value} (h : Arg3 w k x y z) (hne : k ≠ g) : Arg3 (w.setCell ⟨g, i, none⟩ u) k x y z := (Below.heap_setCell _ _ _ _ hne).trans h

set_option maxHeartbeats 1000000 in
set_option maxRecDepth 100000 in
theorem toP {w : World} {v : Value} {ws : List Nat} {an : List Int} {ss : List (List Nat)} (hS : Small ws an ss) (h : RdP w v ws an ss) :
    Calls Try.prog 12 #[v] w fun e w' => ∃ v', e = .returned v' ∧ RdP w' v' ws an ss ∧ Below w.heap.size w w' := by
  obtain ⟨a, b, c, rfl, h1, h2, h3⟩ := h
  obtain ⟨s1, s2, s3, s4⟩ := hS
  have HN := hid s4
  have H1 := hid h1
  have H2 := hid h2
  have H3 := hid h3
  clear h1 h2 h3 s4
  go_enter Try.func12, Try.ntmps12
  go_wp2_with fail
  have hb0 := below3 w (.cells #[a, b, c] 26) (.cells #[.slice none 0 0, .slice none 0 0, .slice none 0 0] 29) (.cells #[.slice none 0 0, .slice none 0 0, .slice none 0 0] 29)
  have hy : Tri _ _ _ _ _ := blk3 w (.cells #[a, b, c] 26) (.cells #[.slice none 0 0, .slice none 0 0, .slice none 0 0] 29) (.cells #[.slice none 0 0, .slice none 0 0, .slice none 0 0] 29)
  have hx : Tri _ _ _ _ _ := blk2 w (.cells #[a, b, c] 26) (.cells #[.slice none 0 0, .slice none 0 0, .slice none 0 0] 29) (.cells #[.slice none 0 0, .slice none 0 0, .slice none 0 0] 29)
  have hz : Arg3 _ _ _ _ _ := blk1 w (.cells #[a, b, c] 26) (.cells #[.slice none 0 0, .slice none 0 0, .slice none 0 0] 29) (.cells #[.slice none 0 0, .slice none 0 0, .slice none 0 0] 29)
  refine (toF s1 (H1.out.below hb0)).mono ?_
  rintro e w1 ⟨v1, rfl, hr1, hb1⟩
  have hr1' := hr1
  obtain ⟨_, A1, c1, rfl, _⟩ := hr1'
  have hy1 := hid (hy.keep hb1)
  have hz1 := hid (hz.keep hb1)
  have hx1 := hid (hx.keep hb1)
  have HB1 := hid (hb0.trans (hb1.mono hb0.size))
  have HR1 := hid hr1
  obtain ⟨⟨p1, p2, p3⟩, q1, q2, q3⟩ := hy1.out.facts
  obtain ⟨o1, o2, o3⟩ := hz1.out.facts
  have hg1 := lt_of_block hy1.out
  have hne1 : w.heap.size ≠ w.heap.size + 1 + 1 := by omega
  have hge1 : w.heap.size ≤ w.heap.size + 1 + 1 := by omega
  have hnh : w.heap.size + 1 ≠ w.heap.size + 1 + 1 := by omega
  have hgeh : w.heap.size ≤ w.heap.size + 1 := by omega
  clear hb1 hy hz hx hb0 hr1
  generalize w.heap.size + 1 + 1 = g at hy1 hg1 hne1 hge1 hnh p1 p2 p3 q1 q2 q3 ⊢
  generalize w.heap.size + 1 = h at hx1 hnh hgeh ⊢
  go_wp2_with fail
  have hy := hy1.out.set0 (x' := .slice A1 ws.length c1)
  have hx := hx1.out.setO (i := 0) (u := .slice A1 ws.length c1) hnh
  have hz := hz1.out.set (i := 0) (u := .slice A1 ws.length c1) hne1
  have hb0 : Below w.heap.size w _ := HB1.out.setCell (p := ⟨g, 0, none⟩) hge1 (.slice A1 ws.length c1)
  have hr1 := HR1.out.store (i := 0) (u := .slice A1 ws.length c1) hy1.out tri_slices
  refine (toI s2 (H2.out.below hb0)).mono ?_
  rintro e w2 ⟨v2, rfl, hr2, hb2⟩
  have hr2' := hr2
  obtain ⟨_, A2, c2, rfl, _⟩ := hr2'
  have hy2 := hid (hy.keep hb2)
  have hz2 := hid (hz.keep hb2)
  have hx2 := hid (hx.keep hb2)
  have HB2 := hid (hb0.trans (hb2.mono hb0.size))
  have HR12 := hid (hr1.below hb2)
  have HR2 := hid hr2
  clear p1 p2 p3 q1 q2 q3 o1 o2 o3
  obtain ⟨⟨p1, p2, p3⟩, q1, q2, q3⟩ := hy2.out.facts
  obtain ⟨o1, o2, o3⟩ := hz2.out.facts
  clear hy hz hx hb0 hr1 hb2 hr2
  go_wp2_with fail
  have hy := hy2.out.set1 (y' := .slice A2 an.length c2)
  have hx := hx2.out.setO (i := 1) (u := .slice A2 an.length c2) hnh
  have hz := hz2.out.set (i := 1) (u := .slice A2 an.length c2) hne1
  have hb0 : Below w.heap.size w _ := HB2.out.setCell (p := ⟨g, 1, none⟩) hge1 (.slice A2 an.length c2)
  have hr1 := HR12.out.store (i := 1) (u := .slice A2 an.length c2) hy2.out tri_slices
  have hr2 := HR2.out.store (i := 1) (u := .slice A2 an.length c2) hy2.out tri_slices
  refine (toG s3 HN.out (H3.out.below hb0)).mono ?_
  rintro e w3 ⟨v3, rfl, hr3, ⟨g3, c3, rfl, hg3⟩, hb3⟩
  have hgl := lt_of_block hy
  have hhl := lt_of_block hx
  have hx3 := hid (hx.keep hb3)
  have hy3 := hid (hy.keep hb3)
  have HB3 := hid (hb0.trans (hb3.mono hb0.size))
  have HR13 := hid (hr1.below hb3)
  have HR23 := hid (hr2.below hb3)
  have HR3 := hid hr3
  have hne3 : g ≠ g3 := by omega
  have hne4 : h ≠ g3 := by omega
  clear p1 p2 p3 q1 q2 q3 o1 o2 o3
  obtain ⟨⟨p1, p2, p3⟩, q1, q2, q3⟩ := hy3.out.facts
  obtain ⟨⟨s1, s2, s3⟩, t1, t2, t3⟩ := hx3.out.facts
  clear hy hz hx hb0 hr1 hr2 hb3 hr3
  go_wp2
  have ta := hx3.out.setO (i := 2) (u := .slice (some ⟨g3, 0, none⟩) ss.length c3) hnh
  have tb := ta.set0 (x' := .slice A1 ws.length c1)
  have tc := tb.set1 (y' := .slice A2 an.length c2)
  have td := tc.set2 (z' := .slice (some ⟨g3, 0, none⟩) ss.length c3)
  obtain ⟨⟨e1, e2, e3⟩, _⟩ := td.facts
  (try simp only [Exit.inBlock, Exit.then])
  refine bodyPost_ret_by (v := .agg #[.slice A1 ws.length c1, .slice A2 an.length c2, .slice (some ⟨g3, 0, none⟩) ss.length c3]) ?_ rfl ?_
  · simp [go_sem, results, loadVar, e1, e2, e3]
    done
  refine ⟨_, rfl, ⟨_, _, _, rfl, (((HR13.out.store hy3.out tri_slices).store ta tri_slices).store tb tri_slices).store tc tri_slices, (((HR23.out.store hy3.out tri_slices).store ta tri_slices).store tb tri_slices).store tc tri_slices, (((HR3.out.store hne3 hy3.out tri_slices).store hne4 ta tri_slices).store hne4 tb tri_slices).store hne4 tc tri_slices⟩, ?_⟩
  exact (((HB3.out.setCell (p := ⟨g, 2, none⟩) hge1 _).setCell (p := ⟨h, 0, none⟩) hgeh _).setCell (p := ⟨h, 1, none⟩) hgeh _).setCell (p := ⟨h, 2, none⟩) hgeh _

theorem step_call2 {P : Program} {ops : Array Oper} {o : Oper} {a : Act} {w : World} {K : Act → World → Prop} {Q : Exit → Act → World → Prop} {E : Prop}
    (hg : o.guard = none) (f : Nat) (x y : Operand) (t : TypeId) (hop : o.op = Op.call { callee := Callee.value (Operand.func f), args := #[x, y], argTypes := #[t, t] })
    (hent : ∀ args w, (callFunc f args).run P w = .ok (.enter f args) w) (u1 u2 v : Value) (hx : a.eval x = u1) (hy : a.eval y = u2) (R : World → Prop)
    (hc : Calls P f #[u1, u2] w fun e w' => e = .returned v ∧ R w') (hK : ∀ w', R w' → K (a.put o.dst v) w') :
    if Region.wanted o (yielded ops a.tmps) = true then Oper.wp P o a w K Q else E := by
  have hw : Region.wanted o (yielded ops a.tmps) = true := by simp [Region.wanted, hg]
  rw [if_pos hw]
  have hrun : (execOp a.eval o).run P w = .ok (.enter f #[a.eval x, a.eval y]) w := by simp [go_sem, execOp, hop, resolve, invoke, hent, Deferred.ofValue]
  unfold Oper.wp
  rw [hrun, hx, hy]
  refine hc.mono ?_
  rintro e w' ⟨rfl, hr⟩
  exact hK _ hr
theorem below_drewN {B : Nat} {a w : World} (h : Below B a w) (n : Nat) : Below B a (w.drewN n) := ⟨h.os, h.tape, h.output, h.size, h.block⟩
theorem conv_run {x r : Nat} {w w' : World} (h : (Conv.floatToFloat .f32 x .f64).run Try.prog w = .ok (.float .f64 r) w') : (convert 36 40 (.float .f32 x)).run Try.prog w = .ok (.float .f64 r) w' := by
  simp only [convert, Sem.run_bind, run_underlying Try.underlying36, run_underlying Try.underlying40, Result.andThen_ok, h]
theorem enc_nn {k : FloatKind} {d : Ieee.Datum} (h : d.isNaN = false) : fc k (k.encode d) ≠ none := by
  rw [fc_of_notNaN (b := k.encode d) (write_notNaN k.format d h)]; simp
/-- a single made a double: one word, or some NaN -/
theorem conv_num {x : Nat} (h : fc .f32 x ≠ none) : ∃ r, fc .f64 r ≠ none ∧ Cvt .f32 .f64 x r ∧ ∀ w : World, (convert 36 40 (.float .f32 x)).run Try.prog w = .ok (.float .f64 r) w := by
  have hnn : (FloatKind.f32.decode x).isNaN = false := by
    cases hb : (FloatKind.f32.decode x).isNaN with
    | false => rfl
    | true => exact absurd (fc_of_NaN (by exact hb)) h
  obtain ⟨r0, n0, _, hc⟩ := run_fconv_any (P := Try.prog) default .f32 .f64 (by decide) x
  cases hd : FloatKind.f32.decode x with
  | nan s t => rw [hd] at hnn; cases hnn
  | infinity s =>
    have e := hc.2.2.1 s hd
    subst e
    refine ⟨_, ?_, hc, fun w => conv_run ?_⟩
    · exact enc_nn (d := .infinity s) rfl
    · unfold Conv.floatToFloat; rw [if_neg (by decide), hd]; rfl
  | number s M E =>
    obtain ⟨h1, h2⟩ := big32 (show FloatKind.f32.format.read x = .number s M E from hd)
    have hlt := wide_lt h1 h2
    obtain ⟨M2, E2, h3, _⟩ := write_num FloatKind.f64.format (wide_of .f64) s M E hlt
    have hni : (FloatKind.f64.decode (FloatKind.f64.encode (.number s M E))).isInfinity = false := by
      show (FloatKind.f64.format.read (FloatKind.f64.format.write (.number s M E))).isInfinity = false
      rw [h3]; rfl
    have e := hc.2.2.2 s M E hd hni
    subst e
    refine ⟨_, ?_, hc, fun w => conv_run ?_⟩
    · exact enc_nn (d := .number s M E) rfl
    · unfold Conv.floatToFloat; rw [if_neg (by decide), hd]; simp only [hni]; rfl
theorem conv_nan {x : Nat} (h : fc .f32 x = none) : ∃ N : World → Nat, (∀ w, fc .f64 (N w) = none) ∧ ∀ w : World, (convert 36 40 (.float .f32 x)).run Try.prog w = .ok (.float .f64 (N w)) w.drew := by
  refine ⟨fun w => (Question.nanConv .f64 x).cut (w.tape w.drawn (.nanConv .f64 x)), fun w => (nanConv_FIs .f64 x _).1, fun w => conv_run ?_⟩
  cases hd : FloatKind.f32.decode x with
  | nan s t => unfold Conv.floatToFloat; rw [if_neg (by decide), hd]; simp [Question.forced]
  | infinity s => rw [fc_of_notNaN (by show (FloatKind.f32.decode x).isNaN = false; rw [hd]; rfl)] at h; cases h
  | number s M E => rw [fc_of_notNaN (by show (FloatKind.f32.decode x).isNaN = false; rw [hd]; rfl)] at h; cases h

set_option maxHeartbeats 1000000 in
set_option maxRecDepth 100000 in
theorem eqF {w : World} {a b : Value} {xs : List Nat} (hl : xs.length ≤ 1048576) (ha : RdF w a xs) (hb : RdF w b xs) :
    Calls Try.prog 41 #[a, b] w fun e w' => e = .returned (.bool true) ∧ Below w.heap.size w w' := by
  have HA0 := hid ha
  have HB0 := hid hb
  obtain ⟨_, A, ca, rfl, hA⟩ := ha
  obtain ⟨_, B, cb, rfl, hB⟩ := hb
  clear hA hB
  go_enter Try.func41, Try.ntmps41
  go_wp2
  go_loopw [5] (fun iv wr => ∃ i : Nat, iv = .int .i64 i ∧ i ≤ xs.length ∧ Hid (Below w.heap.size w wr)) (fun iv _ => 1048577 - (intOf iv).toNat)
  case atStart => exact ⟨0, rfl, by omega, Below.refl _ _⟩
  case round =>
    obtain ⟨i, rfl, hi, HW⟩ := hrel
    by_cases hlt : i < xs.length
    · obtain ⟨_, A', ca', hv, hA⟩ := HA0.out.below HW.out
      injection hv with hv1 hv2 hv3
      subst hv1; subst hv3
      obtain ⟨_, B', cb', hv, hB⟩ := HB0.out.below HW.out
      injection hv with hv1 hv2 hv3
      subst hv1; subst hv3
      obtain ⟨ba, rfl, hca⟩ := hA i hlt
      obtain ⟨bb, rfl, hcb⟩ := hB i hlt
      clear hA hB
      generalize xs[i] = x at hca hcb
      have hent : ∀ args w, (callFunc 19 args).run Try.prog w = .ok (.enter 19 args) w := enters_of Try.func19 (by kernel_rfl) rfl
      by_cases hx : fc .f32 x = none
      · obtain ⟨N, hN, hcv⟩ := conv_nan hx
        have HN := hid hN
        clear hN hx
        go_wp2_with fail
        go_region_law (refine step_call2 rfl 19 (.tmp 21) (.tmp 26) 40 rfl hent _ _ (.bool true) rfl rfl _ (same_nan _ _ (HN.out _) (HN.out _) _) ?_; rintro w3 ⟨n3, rfl⟩)
        all_goals
          go_wp2
          go_roundw
          case rel => exact ⟨i + 1, by go_num, by omega, by show Below _ _ _; (repeat first | exact HW.out | apply below_drewN | apply Below.drew)⟩
          case measure => simp [intOf]; omega
      · obtain ⟨r, hr, _, hcv⟩ := conv_num hx
        have HN := hid hr
        clear hr hx
        go_wp2_with fail
        go_region_law (refine step_call2 rfl 19 (.tmp 21) (.tmp 26) 40 rfl hent _ _ (.bool true) rfl rfl _ (same_eq _ HN.out _) ?_; rintro w3 ⟨n3, rfl⟩)
        all_goals
          go_wp2
          go_roundw
          case rel => exact ⟨i + 1, by go_num, by omega, by show Below _ _ _; (repeat first | exact HW.out | apply below_drewN | apply Below.drew)⟩
          case measure => simp [intOf]; omega
    · obtain rfl : i = xs.length := by omega
      go_wp2
      go_ret
      exact ⟨rfl, HW.out⟩
end Go.Proofs.Ytgjfpclpnobggaa
