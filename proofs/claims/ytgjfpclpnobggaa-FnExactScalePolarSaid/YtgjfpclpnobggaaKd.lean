/- The draw of a polar. -/
import Derived.Test.YtgjfpclpnobggaaKc
import Derived.Deep.CutBlock
import Derived.Deep.DeepCutAuto
namespace Go.Proofs.Ytgjfpclpnobggaa
open Go.RowKit

theorem own_nil (w : World) (base : Nat) (e : TypeId) (l : List Value) (h : l = []) : w.ownsRow base e 1 (.slice none 0 0) 0 l := ⟨by subst h; rfl, .inl ⟨rfl, rfl⟩⟩
/-- the polar that begins -/
theorem ps_start {W w : World} {g m : Nat} (hC : Cur W w g) : PS w W (((w.alloc (.cells #[.slice none 0 0, .slice none 0 0, .slice none 0 0] 29)).alloc (.cells #[.int .i64 0] 3)).alloc (.cells #[.slice none 0 0, .slice (some ⟨w.heap.size + 1, 0, none⟩) 1 1, .slice none 0 0] 29)) g (w.heap.size + 1 + 1) w.heap.size
    (.slice none 0 0) (.slice (some ⟨w.heap.size + 1, 0, none⟩) 1 1) (.slice none 0 0) (.slice none 0 0) (.slice (some ⟨w.heap.size + 1, 0, none⟩) 1 1) (.slice none 0 0) [] [0] [] m where
  cur := ((hC.alloc _).alloc _).alloc _
  wb := hC.below.size
  gr := grown_trans (grown_trans (grown_alloc _ _ _) (grown_alloc _ _ _)) (grown_alloc _ _ _)
  tri := blk3 w _ _ _
  bge := by omega
  res := blk1 w _ _ _
  rge := Nat.le_refl _
  rne := by omega
  o1 := own_nil _ _ _ _ rfl
  o2 := by
    have h := World.ownsRow_lit (base := w.heap.size) (e := 3) (size := 1) (w.alloc (.cells #[.slice none 0 0, .slice none 0 0, .slice none 0 0] 29)) #[.int .i64 0] 1 (by simp) (by decide) rfl
    rw [show (w.alloc (.cells #[.slice none 0 0, .slice none 0 0, .slice none 0 0] 29)).heap.size = w.heap.size + 1 by simp] at h
    exact h.alloc _
  o3 := own_nil _ _ _ _ rfl
  ro := fun r hr => by cases hr
theorem len_bound {n : Nat} (h : n ≤ 1000) : n + 1 ≤ maxLen ∧ (n + 1) * 4 ≤ 140737488355328 ∧ (n + 1) * 8 ≤ 140737488355328 ∧ (n + 1) * 24 ≤ 140737488355328 := by unfold maxLen; omega
theorem one_cell_i (x : Int) : ∀ u ∈ [Value.int .i64 x], u.oneCell' = true := by simp [Value.oneCell']
theorem one_cell_f (x : Nat) : ∀ u ∈ [Value.float .f32 x], u.oneCell' = true := by simp [Value.oneCell']
theorem one_cell_s (A : Option Addr) (n c : Nat) : ∀ u ∈ [Value.slice A n c], u.oneCell' = true := by simp [Value.oneCell']
theorem PS.size {w0 W w : World} {g bp rs : Nat} {t1 t2 t3 v1 v2 v3 : Value} {F : List Nat} {Z : List Int} {R : List Value} {m : Nat} (h : PS w0 W w g bp rs t1 t2 t3 v1 v2 v3 F Z R m) (o : Obj) : w0.heap.size ≤ (w.alloc o).heap.size := by have := h.gr.size; simp; omega

/-- a row that is being made -/
def apart (x y : Value) : Prop := x.ownBlock = none ∨ x.ownBlock ≠ y.ownBlock
structure PR (w0 w : World) (v1 : Value) (R : List Value) (v : Value) (k : Nat) : Prop where
  own : ∃ xs, xs.length = k ∧ w.ownsRow w0.heap.size 36 1 v k (fcells xs)
  one : apart v v1
  eno : apart v1 v
  rows : ∀ x ∈ R, apart x v
section
variable {w0 W w w' : World} {g bp rs : Nat} {t1 t2 t3 v1 v2 v3 v : Value} {F : List Nat} {Z : List Int} {R : List Value} {m k : Nat}
theorem PR.kept {r : Option Nat} (h : PR w0 w v1 R v k) (q : w.grownBy w' r) (hne : v.ownBlock = none ∨ v.ownBlock ≠ r) : PR w0 w' v1 R v k := by
  obtain ⟨⟨xs, hl, ho⟩, h1, h2, h3⟩ := h
  exact ⟨⟨xs, hl, ho.kept q hne⟩, h1, h2, h3⟩
theorem PR.grown (h : PR w0 w v1 R v k) (hC : Cur W w g) (q : w.grownBy w' (some g)) : PR w0 w' v1 R v k := by
  obtain ⟨xs, hl, ho⟩ := h.own
  exact h.kept q (.inr (cur_ne_own hC ho (by decide)))
theorem PR.alloc (h : PR w0 w v1 R v k) (o : Obj) : PR w0 (w.alloc o) v1 R v k := h.kept (r := none) (grown_alloc _ _ _) (by cases v.ownBlock <;> simp)
theorem PR.start (h : PS w0 W w g bp rs t1 t2 t3 v1 v2 v3 F Z R m) : PR w0 (w.alloc (.cells #[] 36)) v1 R (.slice (some ⟨w.heap.size, 0, none⟩) 0 0) 0 := by
  refine ⟨⟨[], rfl, World.ownsRow_lit w #[] 0 h.gr.size (by decide) rfl⟩, .inr ?_, ?_, fun x hx => ?_⟩
  · intro e
    have := (h.o1.lt _ (show v1.ownBlock = some w.heap.size from e.symm)).2
    omega
  · cases hb : v1.ownBlock with
    | none => exact .inl hb
    | some b =>
      right
      rw [hb]
      have := (h.o1.lt _ hb).2
      intro e
      have : b = w.heap.size := by simpa [Value.ownBlock] using e
      omega
  · obtain ⟨xs, hl, ho, _⟩ := h.ro x hx
    cases hb : x.ownBlock with
    | none => exact .inl hb
    | some b =>
      right
      rw [hb]
      have := (ho.lt _ hb).2
      intro e
      have : b = w.heap.size := by simpa [Value.ownBlock] using e
      omega
theorem PR.app {v' : Value} {x : Nat} {xs : List Nat} (h : PR w0 w v1 R v k) (hP : PS w0 W w g bp rs t1 t2 t3 v1 v2 v3 F Z R m) (ho : w'.ownsRow w0.heap.size 36 1 v' (k + 1) (fcells xs ++ [.float .f32 x])) (hl : xs.length = k) (hat : v'.ownBlock = v.ownBlock ∨ v'.ownBlock = some w.heap.size) : PR w0 w' v1 R v' (k + 1) := by
  have fresh : ∀ u : Value, (∀ b, u.ownBlock = some b → b < w.heap.size) → apart u v → apart u v' := fun u hu ha => by
    rcases ha with ha | ha
    · exact .inl ha
    · rcases hat with e | e
      · exact .inr (by rw [e]; exact ha)
      · cases hb : u.ownBlock with
        | none => exact .inl hb
        | some b =>
          right
          rw [hb, e]
          have := hu b hb
          intro e2
          cases e2
          omega
  refine ⟨⟨xs ++ [x], by simp [hl], by simpa [fcells] using ho⟩, ?_, fresh v1 (fun b hb => (hP.o1.lt b hb).2) h.eno, fun u hu => ?_⟩
  · rcases hat with e | e
    · rcases h.one with h1 | h1
      · exact .inl (by rw [e]; exact h1)
      · exact .inr (by rw [e]; exact h1)
    · right
      rw [e]
      intro e2
      have := (hP.o1.lt _ e2.symm).2
      omega
  · obtain ⟨xs, hl, ho, _⟩ := hP.ro u hu
    exact fresh u (fun b hb => (ho.lt b hb).2) (h.rows u hu)
/-- a turn of the row that is being made -/
theorem PS.row (h : PS w0 W w g bp rs t1 t2 t3 v1 v2 v3 F Z R m) (hr : PR w0 w v1 R v k) (q : w.grownBy w' v.ownBlock) : PS w0 W w' g bp rs t1 t2 t3 v1 v2 v3 F Z R m := by
  obtain ⟨xs, hl, ho⟩ := hr.own
  refine h.turn q (h.cur.keptO q (cur_ne_own h.cur ho (by decide)) (fun b hb => Nat.le_trans h.wb (ho.lt b hb).1)) (fun b hb => .inr (ho.lt b hb).1) (tri_ne_own h.tri ho (by decide)) (tri_ne_own h.res ho (by decide)) ?_ (own_ne h.o2 ho (by decide)) (own_ne h.o3 ho (by decide)) (fun x hx => hr.rows x hx)
  exact hr.eno
/-- the polar and the row that is being made -/
def QS (w0 W w : World) (g bp rs : Nat) (t1 t2 t3 v1 v2 v3 : Value) (F : List Nat) (Z : List Int) (R : List Value) (m : Nat) (v : Value) (k : Nat) : Prop := PS w0 W w g bp rs t1 t2 t3 v1 v2 v3 F Z R m ∧ PR w0 w v1 R v k
theorem QS.grown (h : QS w0 W w g bp rs t1 t2 t3 v1 v2 v3 F Z R m v k) (q : w.grownBy w' (some g)) (hc : Cur W w' g) : QS w0 W w' g bp rs t1 t2 t3 v1 v2 v3 F Z R m v k := ⟨h.1.grown q hc, h.2.grown h.1.cur q⟩
theorem QS.drewN (h : QS w0 W w g bp rs t1 t2 t3 v1 v2 v3 F Z R m v k) (n : Nat) : QS w0 W (w.drewN n) g bp rs t1 t2 t3 v1 v2 v3 F Z R m v k := h.grown (grown_drewN _ _ _) (h.1.cur.drewN n)
theorem QS.alloc (h : QS w0 W w g bp rs t1 t2 t3 v1 v2 v3 F Z R m v k) (o : Obj) : QS w0 W (w.alloc o) g bp rs t1 t2 t3 v1 v2 v3 F Z R m v k := h.grown (grown_alloc _ _ _) (h.1.cur.alloc o)
theorem QS.app {v' : Value} {x : Nat} {xs : List Nat} (h : QS w0 W w g bp rs t1 t2 t3 v1 v2 v3 F Z R m v k) (q : w.grownBy w' v.ownBlock) (ho : w'.ownsRow w0.heap.size 36 1 v' (k + 1) (fcells xs ++ [.float .f32 x])) (hl : xs.length = k) (hat : v'.ownBlock = v.ownBlock ∨ v'.ownBlock = some w.heap.size) :
    QS w0 W w' g bp rs t1 t2 t3 v1 v2 v3 F Z R m v' (k + 1) := ⟨h.1.row h.2 q, h.2.app h.1 ho hl hat⟩
theorem QS.cur (h : QS w0 W w g bp rs t1 t2 t3 v1 v2 v3 F Z R m v k) : Cur W w g := h.1.cur
theorem QS.size (h : QS w0 W w g bp rs t1 t2 t3 v1 v2 v3 F Z R m v k) (o : Obj) : w0.heap.size ≤ (w.alloc o).heap.size := h.1.size o
theorem none_or {v : Value} (r : Option Nat) (h : r = none := by rfl) : v.ownBlock = none ∨ v.ownBlock ≠ r := by cases v.ownBlock <;> simp [h]
theorem PR.rowO (h : PR w0 w v1 R v k) : RowO w0 w v1 k v := by
  obtain ⟨xs, hl, ho⟩ := h.own
  exact ⟨xs, hl, ho, h.one⟩
/-- no row yet: any width -/
theorem PS.width (h : PS w0 W w g bp rs t1 t2 t3 v1 v2 v3 F Z [] m) (m' : Nat) : PS w0 W w g bp rs t1 t2 t3 v1 v2 v3 F Z [] m' :=
  ⟨h.cur, h.wb, h.gr, h.tri, h.bge, h.res, h.rge, h.rne, h.o1, h.o2, h.o3, fun r hr => by cases hr⟩
end

/-- a polar that is owned, whole -/
structure PO (w0 W w : World) (g : Nat) (v1 v2 v3 : Value) (F : List Nat) (Z : List Int) (R : List Value) (m : Nat) : Prop where
  cur : Cur W w g
  wb : W.heap.size ≤ w0.heap.size
  gr : w0.grownBy w (some g)
  o1 : w.ownsRow w0.heap.size 36 1 v1 F.length (fcells F)
  o2 : w.ownsRow w0.heap.size 3 1 v2 Z.length (icells Z)
  o3 : w.ownsRow w0.heap.size 22 1 v3 R.length R
  ro : ∀ r ∈ R, RowO w0 w v1 m r
section
variable {w0 W w w' : World} {g bp rs : Nat} {t1 t2 t3 v1 v2 v3 v : Value} {F : List Nat} {Z : List Int} {R : List Value} {m k : Nat}
theorem PS.po (h : PS w0 W w g bp rs t1 t2 t3 v1 v2 v3 F Z R m) : PO w0 W w g v1 v2 v3 F Z R m := ⟨h.cur, h.wb, h.gr, h.o1, h.o2, h.o3, h.ro⟩
theorem PO.cells {b i : Nat} {x y z u : Value} (h : PO w0 W w g v1 v2 v3 F Z R m) (ht : Tri w b x y z) (hge : w0.heap.size ≤ b) : PO w0 W (w.setCell ⟨b, i, none⟩ u) g v1 v2 v3 F Z R m where
  cur := h.cur.keptO (grown_bp w b i u) (fun e => tri_ne_cur ht h.cur (by cases e; rfl)) (fun b' hb => by cases hb; exact Nat.le_trans h.wb hge)
  wb := h.wb
  gr := grown_up h.gr (grown_bp w b i u) (fun b' hb => by cases hb; exact hge)
  o1 := h.o1.kept (grown_bp w b i u) (.inr (tri_ne_own ht h.o1 (by decide)))
  o2 := h.o2.kept (grown_bp w b i u) (.inr (tri_ne_own ht h.o2 (by decide)))
  o3 := h.o3.kept (grown_bp w b i u) (.inr (tri_ne_own ht h.o3 (by decide)))
  ro := fun r hr => by
    obtain ⟨xs, hl, hx, hn⟩ := h.ro r hr
    exact ⟨xs, hl, hx.kept (grown_bp w b i u) (.inr (tri_ne_own ht hx (by decide))), hn⟩
theorem PS.end_ (h : PS w0 W w g bp rs t1 t2 t3 v1 v2 v3 F Z R m) (a b c : Value) : PO w0 W (((w.setCell ⟨rs, 0, none⟩ a).setCell ⟨rs, 1, none⟩ b).setCell ⟨rs, 2, none⟩ c) g v1 v2 v3 F Z R m :=
  ((h.po.cells h.res h.rge).cells h.res.set0 h.rge).cells h.res.set0.set1 h.rge
end
def PolarMade (w0 W w : World) (g : Nat) (e : Ending) : Prop := ∃ v1 v2 v3 F Z R, e = .returned (.agg #[v1, v2, v3]) ∧ Hid (PO w0 W w g v1 v2 v3 F Z R Z.length) ∧ 1 ≤ F.length ∧ F.length ≤ 4 ∧ R.length = F.length ∧ 2 ≤ Z.length ∧ Z.length ≤ 21

set_option maxHeartbeats 4000000 in
set_option maxRecDepth 100000 in
theorem polar_g {W w : World} {g : Nat} (hC : Cur W w g) :
    Calls Try.prog 67 #[.pointer (some ⟨g, 0, none⟩)] w fun e w' => PolarMade w W w' g e := by
  have HP := hid (ps_start (m := 0) hC)
  clear hC
  obtain ⟨i0, hi0, hi1, hi2, hi3⟩ := info_parts info_f32
  obtain ⟨k0, hk0, hk1, hk2, hk3⟩ := info_parts info_int
  obtain ⟨r0, hr0, hr1, hr2, hr3⟩ := info_parts info_row
  have hsf := fun (a : Addr) (n : Nat) (w : World) => run_store Try.prog w a (.float .f32 n) .plain rfl
  go_enter Try.func67, Try.ntmps67
  go_wp2_with fail
  generalize (((w.alloc (.cells #[.slice none 0 0, .slice none 0 0, .slice none 0 0] 29)).alloc (.cells #[.int .i64 0] 3)).alloc (.cells #[.slice none 0 0, .slice (some ⟨w.heap.size + 1, 0, none⟩) 1 1, .slice none 0 0] 29)) = w0 at HP ⊢
  generalize w.heap.size + 1 + 1 = bp at HP ⊢
  generalize w.heap.size + 1 = b2 at HP ⊢
  generalize w.heap.size = rs at HP ⊢
  refine (below_any W _ g _ (by omega) HP.out.cur).mono ?_
  rintro e w1 ⟨r1, rfl, ⟨h10, h11⟩, hC1, hG1⟩
  have HP1 := hid (HP.out.grown hG1 hC1)
  have h12 := h11 (by omega)
  clear hC1 hG1 HP h11
  go_wp2_with fail
  refine (once_any W _ g _ (by omega) HP1.out.cur).mono ?_
  rintro e w2 ⟨o2, rfl, hC2, hG2⟩
  have HP2 := hid (HP1.out.grown hG2 hC2)
  clear hC2 hG2 HP1
  go_upto_if 17 with fail
  go_cut [4] (fun tv wx => ∃ tp : Int, tv = .int .i64 tp ∧ 0 ≤ tp ∧ tp ≤ 60 ∧ w2 = wx)
  case first =>
    cases o2
    all_goals
      go_wp2
      go_meet
      exact ⟨_, rfl, by omega, by omega, rfl⟩
  case rest =>
    obtain ⟨tp, rfl, ht0, ht1, rfl⟩ := hcut
    go_upto_block 0 with fail
    go_cut [] (fun wx => ∃ (Z : List Int) (v2 : Value), 1 ≤ Z.length ∧ Z.length ≤ 20 ∧ Hid (PS w W wx g bp rs (.slice none 0 0) v2 (.slice none 0 0) (.slice none 0 0) v2 (.slice none 0 0) [] Z [] 0))
    case first =>
      go_wp2_with fail
      go_loopw [5] (fun av wr => ∃ (a : Int) (Z : List Int) (v2 : Value), av = .int .i64 a ∧ 0 ≤ a ∧ a ≤ 240 ∧ 1 ≤ Z.length ∧ Z.length ≤ 20 ∧ Hid (PS w W wr g bp rs (.slice none 0 0) v2 (.slice none 0 0) (.slice none 0 0) v2 (.slice none 0 0) [] Z [] 0)) (fun av _ => (240 - intOf av).toNat)
      case atStart => exact ⟨_, [0], _, rfl, by omega, by omega, by simp, by simp, HP2.out⟩
      case round =>
        obtain ⟨a, Z, v2, rfl, ha0, ha1, hZ0, hZ1, HP⟩ := hrel
        have hB := len_bound (n := Z.length) (by omega)
        obtain ⟨b1, b2, b3, b4⟩ := hB
        obtain ⟨A2, c2, rfl⟩ := own_shape HP.out.o2
        obtain ⟨⟨x1, x2, x3⟩, y1, y2, y3⟩ := HP.out.tri.facts
        by_cases g1 : 0 < a
        · by_cases g2 : a < 180
          · by_cases g3 : Z.length < 20
            · go_wp2_with (at_builtin; refine wpList_append_own_at _ rfl _ _ 23 rfl w.heap.size 3 k0 (.int .i64 0) 1 8 Try.underlying23 hk0 hk1 hk2 hk3 rfl (by decide) _ _ _ rfl (HP.out.o2.alloc _) ⟨wr.heap.size, 0, none⟩ 1 1 [.int .i64 a] rfl rfl (cell_one_new _ _ _) (one_cell_i _) b1 b3 (HP.out.size _) ?_; intro v3 w3 hown3 hgr3 _ _; have HA := hid ((HP.out.alloc _).app2 hgr3 hown3); obtain ⟨A3, c3, rfl⟩ := own_shape hown3; clear hown3 hgr3 x1 x2 x3 y1 y2 y3; obtain ⟨⟨x1, x2, x3⟩, y1, y2, y3⟩ := HA.out.tri.facts)
              have HS := hid (HA.out.set1 (.slice A3 (Z.length + 1) c3))
              refine (below_any W _ g _ (by omega) HS.out.cur).mono ?_
              rintro e w4 ⟨r4, rfl, ⟨h40, h41⟩, hC4, hG4⟩
              have HP4 := hid (HS.out.grown hG4 hC4)
              have h42 := h41 (by omega)
              clear hC4 hG4 h41 x1 x2 x3 y1 y2 y3
              go_wp2
              go_roundw
              case rel => exact ⟨_, Z ++ [a], _, rfl, by omega, by omega, by simp, by simp; omega, HP4.out⟩
              case measure => simp [intOf]; omega
            · go_wp2
              go_meet
              exact ⟨Z, _, hZ0, hZ1, HP.out⟩
          · go_wp2
            go_meet
            exact ⟨Z, _, hZ0, hZ1, HP.out⟩
        · go_wp2
          go_meet
          exact ⟨Z, _, hZ0, hZ1, HP.out⟩
    case rest =>
      obtain ⟨Z, v2, hZ0, hZ1, HP⟩ := hcut
      obtain ⟨A2, c2, rfl⟩ := own_shape HP.out.o2
      have hB := len_bound (n := Z.length) (by omega)
      obtain ⟨b1, b2, b3, b4⟩ := hB
      obtain ⟨⟨x1, x2, x3⟩, y1, y2, y3⟩ := HP.out.tri.facts
      go_wp2_with (at_builtin; refine wpList_append_own_at _ rfl _ _ 23 rfl w.heap.size 3 k0 (.int .i64 0) 1 8 Try.underlying23 hk0 hk1 hk2 hk3 rfl (by decide) _ _ _ rfl (HP.out.o2.alloc _) ⟨_, 0, none⟩ 1 1 [.int .i64 180] rfl rfl (cell_one_new _ _ _) (one_cell_i _) b1 b3 (HP.out.size _) ?_; intro v3 w3 hown3 hgr3 _ _; have HA := hid ((HP.out.alloc _).app2 hgr3 hown3); obtain ⟨A3, c3, rfl⟩ := own_shape hown3; clear hown3 hgr3 x1 x2 x3 y1 y2 y3; obtain ⟨⟨x1, x2, x3⟩, y1, y2, y3⟩ := HA.out.tri.facts)
      have HS := hid (HA.out.set1 (.slice A3 (Z.length + 1) c3))
      refine (below_any W _ g _ (by omega) HS.out.cur).mono ?_
      rintro e w4 ⟨r4, rfl, ⟨h40, h41⟩, hC4, hG4⟩
      have HP4 := hid (HS.out.grown hG4 hC4)
      have h42 := h41 (by omega)
      clear hC4 hG4 h41 x1 x2 x3 y1 y2 y3 b1 b2 b3 b4 HP HP2 HS HA
      go_wp2_with fail
      refine (below_any W _ g _ (by omega) HP4.out.cur).mono ?_
      rintro e w5 ⟨r5, rfl, ⟨h50, h51⟩, hC5, hG5⟩
      have HP5 := hid (HP4.out.grown hG5 hC5)
      have h52 := h51 (by omega)
      clear hC5 hG5 h51 HP4
      obtain ⟨Y, hY⟩ : ∃ Y : List Int, Z ++ [180] = Y := ⟨_, rfl⟩
      have hYl : Z.length + 1 = Y.length := by rw [← hY]; simp
      rw [hY] at HP5
      rw [hYl] at HP5 ⊢
      clear hY
      go_wp2_with fail
      go_loopw [6, 7] (fun xv nv wr => ∃ (x : Nat) (N : Int) (F : List Nat) (R : List Value) (v1 v3 : Value), xv = .float .f32 x ∧ nv = .int .i64 N ∧ 0 ≤ N ∧ N + F.length = 1 + r5 ∧ R.length = F.length ∧ Hid (PS w W wr g bp rs v1 (.slice A3 Y.length c3) v3 v1 (.slice A3 Y.length c3) v3 F Y R Y.length)) (fun _ nv _ => (intOf nv).toNat)
      case atStart => exact ⟨_, 1 + r5, [], [], _, _, rfl, rfl, by omega, by simp, rfl, HP5.out.width _⟩
      case round =>
        obtain ⟨x, N, F, R, v1, v3, rfl, rfl, hN0, hN1, hRl, HP⟩ := hrel
        have hRm : R.length ≤ 1000 := by omega
        have HRl := hid hRl
        clear HP5 hRl
        by_cases hlt : 0 < N
        · obtain ⟨A1, c1, rfl⟩ := own_shape HP.out.o1
          have hB := len_bound (n := F.length) (by omega)
          obtain ⟨b1, b2, b3, b4⟩ := hB
          obtain ⟨⟨x1, x2, x3⟩, y1, y2, y3⟩ := HP.out.tri.facts
          go_wp2_with (at_builtin; refine wpList_append_own_at _ rfl _ _ 22 rfl w.heap.size 36 i0 (.float .f32 0) 1 4 Try.underlying22 hi0 hi1 hi2 hi3 rfl (by decide) _ _ _ rfl (HP.out.o1.alloc _) ⟨_, 0, none⟩ 1 1 [.float .f32 x] rfl rfl (cell_one_new _ _ _) (one_cell_f _) b1 b2 (HP.out.size _) ?_; intro v8 w8 hown8 hgr8 _ hat8; have HA := hid ((HP.out.alloc _).app1 hgr8 hown8 hat8); obtain ⟨A8, c8, rfl⟩ := own_shape hown8; clear hown8 hgr8 x1 x2 x3 y1 y2 y3; obtain ⟨⟨x1, x2, x3⟩, y1, y2, y3⟩ := HA.out.tri.facts)
          have HS := hid (HA.out.set0 (.slice A8 (F.length + 1) c8))
          have HQ0 := hid (show QS w W _ g bp rs _ _ _ _ _ _ _ _ _ _ _ _ from ⟨HS.out.alloc (.cells #[] 36), PR.start HS.out⟩)
          clear HP x1 x2 x3 y1 y2 y3 b1 b2 b3 b4 HA HS hat8
          go_loopw [8, 9] (fun vv kv wr => ∃ (k : Nat), kv = .int .i64 k ∧ k ≤ Y.length ∧ Hid (QS w W wr g bp rs (.slice A8 (F.length + 1) c8) (.slice A3 Y.length c3) v3 (.slice A8 (F.length + 1) c8) (.slice A3 Y.length c3) v3 (F ++ [x]) Y R Y.length vv k)) (fun _ kv _ => (30 - intOf kv).toNat)
          case atStart =>
            have h := HQ0.out
            rw [show (w8.setCell ⟨bp, 0, none⟩ (.slice A8 (F.length + 1) c8)).heap.size = w8.heap.size by simp [World.setCell]] at h
            exact ⟨0, rfl, by omega, h⟩
          case round =>
            obtain ⟨k, rfl, hk, HQ⟩ := hrel
            clear HQ0
            obtain ⟨⟨x1, x2, x3⟩, y1, y2, y3⟩ := HQ.out.1.tri.facts
            by_cases hk1 : k < Y.length
            · clear x1 x3 y1 y2 y3
              have hB := len_bound (n := k) (by omega)
              obtain ⟨b1, b2, b3, b4⟩ := hB
              have hkd : k = 0 ∨ ((k : Int) == 0) = false := by
                rcases Nat.eq_zero_or_pos k with h | h
                · exact .inl h
                · exact .inr (beq_eq_false_iff_ne.2 (by omega))
              rcases hkd with rfl | hkd
              all_goals
                go_wp2_with (first | (go_at_call 49; refine (below_any W _ g _ (by omega) (QS.cur (by repeat (first | exact HQ.out | apply QS.drewN | apply QS.alloc)))).mono ?_; rintro e w9 ⟨r9, rfl, ⟨h90, h91⟩, hC9, hG9⟩; replace HQ := hid (QS.grown (by repeat (first | exact HQ.out | apply QS.drewN | apply QS.alloc)) hG9 hC9); replace h91 := h91 (by omega); clear hC9 hG9) | (go_at_call 83; refine (once_any W _ g _ (by omega) (QS.cur (by repeat (first | exact HQ.out | apply QS.drewN | apply QS.alloc)))).mono ?_; rintro e w9 ⟨o9, rfl, hC9, hG9⟩; replace HQ := hid (QS.grown (by repeat (first | exact HQ.out | apply QS.drewN | apply QS.alloc)) hG9 hC9); clear hC9 hG9) | (refine wpList_farith rfl _ _ _ _ _ rfl rfl _ _ _ rfl rfl ?_; intro q nq hq; clear hq) | (at_builtin; obtain ⟨xs8, hxl8, hxo8⟩ := HQ.out.2.own; refine wpList_append_own_at _ rfl _ _ 22 rfl w.heap.size 36 i0 (.float .f32 0) 1 4 Try.underlying22 hi0 hi1 hi2 hi3 rfl (by decide) _ _ _ rfl (World.ownsRow.alloc (by first | exact hxo8 | exact hxo8.kept (grown_drewN _ _ none) (none_or _)) _) ⟨_, 0, none⟩ 1 1 [.float .f32 _] rfl rfl (cell_one_new _ _ _) (one_cell_f _) b1 b2 (QS.size (by repeat (first | exact HQ.out | apply QS.drewN | apply QS.alloc)) _) ?_; intro v10 w10 hown10 hgr10 _ hat10; replace HQ := hid ((QS.alloc (by repeat (first | exact HQ.out | apply QS.drewN | apply QS.alloc)) _).app hgr10 hown10 hxl8 hat10); clear hown10 hgr10 hat10 hxo8 hxl8))
                all_goals
                  go_roundw
                  case rel => exact ⟨_, by go_num, by omega, HQ.out⟩
                  case measure => (simp [intOf]; try omega)
            · obtain rfl : k = Y.length := by omega
              obtain ⟨xs8, hxl8, hxo8⟩ := HQ.out.2.own
              obtain ⟨A9, c9, rfl⟩ := own_shape hxo8
              obtain ⟨A10, c10, rfl⟩ := own_shape HQ.out.1.o3
              clear hxo8 hxl8
              have hB := len_bound hRm
              obtain ⟨b1, b2, b3, b4⟩ := hB
              go_wp2_with (at_builtin; refine wpList_append_own_at _ rfl _ _ 24 rfl w.heap.size 22 r0 (.slice none 0 0) 1 24 Try.underlying24 hr0 hr1 hr2 hr3 rfl (by decide) _ _ _ rfl (HQ.out.1.o3.alloc _) ⟨_, 0, none⟩ 1 1 [.slice A9 Y.length c9] rfl rfl (cell_one_new _ _ _) (one_cell_s _ _ _) b1 b4 (HQ.out.1.size _) ?_; intro v11 w11 hown11 hgr11 _ _; have HA := hid ((HQ.out.1.alloc _).app3 (HQ.out.2.alloc _).rowO hgr11 hown11); obtain ⟨A11, c11, rfl⟩ := own_shape hown11; clear hown11 hgr11 x1 x2 x3 y1 y2 y3; obtain ⟨⟨x1, x2, x3⟩, y1, y2, y3⟩ := HA.out.tri.facts)
              have HS := hid (HA.out.set2 (.slice A11 (R.length + 1) c11))
              refine (below_any W _ g _ (by omega) HS.out.cur).mono ?_
              rintro e w12 ⟨r12, rfl, ⟨h120, h121⟩, hC12, hG12⟩
              have HP12 := hid (HS.out.grown hG12 hC12)
              have h122 := h121 (by omega)
              clear hC12 hG12 h121 x1 x2 x3 y1 y2 y3 b1 b2 b3 b4 HQ HS HA
              go_wp2_with (refine wpList_farith rfl _ _ _ _ _ rfl rfl _ _ _ rfl rfl ?_; intro q nq hq; clear hq)
              go_roundw
              case rel => exact ⟨_, N - 1, F ++ [x], R ++ [.slice A9 Y.length c9], _, _, rfl, by go_num, by omega, by simp; omega, by simp [HRl.out], hid (HP12.out.drewN _)⟩
              case measure => (simp [intOf]; try omega)
        · obtain ⟨A1, c1, rfl⟩ := own_shape HP.out.o1
          obtain ⟨A10, c10, rfl⟩ := own_shape HP.out.o3
          obtain ⟨⟨x1, x2, x3⟩, y1, y2, y3⟩ := HP.out.tri.facts
          obtain ⟨⟨p1, p2, p3⟩, q1, q2, q3⟩ := HP.out.res.facts
          go_wp2
          obtain ⟨⟨e1, e2, e3⟩, _⟩ := (((HP.out.res.set0 (x' := .slice A1 F.length c1)).set1 (y' := .slice A3 Y.length c3)).set2 (z' := .slice A10 R.length c10)).facts
          (try simp only [Exit.inBlock, Exit.then])
          refine bodyPost_ret_by (v := .agg #[.slice A1 F.length c1, .slice A3 Y.length c3, .slice A10 R.length c10]) ?_ rfl ?_
          · simp [go_sem, results, loadVar, e1, e2, e3]
            done
          exact ⟨_, _, _, F, Y, R, rfl, HP.out.end_ _ _ _, by omega, by omega, HRl.out, by omega, by omega⟩
end Go.Proofs.Ytgjfpclpnobggaa
