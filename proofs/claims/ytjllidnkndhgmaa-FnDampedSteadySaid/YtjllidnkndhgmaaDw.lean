/- Contracts of the functions that draw: each answers some value of its kind, in its range, and writes nothing but its cursor. -/
import Derived.Test.YtjllidnkndhgmaaCu
import Derived.Test.YtjllidnkndhgmaaFl
namespace Go.Proofs.Ytjllidnkndhgmaa
open Go.RowKit

/-- the cursor g, and what has turned since w0 -/
def CG (w0 W w : World) (g : Nat) : Prop := Cur W w g ∧ w0.grownBy w (some g)
theorem grown_alloc (w : World) (o : Obj) (r : Option Nat) : w.grownBy (w.alloc o) r := ⟨rfl, rfl, rfl, by simp, fun k hk _ => Below.heap_alloc _ _ _ hk⟩
theorem Cur.alloc {W w : World} {g : Nat} (h : Cur W w g) (o : Obj) : Cur W (w.alloc o) g := by
  obtain ⟨A, n, c, i, h0, hb, hg, h1, h2, hr, hB⟩ := h
  exact ⟨A, n, c, i, h0, (Below.heap_alloc _ _ _ (lt_of_block hb)).trans hb, hg, h1, h2, hr, hB.alloc hB.size o⟩
theorem CG.alloc {w0 W w : World} {g : Nat} (h : CG w0 W w g) (o : Obj) : CG w0 W (w.alloc o) g := ⟨h.1.alloc o, grown_trans h.2 (grown_alloc _ _ _)⟩
theorem CG.drewN {w0 W w : World} {g : Nat} (h : CG w0 W w g) (n : Nat) : CG w0 W (w.drewN n) g := ⟨h.1.drewN n, grown_trans h.2 (grown_drewN _ _ _)⟩
theorem CG.drew {w0 W w : World} {g : Nat} (h : CG w0 W w g) : CG w0 W w.drew g := h.drewN 1
theorem CG.start {W w : World} {g : Nat} (h : Cur W w g) : CG w W w g := ⟨h, grown_refl _ _⟩

theorem below_g {w0 W w : World} {g : Nat} (m : Int) (hm : m ≤ 1000000000000) (h : CG w0 W w g) :
    Calls Try.prog 71 #[.pointer (some ⟨g, 0, none⟩), .int .i64 m] w fun e w' => ∃ r : Int, e = .returned (.int .i64 r) ∧ (0 ≤ r ∧ (0 < m → r < m)) ∧ CG w0 W w' g :=
  (below_any W w g m hm h.1).mono fun _ _ ⟨r, he, hr, hc, hg⟩ => ⟨r, he, hr, hc, grown_trans h.2 hg⟩
theorem once_g {w0 W w : World} {g : Nat} (m : Int) (hm : m ≤ 1000000000000) (h : CG w0 W w g) :
    Calls Try.prog 72 #[.pointer (some ⟨g, 0, none⟩), .int .i64 m] w fun e w' => ∃ b : Bool, e = .returned (.bool b) ∧ CG w0 W w' g :=
  (once_any W w g m hm h.1).mono fun _ _ ⟨r, he, hc, hg⟩ => ⟨r, he, hc, grown_trans h.2 hg⟩

theorem add_plain (g j : Nat) : (⟨g, 0, none⟩ : Addr).add j = ⟨g, j, none⟩ := by unfold Addr.add; split <;> simp_all

set_option maxHeartbeats 1000000 in
set_option maxRecDepth 100000 in
theorem pick_g {w0 W w : World} {g : Nat} {b n c : Nat} (Q : Int → Prop) (hn : 0 < n) (hn2 : n ≤ 1000000) (hne : b ≠ g) (hv : ∀ j, j < n → ∃ u : Int, w.cell? ⟨b, j, none⟩ = some (.int .i64 u) ∧ Q u) (h : CG w0 W w g) :
    Calls Try.prog 105 #[.pointer (some ⟨g, 0, none⟩), .slice (some ⟨b, 0, none⟩) n c] w fun e w' => ∃ r : Int, e = .returned (.int .i64 r) ∧ Q r ∧ CG w0 W w' g := by
  have HV := hid hv
  have HC := hid h
  clear hv h
  go_enter Try.func105, Try.ntmps105
  go_wp2_with (go_at_call 71; refine (below_any W _ g _ (by omega) HC.out.1).mono ?_; rintro e w1 ⟨r, rfl, ⟨hr0, hr1⟩, hC1, hg1⟩; have H1 := hid hC1; have G1 := hid hg1; have hr2 := hr1 (by omega); clear hC1 hg1 hr1; obtain ⟨u, hu, hq⟩ := HV.out r.toNat (by omega); have hu1 := (World.cell?_of_block (w := w) (w' := w1) (a := ⟨b, r.toNat, none⟩) (G1.out.block b (World.block_lt_of_cell? w _ hu) (fun e => hne (by cases e; rfl)))).trans hu; clear hu; have HQ := hid hq; clear hq)
  go_ret
  exact ⟨_, rfl, HQ.out, H1.out, grown_trans HC.out.2 G1.out⟩

theorem cg_ne {w0 W w : World} {g : Nat} (h : CG w0 W w g) : w.heap.size ≠ g := Nat.ne_of_gt h.1.lt

def I64 (n : Int) : Prop := -9223372036854775808 ≤ n ∧ n ≤ 9223372036854775807

/-- a literal's numbers, in the block that has just been made -/
theorem lit_cells (w : World) (l : List Int) (t : TypeId) (Q : Int → Prop) (hQ : ∀ x ∈ l, Q x) : ∀ j, j < l.length → ∃ u : Int, (w.alloc (.cells (l.map (Value.int .i64)).toArray t)).cell? ⟨w.heap.size, j, none⟩ = some (.int .i64 u) ∧ Q u := by
  intro j hj
  have hb : (w.alloc (.cells (l.map (Value.int .i64)).toArray t)).heap[w.heap.size]? = some (.cells (l.map (Value.int .i64)).toArray t) := by simpa using heap_alloc_new w _
  refine ⟨l[j], ?_, hQ _ (List.getElem_mem hj)⟩
  rw [block_cell hb j]
  simp [List.getElem?_eq_getElem hj]

set_option maxHeartbeats 1000000 in
set_option maxRecDepth 100000 in
theorem number_g {w0 W w : World} {g : Nat} (h : CG w0 W w g) :
    Calls Try.prog 73 #[.pointer (some ⟨g, 0, none⟩)] w fun e w' => ∃ r : Int, e = .returned (.int .i64 r) ∧ I64 r ∧ CG w0 W w' g := by
  go_enter Try.func73, Try.ntmps73
  go_wp2_with (first | (go_at_call 71; refine (below_g _ (by omega) (by repeat (first | assumption | apply CG.alloc | apply CG.drewN | apply CG.drew))).mono ?_; rintro e w1 ⟨r, rfl, hr, hc⟩) | (go_at_call 105; refine (pick_g I64 (by decide) (by decide) (cg_ne (by assumption)) (lit_cells _ [(-1), 0, 127, 128, 16383, 16384, 1000000000, 1000000001, 9223372036854775807, (-9223372036854775808)] _ _ (by simp [I64])) (by repeat (first | assumption | apply CG.alloc | apply CG.drewN | apply CG.drew))).mono ?_; rintro e w1 ⟨r, rfl, hr, hc⟩))
  all_goals (go_ret; exact ⟨_, rfl, by first | assumption | (unfold I64; omega), by assumption⟩)

/-- the word fits the kind -/
def Fit (k : FloatKind) (r : Nat) : Prop := r < 2 ^ k.format.width
instance (k : FloatKind) (r : Nat) : Decidable (Fit k r) := inferInstanceAs (Decidable (r < 2 ^ k.format.width))
theorem fit_ofInt (k : FloatKind) (n : Int) : Fit k (floatOfInt k n) := encode_lt k (.number (n < 0) n.natAbs 0)
theorem FIs.fit {k : FloatKind} {r : Nat} {c : Option Nat} (h : FIs k r c) : Fit k r := h.2
theorem Cvt.fit {s k : FloatKind} {x r : Nat} (h : Cvt s k x r) : Fit k r := h.1
theorem run_neg {P : Program} (k : FloatKind) (b : Nat) (w : World) : (Op.unary .neg (.float k b)).run P w = .ok (.float k (Op.negFloat k b)) w := rfl
theorem fit_neg {k : FloatKind} {r : Nat} (h : Fit k r) : Fit k (Op.negFloat k r) := by
  unfold Fit Op.negFloat at *
  refine Nat.xor_lt_two_pow h ?_
  cases k <;> decide
theorem CG.below {w0 W w : World} {g : Nat} (h : CG w0 W w g) : Below W.heap.size W w := h.1.below

set_option maxHeartbeats 1000000 in
set_option maxRecDepth 100000 in
theorem odd_g {w0 W w : World} {g : Nat} (h : CG w0 W w g) :
    Calls Try.prog 110 #[.pointer (some ⟨g, 0, none⟩)] w fun e w' => ∃ r, e = .returned (.float .f64 r) ∧ Fit .f64 r ∧ CG w0 W w' g := by
  have hneg := run_neg (P := Try.prog)
  go_enter Try.func110, Try.ntmps110
  go_wp2_with (first | (go_at_call 71; refine (below_g _ (by omega) (by repeat (first | assumption | apply CG.alloc | apply CG.drewN | apply CG.drew))).mono ?_; rintro e w1 ⟨r, rfl, hr, hc⟩) | (refine wpList_farith rfl _ _ _ _ _ rfl rfl _ _ _ rfl rfl ?_; intro r n hr))
  all_goals (go_ret; exact ⟨_, rfl, (by first | first | assumption | exact FIs.fit (by assumption) | exact Cvt.fit (by assumption) | exact fit_ofInt _ _ | decide | (refine fit_neg ?_; first | assumption | exact FIs.fit (by assumption) | exact Cvt.fit (by assumption) | exact fit_ofInt _ _ | decide)), (by repeat (first | assumption | apply CG.alloc | apply CG.drewN | apply CG.drew))⟩)

set_option maxHeartbeats 1000000 in
set_option maxRecDepth 100000 in
theorem real_g {w0 W w : World} {g : Nat} (m : Int) (hm0 : 0 ≤ m ∧ m ≤ 1000000) (h : CG w0 W w g) :
    Calls Try.prog 112 #[.pointer (some ⟨g, 0, none⟩), .int .i64 m] w fun e w' => ∃ r, e = .returned (.float .f64 r) ∧ Fit .f64 r ∧ CG w0 W w' g := by
  obtain ⟨hm0, hm1⟩ := hm0
  have hneg := run_neg (P := Try.prog)
  go_enter Try.func112, Try.ntmps112
  go_wp2_with (first | (go_at_call 71; refine (below_g _ (by omega) (by repeat (first | assumption | apply CG.alloc | apply CG.drewN | apply CG.drew))).mono ?_; rintro e w1 ⟨r, rfl, hr, hc⟩) | (go_at_call 72; refine (once_g _ (by omega) (by repeat (first | assumption | apply CG.alloc | apply CG.drewN | apply CG.drew))).mono ?_; rintro e w1 ⟨b, rfl, hc⟩) | (go_at_call 110; refine (odd_g (by repeat (first | assumption | apply CG.alloc | apply CG.drewN | apply CG.drew))).mono ?_; rintro e w1 ⟨r, rfl, hr, hc⟩) | (refine wpList_farith rfl _ _ _ _ _ rfl rfl _ _ _ rfl rfl ?_; intro r n hr))
  all_goals (go_ret; exact ⟨_, rfl, (by first | first | assumption | exact FIs.fit (by assumption) | exact Cvt.fit (by assumption) | exact fit_ofInt _ _ | decide | (refine fit_neg ?_; first | assumption | exact FIs.fit (by assumption) | exact Cvt.fit (by assumption) | exact fit_ofInt _ _ | decide)), (by repeat (first | assumption | apply CG.alloc | apply CG.drewN | apply CG.drew))⟩)

set_option maxHeartbeats 1000000 in
theorem single_g {w0 W w : World} {g : Nat} (m : Int) (hm0 : 0 ≤ m ∧ m ≤ 1000000) (h : CG w0 W w g) :
    Calls Try.prog 111 #[.pointer (some ⟨g, 0, none⟩), .int .i64 m] w fun e w' => ∃ r, e = .returned (.float .f32 r) ∧ Fit .f32 r ∧ CG w0 W w' g := by
  have HM := hid hm0
  clear hm0
  go_enter Try.func111, Try.ntmps111
  go_wp2_with (first | (go_at_call 112; refine (real_g _ HM.out (by repeat (first | assumption | apply CG.alloc | apply CG.drewN | apply CG.drew))).mono ?_; rintro e w1 ⟨r, rfl, hr, hc⟩) | (refine wpList_fconv rfl _ _ _ rfl .f64 .f32 _ rfl Try.underlying22 Try.underlying39 (by decide) ?_; intro r n hr))
  all_goals (go_ret; exact ⟨_, rfl, (by first | first | assumption | exact FIs.fit (by assumption) | exact Cvt.fit (by assumption) | exact fit_ofInt _ _ | decide | (refine fit_neg ?_; first | assumption | exact FIs.fit (by assumption) | exact Cvt.fit (by assumption) | exact fit_ofInt _ _ | decide)), (by repeat (first | assumption | apply CG.alloc | apply CG.drewN | apply CG.drew))⟩)

set_option maxHeartbeats 1000000 in
theorem vector_g {w0 W w : World} {g : Nat} (m : Int) (hm0 : 0 ≤ m ∧ m ≤ 1000000) (h : CG w0 W w g) :
    Calls Try.prog 95 #[.pointer (some ⟨g, 0, none⟩), .int .i64 m] w fun e w' => ∃ r q, e = .returned (.complex .f64 r q) ∧ Fit .f64 r ∧ Fit .f64 q ∧ CG w0 W w' g := by
  have HM := hid hm0
  clear hm0
  go_enter Try.func95, Try.ntmps95
  go_wp2_with (go_at_call 112; refine (real_g _ HM.out (by repeat (first | assumption | apply CG.alloc | apply CG.drewN | apply CG.drew))).mono ?_; rintro e w1 ⟨r, rfl, hr, hc⟩)
  all_goals (go_ret; exact ⟨_, _, rfl, (by first | first | assumption | exact FIs.fit (by assumption) | exact Cvt.fit (by assumption) | exact fit_ofInt _ _ | decide | (refine fit_neg ?_; first | assumption | exact FIs.fit (by assumption) | exact Cvt.fit (by assumption) | exact fit_ofInt _ _ | decide)), (by first | first | assumption | exact FIs.fit (by assumption) | exact Cvt.fit (by assumption) | exact fit_ofInt _ _ | decide | (refine fit_neg ?_; first | assumption | exact FIs.fit (by assumption) | exact Cvt.fit (by assumption) | exact fit_ofInt _ _ | decide)), (by repeat (first | assumption | apply CG.alloc | apply CG.drewN | apply CG.drew))⟩)

set_option maxHeartbeats 1000000 in
set_option maxRecDepth 100000 in
theorem air_g {w0 W w : World} {g : Nat} (h : CG w0 W w g) :
    Calls Try.prog 85 #[.pointer (some ⟨g, 0, none⟩)] w fun e w' => ∃ r q, e = .returned (.complex .f32 r q) ∧ Fit .f32 r ∧ Fit .f32 q ∧ CG w0 W w' g := by
  go_enter Try.func85, Try.ntmps85
  go_wp2_with (first | (go_at_call 72; refine (once_g _ (by omega) (by repeat (first | assumption | apply CG.alloc | apply CG.drewN | apply CG.drew))).mono ?_; rintro e w1 ⟨b, rfl, hc⟩) | (go_at_call 110; refine (odd_g (by repeat (first | assumption | apply CG.alloc | apply CG.drewN | apply CG.drew))).mono ?_; rintro e w1 ⟨r, rfl, hr, hc⟩) | (go_at_call 111; refine (single_g _ (by omega) (by repeat (first | assumption | apply CG.alloc | apply CG.drewN | apply CG.drew))).mono ?_; rintro e w1 ⟨r, rfl, hr, hc⟩) | (go_at_call 105; refine (pick_g I64 (by decide) (by decide) (cg_ne (by assumption)) (lit_cells _ [100, -100, 101, 0] _ _ (by simp [I64])) (by repeat (first | assumption | apply CG.alloc | apply CG.drewN | apply CG.drew))).mono ?_; rintro e w1 ⟨r, rfl, hr, hc⟩) | (refine wpList_fconv rfl _ _ _ rfl .f64 .f32 _ rfl Try.underlying22 Try.underlying39 (by decide) ?_; intro r n hr))
  all_goals (go_ret; exact ⟨_, _, rfl, (by first | first | assumption | exact FIs.fit (by assumption) | exact Cvt.fit (by assumption) | exact fit_ofInt _ _ | decide | (refine fit_neg ?_; first | assumption | exact FIs.fit (by assumption) | exact Cvt.fit (by assumption) | exact fit_ofInt _ _ | decide)), (by first | first | assumption | exact FIs.fit (by assumption) | exact Cvt.fit (by assumption) | exact fit_ofInt _ _ | decide | (refine fit_neg ?_; first | assumption | exact FIs.fit (by assumption) | exact Cvt.fit (by assumption) | exact fit_ofInt _ _ | decide)), (by repeat (first | assumption | apply CG.alloc | apply CG.drewN | apply CG.drew))⟩)

set_option maxHeartbeats 1000000 in
set_option maxRecDepth 100000 in
theorem part_g {w0 W w : World} {g : Nat} (h : CG w0 W w g) :
    Calls Try.prog 90 #[.pointer (some ⟨g, 0, none⟩)] w fun e w' => ∃ r, e = .returned (.float .f32 r) ∧ Fit .f32 r ∧ CG w0 W w' g := by
  go_enter Try.func90, Try.ntmps90
  go_wp2_with (first | (go_at_call 71; refine (below_g _ (by omega) (by repeat (first | assumption | apply CG.alloc | apply CG.drewN | apply CG.drew))).mono ?_; rintro e w1 ⟨r, rfl, hr, hc⟩) | (go_at_call 111; refine (single_g _ (by omega) (by repeat (first | assumption | apply CG.alloc | apply CG.drewN | apply CG.drew))).mono ?_; rintro e w1 ⟨r, rfl, hr, hc⟩) | (refine wpList_farith rfl _ _ _ _ _ rfl rfl _ _ _ rfl rfl ?_; intro r n hr))
  all_goals (go_ret; exact ⟨_, rfl, (by first | first | assumption | exact FIs.fit (by assumption) | exact Cvt.fit (by assumption) | exact fit_ofInt _ _ | decide | (refine fit_neg ?_; first | assumption | exact FIs.fit (by assumption) | exact Cvt.fit (by assumption) | exact fit_ofInt _ _ | decide)), (by repeat (first | assumption | apply CG.alloc | apply CG.drewN | apply CG.drew))⟩)

theorem degrees_g {w0 W w : World} {g : Nat} (h : CG w0 W w g) :
    Calls Try.prog 80 #[.pointer (some ⟨g, 0, none⟩)] w fun e w' => ∃ r : Int, e = .returned (.int .i64 r) ∧ CG w0 W w' g := by
  go_enter Try.func80, Try.ntmps80
  go_wp2_with (first | (go_at_call 72; refine (once_g _ (by omega) (by repeat (first | assumption | apply CG.alloc | apply CG.drewN | apply CG.drew))).mono ?_; rintro e w1 ⟨b, rfl, hc⟩) | (go_at_call 71; refine (below_g _ (by omega) (by repeat (first | assumption | apply CG.alloc | apply CG.drewN | apply CG.drew))).mono ?_; rintro e w1 ⟨r, rfl, hr, hc⟩) | (go_at_call 73; refine (number_g (by repeat (first | assumption | apply CG.alloc | apply CG.drewN | apply CG.drew))).mono ?_; rintro e w1 ⟨r, rfl, hr, hc⟩))
  all_goals (go_ret; exact ⟨_, rfl, (by repeat (first | assumption | apply CG.alloc | apply CG.drewN | apply CG.drew))⟩)

section
variable {W w : World} {A : Option Addr} {n : Nat} (c : Nat) (hr : RdB W A n) (hB : Below W.heap.size W w)
include hr hB

theorem dTurn : Calls Try.prog 40 #[.slice A n c] w fun e w' => ∃ r : Int, e = .returned (.int .i64 r) ∧ Below W.heap.size W w' := by
  go_enter Try.func40, Try.ntmps40
  go_wp2_with (first | (go_at_call 70; refine (new_any W _ _ _ _ (by assumption) (by first | assumption | exact Below.refl _ _)).mono ?_; rintro e w1 ⟨g, rfl, hc0, _⟩; have hc := CG.start hc0; clear hc0) | (go_at_call 80; refine (degrees_g (by repeat (first | assumption | apply CG.alloc | apply CG.drewN | apply CG.drew))).mono ?_; rintro e w1 ⟨r, rfl, hc⟩))
  all_goals (go_ret; exact ⟨_, rfl, CG.below (by repeat (first | assumption | apply CG.alloc | apply CG.drewN | apply CG.drew))⟩)

set_option maxHeartbeats 1000000 in
set_option maxRecDepth 100000 in
theorem dFormatFixed : Calls Try.prog 89 #[.slice A n c] w fun e w' => ∃ r : Int, e = .returned (.int .i64 r) ∧ I64 r ∧ Below W.heap.size W w' := by
  go_enter Try.func89, Try.ntmps89
  go_wp2_with (first | (go_at_call 70; refine (new_any W _ _ _ _ (by assumption) (by first | assumption | exact Below.refl _ _)).mono ?_; rintro e w1 ⟨g, rfl, hc0, _⟩; have hc := CG.start hc0; clear hc0) | (go_at_call 71; refine (below_g _ (by omega) (by repeat (first | assumption | apply CG.alloc | apply CG.drewN | apply CG.drew))).mono ?_; rintro e w1 ⟨r, rfl, hr, hc⟩) | (go_at_call 73; refine (number_g (by repeat (first | assumption | apply CG.alloc | apply CG.drewN | apply CG.drew))).mono ?_; rintro e w1 ⟨r, rfl, hr, hc⟩) | (go_at_call 105; refine (pick_g I64 (by decide) (by decide) (cg_ne (by assumption)) (lit_cells _ [1000000000, 1000000001, -1000000000, -1000000001, 999, 1000, -1] _ _ (by simp [I64])) (by repeat (first | assumption | apply CG.alloc | apply CG.drewN | apply CG.drew))).mono ?_; rintro e w1 ⟨r, rfl, hr, hc⟩))
  all_goals (go_ret; exact ⟨_, rfl, by first | assumption | (unfold I64; omega), CG.below (by repeat (first | assumption | apply CG.alloc | apply CG.drewN | apply CG.drew))⟩)

theorem dFromFixed : Calls Try.prog 45 #[.slice A n c] w fun e w' => ∃ r : Int, e = .returned (.int .i64 r) ∧ I64 r ∧ Below W.heap.size W w' := by
  go_enter Try.func45, Try.ntmps45
  go_wp2_with (go_at_call 89; refine (dFormatFixed _ hr hB).mono ?_; rintro e w1 ⟨r, rfl, hi, hb⟩)
  all_goals (go_ret; exact ⟨_, rfl, by assumption, by assumption⟩)

set_option maxHeartbeats 1000000 in
set_option maxRecDepth 100000 in
theorem dVectorOk : Calls Try.prog 94 #[.slice A n c] w fun e w' => ∃ r q, e = .returned (.complex .f64 r q) ∧ Fit .f64 r ∧ Fit .f64 q ∧ Below W.heap.size W w' := by
  go_enter Try.func94, Try.ntmps94
  go_wp2_with (first | (go_at_call 70; refine (new_any W _ _ _ _ (by assumption) (by first | assumption | exact Below.refl _ _)).mono ?_; rintro e w1 ⟨g, rfl, hc0, _⟩; have hc := CG.start hc0; clear hc0) | (go_at_call 71; refine (below_g _ (by omega) (by repeat (first | assumption | apply CG.alloc | apply CG.drewN | apply CG.drew))).mono ?_; rintro e w1 ⟨r, rfl, hr, hc⟩) | (go_at_call 95; refine (vector_g _ (by omega) (by repeat (first | assumption | apply CG.alloc | apply CG.drewN | apply CG.drew))).mono ?_; rintro e w1 ⟨r, q, rfl, hr, hq, hc⟩) | (go_at_call 110; refine (odd_g (by repeat (first | assumption | apply CG.alloc | apply CG.drewN | apply CG.drew))).mono ?_; rintro e w1 ⟨r, rfl, hr, hc⟩))
  all_goals (go_ret; exact ⟨_, _, rfl, (by first | first | assumption | exact FIs.fit (by assumption) | exact Cvt.fit (by assumption) | exact fit_ofInt _ _ | decide | (refine fit_neg ?_; first | assumption | exact FIs.fit (by assumption) | exact Cvt.fit (by assumption) | exact fit_ofInt _ _ | decide)), (by first | first | assumption | exact FIs.fit (by assumption) | exact Cvt.fit (by assumption) | exact fit_ofInt _ _ | decide | (refine fit_neg ?_; first | assumption | exact FIs.fit (by assumption) | exact Cvt.fit (by assumption) | exact fit_ofInt _ _ | decide)), CG.below (by repeat (first | assumption | apply CG.alloc | apply CG.drewN | apply CG.drew))⟩)

theorem dUnit : Calls Try.prog 49 #[.slice A n c] w fun e w' => ∃ r q, e = .returned (.complex .f64 r q) ∧ Fit .f64 r ∧ Fit .f64 q ∧ Below W.heap.size W w' := by
  go_enter Try.func49, Try.ntmps49
  go_wp2_with (go_at_call 94; refine (dVectorOk _ hr hB).mono ?_; rintro e w1 ⟨r, q, rfl, hr, hq, hb⟩)
  all_goals (go_ret; exact ⟨_, _, rfl, by assumption, by assumption, by assumption⟩)

theorem dFromOf : Calls Try.prog 42 #[.slice A n c] w fun e w' => ∃ r q, e = .returned (.complex .f32 r q) ∧ Fit .f32 r ∧ Fit .f32 q ∧ Below W.heap.size W w' := by
  go_enter Try.func42, Try.ntmps42
  go_wp2_with (first | (go_at_call 70; refine (new_any W _ _ _ _ (by assumption) (by first | assumption | exact Below.refl _ _)).mono ?_; rintro e w1 ⟨g, rfl, hc0, _⟩; have hc := CG.start hc0; clear hc0) | (go_at_call 85; refine (air_g (by repeat (first | assumption | apply CG.alloc | apply CG.drewN | apply CG.drew))).mono ?_; rintro e w1 ⟨r, q, rfl, hr, hq, hc⟩))
  all_goals (go_ret; exact ⟨_, _, rfl, (by first | first | assumption | exact FIs.fit (by assumption) | exact Cvt.fit (by assumption) | exact fit_ofInt _ _ | decide | (refine fit_neg ?_; first | assumption | exact FIs.fit (by assumption) | exact Cvt.fit (by assumption) | exact fit_ofInt _ _ | decide)), (by first | first | assumption | exact FIs.fit (by assumption) | exact Cvt.fit (by assumption) | exact fit_ofInt _ _ | decide | (refine fit_neg ?_; first | assumption | exact FIs.fit (by assumption) | exact Cvt.fit (by assumption) | exact fit_ofInt _ _ | decide)), CG.below (by repeat (first | assumption | apply CG.alloc | apply CG.drewN | apply CG.drew))⟩)

set_option maxHeartbeats 1000000 in
theorem dDamp : Calls Try.prog 46 #[.slice A n c] w fun e w' => ∃ a b x y k, e = .returned (.tuple #[.complex .f32 a b, .complex .f32 x y, .float .f32 k]) ∧ (Fit .f32 a ∧ Fit .f32 b ∧ Fit .f32 x ∧ Fit .f32 y ∧ Fit .f32 k) ∧ Below W.heap.size W w' := by
  go_enter Try.func46, Try.ntmps46
  go_wp2_with (first | (go_at_call 70; refine (new_any W _ _ _ _ (by assumption) (by first | assumption | exact Below.refl _ _)).mono ?_; rintro e w1 ⟨g, rfl, hc0, _⟩; have hc := CG.start hc0; clear hc0) | (go_at_call 85; refine (air_g (by repeat (first | assumption | apply CG.alloc | apply CG.drewN | apply CG.drew))).mono ?_; rintro e w1 ⟨r, q, rfl, hr, hq, hc⟩) | (go_at_call 90; refine (part_g (by repeat (first | assumption | apply CG.alloc | apply CG.drewN | apply CG.drew))).mono ?_; rintro e w1 ⟨r, rfl, hr, hc⟩))
  all_goals (go_ret3; exact ⟨_, _, _, _, _, rfl, ⟨by assumption, by assumption, by assumption, by assumption, by assumption⟩, CG.below (by repeat (first | assumption | apply CG.alloc | apply CG.drewN | apply CG.drew))⟩)

set_option maxHeartbeats 1000000 in
theorem dApparent : Calls Try.prog 100 #[.slice A n c] w fun e w' => ∃ a b x y, e = .returned (.tuple #[.complex .f32 a b, .complex .f32 x y]) ∧ (Fit .f32 a ∧ Fit .f32 b ∧ Fit .f32 x ∧ Fit .f32 y) ∧ Below W.heap.size W w' := by
  go_enter Try.func100, Try.ntmps100
  go_wp2_with (first | (go_at_call 70; refine (new_any W _ _ _ _ (by assumption) (by first | assumption | exact Below.refl _ _)).mono ?_; rintro e w1 ⟨g, rfl, hc0, _⟩; have hc := CG.start hc0; clear hc0) | (go_at_call 85; refine (air_g (by repeat (first | assumption | apply CG.alloc | apply CG.drewN | apply CG.drew))).mono ?_; rintro e w1 ⟨r, q, rfl, hr, hq, hc⟩) | (go_at_call 72; refine (once_g _ (by omega) (by repeat (first | assumption | apply CG.alloc | apply CG.drewN | apply CG.drew))).mono ?_; rintro e w1 ⟨b, rfl, hc⟩))
  all_goals (go_ret2; exact ⟨_, _, _, _, rfl, ⟨by assumption, by assumption, by assumption, by assumption⟩, CG.below (by repeat (first | assumption | apply CG.alloc | apply CG.drewN | apply CG.drew))⟩)

theorem dVeer : Calls Try.prog 60 #[.slice A n c] w fun e w' => ∃ a b x y, e = .returned (.tuple #[.complex .f32 a b, .complex .f32 x y]) ∧ (Fit .f32 a ∧ Fit .f32 b ∧ Fit .f32 x ∧ Fit .f32 y) ∧ Below W.heap.size W w' := by
  go_enter Try.func60, Try.ntmps60
  go_wp2_with (go_at_call 100; refine (dApparent _ hr hB).mono ?_; rintro e w1 ⟨a, b, x, y, rfl, hf, hb⟩)
  all_goals (go_ret2; exact ⟨_, _, _, _, rfl, hf, by assumption⟩)

theorem dClamp : Calls Try.prog 29 #[.slice A n c] w fun e w' => ∃ x y z : Int, e = .returned (.tuple #[.int .i64 x, .int .i64 y, .int .i64 z]) ∧ Below W.heap.size W w' := by
  go_enter Try.func29, Try.ntmps29
  go_wp2_with (first | (go_at_call 70; refine (new_any W _ _ _ _ (by assumption) (by first | assumption | exact Below.refl _ _)).mono ?_; rintro e w1 ⟨g, rfl, hc0, _⟩; have hc := CG.start hc0; clear hc0) | (go_at_call 72; refine (once_g _ (by omega) (by repeat (first | assumption | apply CG.alloc | apply CG.drewN | apply CG.drew))).mono ?_; rintro e w1 ⟨b, rfl, hc⟩) | (go_at_call 73; refine (number_g (by repeat (first | assumption | apply CG.alloc | apply CG.drewN | apply CG.drew))).mono ?_; rintro e w1 ⟨r, rfl, hr, hc⟩) | (go_at_call 71; refine (below_g _ (by omega) (by repeat (first | assumption | apply CG.alloc | apply CG.drewN | apply CG.drew))).mono ?_; rintro e w1 ⟨r, rfl, hr, hc⟩))
  all_goals (go_ret3; exact ⟨_, _, _, rfl, CG.below (by repeat (first | assumption | apply CG.alloc | apply CG.drewN | apply CG.drew))⟩)

theorem dBetween : Calls Try.prog 76 #[.slice A n c] w fun e w' => ∃ x y : Int, e = .returned (.tuple #[.int .i64 x, .int .i64 y]) ∧ Below W.heap.size W w' := by
  go_enter Try.func76, Try.ntmps76
  go_wp2_with (first | (go_at_call 70; refine (new_any W _ _ _ _ (by assumption) (by first | assumption | exact Below.refl _ _)).mono ?_; rintro e w1 ⟨g, rfl, hc0, _⟩; have hc := CG.start hc0; clear hc0) | (go_at_call 72; refine (once_g _ (by omega) (by repeat (first | assumption | apply CG.alloc | apply CG.drewN | apply CG.drew))).mono ?_; rintro e w1 ⟨b, rfl, hc⟩) | (go_at_call 80; refine (degrees_g (by repeat (first | assumption | apply CG.alloc | apply CG.drewN | apply CG.drew))).mono ?_; rintro e w1 ⟨r, rfl, hc⟩))
  all_goals (go_ret2; exact ⟨_, _, rfl, CG.below (by repeat (first | assumption | apply CG.alloc | apply CG.drewN | apply CG.drew))⟩)

theorem dAside : Calls Try.prog 34 #[.slice A n c] w fun e w' => ∃ x y : Int, e = .returned (.tuple #[.int .i64 x, .int .i64 y]) ∧ Below W.heap.size W w' := by
  go_enter Try.func34, Try.ntmps34
  go_wp2_with (go_at_call 76; refine (dBetween _ hr hB).mono ?_; rintro e w1 ⟨x, y, rfl, hb⟩)
  all_goals (go_ret2; exact ⟨_, _, rfl, by assumption⟩)
end

end Go.Proofs.Ytjllidnkndhgmaa
