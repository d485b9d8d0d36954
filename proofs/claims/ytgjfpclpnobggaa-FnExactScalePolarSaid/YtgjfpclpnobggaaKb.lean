/- Contracts of the functions that draw: each answers some value of its kind, in its range, and writes nothing but its cursor. -/
import Derived.Test.YtgjfpclpnobggaaPw
namespace Go.Proofs.Ytgjfpclpnobggaa
open Go.RowKit

/-- the cursor g, and what has turned since w0 -/
def CG (w0 W w : World) (g : Nat) : Prop := Cur W w g ∧ w0.grownBy w (some g)
theorem grown_alloc (w : World) (o : Obj) (r : Option Nat) : w.grownBy (w.alloc o) r := ⟨rfl, rfl, rfl, by simp, fun k hk _ => Below.heap_alloc _ _ _ hk⟩
theorem Cur.alloc {W w : World} {g : Nat} (h : Cur W w g) (o : Obj) : Cur W (w.alloc o) g := by
  obtain ⟨A, n, c, i, h0, hb, hg, h1, h2, hr, hB⟩ := h
  exact ⟨A, n, c, i, h0, (Below.heap_alloc _ _ _ (lt_of_block hb)).trans hb, hg, h1, h2, hr, hB.alloc hB.size o⟩
theorem CG.alloc {w0 W w : World} {g : Nat} (h : CG w0 W w g) (o : Obj) : CG w0 W (w.alloc o) g := ⟨h.1.alloc o, grown_trans h.2 (grown_alloc _ _ _)⟩
theorem CG.drewN {w0 W w : World} {g : Nat} (h : CG w0 W w g) (n : Nat) : CG w0 W (w.drewN n) g := ⟨h.1.drewN n, grown_trans h.2 (grown_drewN _ _ _)⟩
theorem CG.drew {w0 W w : World} {g : Nat} (h : CG w0 W w g) : CG w0 W w.drew g := h.drewN 1
theorem CG.start {W w : World} {g : Nat} (h : Cur W w g) : CG w W w g := ⟨h, grown_refl _ _⟩

theorem below_g {w0 W w : World} {g : Nat} (m : Int) (hm : m ≤ 1000000000000) (h : CG w0 W w g) :
    Calls Try.prog 49 #[.pointer (some ⟨g, 0, none⟩), .int .i64 m] w fun e w' => ∃ r : Int, e = .returned (.int .i64 r) ∧ (0 ≤ r ∧ (0 < m → r < m)) ∧ CG w0 W w' g :=
  (below_any W w g m hm h.1).mono fun _ _ ⟨r, he, hr, hc, hg⟩ => ⟨r, he, hr, hc, grown_trans h.2 hg⟩
theorem once_g {w0 W w : World} {g : Nat} (m : Int) (hm : m ≤ 1000000000000) (h : CG w0 W w g) :
    Calls Try.prog 83 #[.pointer (some ⟨g, 0, none⟩), .int .i64 m] w fun e w' => ∃ b : Bool, e = .returned (.bool b) ∧ CG w0 W w' g :=
  (once_any W w g m hm h.1).mono fun _ _ ⟨r, he, hc, hg⟩ => ⟨r, he, hc, grown_trans h.2 hg⟩

theorem add_plain (g j : Nat) : (⟨g, 0, none⟩ : Addr).add j = ⟨g, j, none⟩ := by unfold Addr.add; split <;> simp_all

set_option maxHeartbeats 1000000 in
set_option maxRecDepth 100000 in
theorem pick_g {w0 W w : World} {g : Nat} {b n c : Nat} (Q : Int → Prop) (hn : 0 < n) (hn2 : n ≤ 1000000) (hne : b ≠ g) (hv : ∀ j, j < n → ∃ u : Int, w.cell? ⟨b, j, none⟩ = some (.int .i64 u) ∧ Q u) (h : CG w0 W w g) :
    Calls Try.prog 84 #[.pointer (some ⟨g, 0, none⟩), .slice (some ⟨b, 0, none⟩) n c] w fun e w' => ∃ r : Int, e = .returned (.int .i64 r) ∧ Q r ∧ CG w0 W w' g := by
  have HV := hid hv
  have HC := hid h
  clear hv h
  go_enter Try.func84, Try.ntmps84
  go_wp2_with (go_at_call 49; refine (below_any W _ g _ (by omega) HC.out.1).mono ?_; rintro e w1 ⟨r, rfl, ⟨hr0, hr1⟩, hC1, hg1⟩; have H1 := hid hC1; have G1 := hid hg1; have hr2 := hr1 (by omega); clear hC1 hg1 hr1; obtain ⟨u, hu, hq⟩ := HV.out r.toNat (by omega); have hu1 := (World.cell?_of_block (w := w) (w' := w1) (a := ⟨b, r.toNat, none⟩) (G1.out.block b (World.block_lt_of_cell? w _ hu) (fun e => hne (by cases e; rfl)))).trans hu; clear hu; have HQ := hid hq; clear hq)
  go_ret
  exact ⟨_, rfl, HQ.out, H1.out, grown_trans HC.out.2 G1.out⟩

theorem cg_ne {w0 W w : World} {g : Nat} (h : CG w0 W w g) : w.heap.size ≠ g := Nat.ne_of_gt h.1.lt

def I64 (n : Int) : Prop := -9223372036854775808 ≤ n ∧ n ≤ 9223372036854775807

/-- a literal's numbers, in the block that has just been made -/
theorem lit_cells (w : World) (l : List Int) (t : TypeId) (Q : Int → Prop) (hQ : ∀ x ∈ l, Q x) : ∀ j, j < l.length → ∃ u : Int, (w.alloc (.cells (l.map (Value.int .i64)).toArray t)).cell? ⟨w.heap.size, j, none⟩ = some (.int .i64 u) ∧ Q u := by
  intro j hj
  have hb : (w.alloc (.cells (l.map (Value.int .i64)).toArray t)).heap[w.heap.size]? = some (.cells (l.map (Value.int .i64)).toArray t) := by simpa using heap_alloc_new w _
  refine ⟨l[j], ?_, hQ _ (List.getElem_mem hj)⟩
  rw [block_cell hb j]
  simp [List.getElem?_eq_getElem hj]

set_option maxHeartbeats 1000000 in
set_option maxRecDepth 100000 in
theorem number_g {w0 W w : World} {g : Nat} (h : CG w0 W w g) :
    Calls Try.prog 68 #[.pointer (some ⟨g, 0, none⟩)] w fun e w' => ∃ r : Int, e = .returned (.int .i64 r) ∧ I64 r ∧ CG w0 W w' g := by
  go_enter Try.func68, Try.ntmps68
  go_wp2_with (first | (go_at_call 49; refine (below_g _ (by omega) (by repeat (first | assumption | apply CG.alloc | apply CG.drewN | apply CG.drew))).mono ?_; rintro e w1 ⟨r, rfl, hr, hc⟩) | (go_at_call 84; refine (pick_g I64 (by decide) (by decide) (cg_ne (by assumption)) (lit_cells _ [(-1), 0, 127, 128, 16383, 16384, 1000000000, 1000000001, 9223372036854775807, (-9223372036854775808)] _ _ (by simp [I64])) (by repeat (first | assumption | apply CG.alloc | apply CG.drewN | apply CG.drew))).mono ?_; rintro e w1 ⟨r, rfl, hr, hc⟩))
  all_goals (go_ret; exact ⟨_, rfl, by first | assumption | (unfold I64; omega), by assumption⟩)

/-- the word fits the kind -/
def Fit (k : FloatKind) (r : Nat) : Prop := r < 2 ^ k.format.width
instance (k : FloatKind) (r : Nat) : Decidable (Fit k r) := inferInstanceAs (Decidable (r < 2 ^ k.format.width))
theorem fit_ofInt (k : FloatKind) (n : Int) : Fit k (floatOfInt k n) := encode_lt k (.number (n < 0) n.natAbs 0)
theorem FIs.fit {k : FloatKind} {r : Nat} {c : Option Nat} (h : FIs k r c) : Fit k r := h.2
theorem Cvt.fit {s k : FloatKind} {x r : Nat} (h : Cvt s k x r) : Fit k r := h.1
theorem run_neg {P : Program} (k : FloatKind) (b : Nat) (w : World) : (Op.unary .neg (.float k b)).run P w = .ok (.float k (Op.negFloat k b)) w := rfl
theorem fit_neg {k : FloatKind} {r : Nat} (h : Fit k r) : Fit k (Op.negFloat k r) := by
  unfold Fit Op.negFloat at *
  refine Nat.xor_lt_two_pow h ?_
  cases k <;> decide
theorem CG.below {w0 W w : World} {g : Nat} (h : CG w0 W w g) : Below W.heap.size W w := h.1.below

set_option maxHeartbeats 1000000 in
set_option maxRecDepth 100000 in
theorem odd_g {w0 W w : World} {g : Nat} (h : CG w0 W w g) :
    Calls Try.prog 85 #[.pointer (some ⟨g, 0, none⟩)] w fun e w' => ∃ r, e = .returned (.float .f64 r) ∧ Fit .f64 r ∧ CG w0 W w' g := by
  have hneg := run_neg (P := Try.prog)
  go_enter Try.func85, Try.ntmps85
  go_wp2_with (first | (go_at_call 49; refine (below_g _ (by omega) (by repeat (first | assumption | apply CG.alloc | apply CG.drewN | apply CG.drew))).mono ?_; rintro e w1 ⟨r, rfl, hr, hc⟩) | (refine wpList_farith rfl _ _ _ _ _ rfl rfl _ _ _ rfl rfl ?_; intro r n hr))
  all_goals (go_ret; exact ⟨_, rfl, (by first | first | assumption | exact FIs.fit (by assumption) | exact Cvt.fit (by assumption) | exact fit_ofInt _ _ | decide | (refine fit_neg ?_; first | assumption | exact FIs.fit (by assumption) | exact Cvt.fit (by assumption) | exact fit_ofInt _ _ | decide)), (by repeat (first | assumption | apply CG.alloc | apply CG.drewN | apply CG.drew))⟩)

set_option maxHeartbeats 1000000 in
set_option maxRecDepth 100000 in
theorem real_g {w0 W w : World} {g : Nat} (m : Int) (hm0 : 0 ≤ m ∧ m ≤ 1000000) (h : CG w0 W w g) :
    Calls Try.prog 72 #[.pointer (some ⟨g, 0, none⟩), .int .i64 m] w fun e w' => ∃ r, e = .returned (.float .f64 r) ∧ Fit .f64 r ∧ CG w0 W w' g := by
  obtain ⟨hm0, hm1⟩ := hm0
  have hneg := run_neg (P := Try.prog)
  go_enter Try.func72, Try.ntmps72
  go_wp2_with (first | (go_at_call 49; refine (below_g _ (by omega) (by repeat (first | assumption | apply CG.alloc | apply CG.drewN | apply CG.drew))).mono ?_; rintro e w1 ⟨r, rfl, hr, hc⟩) | (go_at_call 83; refine (once_g _ (by omega) (by repeat (first | assumption | apply CG.alloc | apply CG.drewN | apply CG.drew))).mono ?_; rintro e w1 ⟨b, rfl, hc⟩) | (go_at_call 85; refine (odd_g (by repeat (first | assumption | apply CG.alloc | apply CG.drewN | apply CG.drew))).mono ?_; rintro e w1 ⟨r, rfl, hr, hc⟩) | (refine wpList_farith rfl _ _ _ _ _ rfl rfl _ _ _ rfl rfl ?_; intro r n hr))
  all_goals (go_ret; exact ⟨_, rfl, (by first | first | assumption | exact FIs.fit (by assumption) | exact Cvt.fit (by assumption) | exact fit_ofInt _ _ | decide | (refine fit_neg ?_; first | assumption | exact FIs.fit (by assumption) | exact Cvt.fit (by assumption) | exact fit_ofInt _ _ | decide)), (by repeat (first | assumption | apply CG.alloc | apply CG.drewN | apply CG.drew))⟩)

set_option maxHeartbeats 1000000 in
theorem single_g {w0 W w : World} {g : Nat} (m : Int) (hm0 : 0 ≤ m ∧ m ≤ 1000000) (h : CG w0 W w g) :
    Calls Try.prog 50 #[.pointer (some ⟨g, 0, none⟩), .int .i64 m] w fun e w' => ∃ r, e = .returned (.float .f32 r) ∧ Fit .f32 r ∧ CG w0 W w' g := by
  have HM := hid hm0
  clear hm0
  go_enter Try.func50, Try.ntmps50
  go_wp2_with (first | (go_at_call 72; refine (real_g _ HM.out (by repeat (first | assumption | apply CG.alloc | apply CG.drewN | apply CG.drew))).mono ?_; rintro e w1 ⟨r, rfl, hr, hc⟩) | (refine wpList_fconv rfl _ _ _ rfl .f64 .f32 _ rfl Try.underlying40 Try.underlying36 (by decide) ?_; intro r n hr))
  all_goals (go_ret; exact ⟨_, rfl, (by first | first | assumption | exact FIs.fit (by assumption) | exact Cvt.fit (by assumption) | exact fit_ofInt _ _ | decide | (refine fit_neg ?_; first | assumption | exact FIs.fit (by assumption) | exact Cvt.fit (by assumption) | exact fit_ofInt _ _ | decide)), (by repeat (first | assumption | apply CG.alloc | apply CG.drewN | apply CG.drew))⟩)

set_option maxHeartbeats 1000000 in
set_option maxRecDepth 100000 in
theorem part_g {w0 W w : World} {g : Nat} (h : CG w0 W w g) :
    Calls Try.prog 51 #[.pointer (some ⟨g, 0, none⟩)] w fun e w' => ∃ r, e = .returned (.float .f32 r) ∧ Fit .f32 r ∧ CG w0 W w' g := by
  go_enter Try.func51, Try.ntmps51
  go_wp2_with (first | (go_at_call 49; refine (below_g _ (by omega) (by repeat (first | assumption | apply CG.alloc | apply CG.drewN | apply CG.drew))).mono ?_; rintro e w1 ⟨r, rfl, hr, hc⟩) | (go_at_call 50; refine (single_g _ (by omega) (by repeat (first | assumption | apply CG.alloc | apply CG.drewN | apply CG.drew))).mono ?_; rintro e w1 ⟨r, rfl, hr, hc⟩) | (refine wpList_farith rfl _ _ _ _ _ rfl rfl _ _ _ rfl rfl ?_; intro r n hr))
  all_goals (go_ret; exact ⟨_, rfl, (by first | first | assumption | exact FIs.fit (by assumption) | exact Cvt.fit (by assumption) | exact fit_ofInt _ _ | decide | (refine fit_neg ?_; first | assumption | exact FIs.fit (by assumption) | exact Cvt.fit (by assumption) | exact fit_ofInt _ _ | decide)), (by repeat (first | assumption | apply CG.alloc | apply CG.drewN | apply CG.drew))⟩)

end Go.Proofs.Ytgjfpclpnobggaa
