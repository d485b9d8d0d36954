/- Bearing of the first side, its closure by a contract. -/
import Derived.Test.YtjllidnkndhgmaaBe
namespace Go.Proofs.Ytjllidnkndhgmaa
open Go.RowKit

theorem heap_alloc_push {w : World} {k : Nat} {o x : Obj} (h : w.heap[k]? = some x) : (w.alloc o).heap[k]? = some x := by
  have hlt : k < w.heap.size := (Array.getElem?_eq_some_iff.1 h).1
  show (w.heap.push o)[k]? = some x
  rw [Array.getElem?_push_lt hlt, ← h, Array.getElem?_eq_getElem hlt]

/-- the three variables that the closure captures -/
def BI (B : Nat) (W w : World) (bz bm bb a b : Nat) (st : Nat × Option Nat) : Prop :=
  ∃ m, w.heap[bz]? = some (.cells #[.complex .f64 a b] 28 (0, 0)) ∧ w.heap[bm]? = some (.cells #[.float .f64 m] 22 (0, 0)) ∧ w.heap[bb]? = some (.cells #[.int .i64 st.1] 3 (0, 0)) ∧
    FIs .f64 m st.2 ∧ B ≤ bz ∧ B ≤ bm ∧ B ≤ bb ∧ bz ≠ bm ∧ bz ≠ bb ∧ bm ≠ bb ∧ Below B W w

def nxt (k : Nat) (d : Option Nat) (st : Nat × Option Nat) : Nat × Option Nat := if k = 0 ∨ gtO d st.2 = true then (k, d) else st

theorem BI.drewN {B : Nat} {W w : World} {bz bm bb a b : Nat} {st : Nat × Option Nat} (h : BI B W w bz bm bb a b st) (n : Nat) : BI B W (w.drewN n) bz bm bb a b st := by
  obtain ⟨m, h1, h2, h3, hm, b1, b2, b3, n1, n2, n3, hB⟩ := h
  exact ⟨m, h1, h2, h3, hm, b1, b2, b3, n1, n2, n3, below_drewN hB n⟩

theorem BI.set {B : Nat} {W w : World} {bz bm bb a b : Nat} {st : Nat × Option Nat} (h : BI B W w bz bm bb a b st) {k r : Nat} {d : Option Nat} (hr : FIs .f64 r d) :
    BI B W ((w.setCell ⟨bb, 0, none⟩ (.int .i64 k)).setCell ⟨bm, 0, none⟩ (.float .f64 r)) bz bm bb a b (k, d) := by
  obtain ⟨m, h1, h2, h3, hm, b1, b2, b3, n1, n2, n3, hB⟩ := h
  have e2 : (w.setCell ⟨bb, 0, none⟩ (.int .i64 k)).heap[bm]? = some (.cells #[.float .f64 m] 22 (0, 0)) := (Below.heap_setCell _ _ _ _ n3).trans h2
  refine ⟨r, ?_, by simpa using block_set e2 0 (.float .f64 r), ?_, hr, b1, b2, b3, n1, n2, n3, (hB.setCell b3 _).setCell b2 _⟩
  · exact (Below.heap_setCell _ _ _ _ n1).trans ((Below.heap_setCell _ _ _ _ n2).trans h1)
  · exact (Below.heap_setCell _ _ _ _ (Ne.symm n3)).trans (by simpa using block_set h3 0 (.int .i64 k))

set_option maxHeartbeats 2000000 in
set_option maxRecDepth 100000 in
theorem clo (B : Nat) (W : World) (bz bm bb a b : Nat) (st : Nat × Option Nat) (k x y : Nat) (w : World) (h : BI B W w bz bm bb a b st) :
    Calls Try.prog 83 #[.int .i64 k, .complex .f64 x y, .pointer (some ⟨bz, 0, none⟩), .pointer (some ⟨bm, 0, none⟩), .pointer (some ⟨bb, 0, none⟩)] w fun e w' => e = .returned (.tuple #[]) ∧
      BI B W w' bz bm bb a b (nxt k (dotC (fc .f64 a) (fc .f64 b) (fc .f64 x) (fc .f64 y)) st) := by
  have HI := hid h
  obtain ⟨m, h1, h2, h3, hm, b1, b2, b3, n1, n2, n3, hB⟩ := h
  have c1 : w.cell? ⟨bz, 0, none⟩ = some (.complex .f64 a b) := (block_cell h1 0).trans rfl
  have c2 : w.cell? ⟨bm, 0, none⟩ = some (.float .f64 m) := (block_cell h2 0).trans rfl
  have c3 : w.cell? ⟨bb, 0, none⟩ = some (.int .i64 st.1) := (block_cell h3 0).trans rfl
  have f2 := block_free h2 0
  have f3 := block_free h3 0
  have HM := hid hm
  have hw2 : ∀ n v, ((w.drewN n).setCell ⟨bb, 0, none⟩ v).heap[bm]? = some (.cells #[.float .f64 m] 22 (0, 0)) := fun n v => (Below.heap_setCell _ _ _ _ n3).trans h2
  have c4 : ∀ n v, ((w.drewN n).setCell ⟨bb, 0, none⟩ v).cell? ⟨bm, 0, none⟩ = some (.float .f64 m) := fun n v => (block_cell (hw2 n v) 0).trans rfl
  have f4 : ∀ n v, ((w.drewN n).setCell ⟨bb, 0, none⟩ v).frozen? ⟨bm, 0, none⟩ = false := fun n v => block_free (hw2 n v) 0
  clear h1 h2 h3 hm hB hw2
  have hsf := fun (a : Addr) (n : Nat) (w : World) => run_store Try.prog w a (.float .f64 n) .plain rfl
  go_enter Try.func83, Try.ntmps83
  go_wp2_with fail
  refine (iDot _ _ _ _ _).mono ?_
  rintro e w1 ⟨d, rfl, hd, m1, rfl⟩
  have hg := gtO_of hd HM.out
  have HD := hid hd
  clear hd
  by_cases hk : k = 0
  · have hn := hid (show nxt k (dotC (fc .f64 a) (fc .f64 b) (fc .f64 x) (fc .f64 y)) st = (k, _) from if_pos (.inl hk))
    clear hg
    go_wp2
    go_end0
    exact ⟨rfl, by rw [hn.out]; subst hk; exact (BI.drewN HI.out m1).set (k := 0) HD.out⟩
  · cases hc : gtO (dotC (fc .f64 a) (fc .f64 b) (fc .f64 x) (fc .f64 y)) st.2
    · have hn := hid (show nxt k (dotC (fc .f64 a) (fc .f64 b) (fc .f64 x) (fc .f64 y)) st = st from if_neg (by rw [hc]; simp [hk]))
      rw [hc] at hg
      clear hc
      go_wp2
      go_end0
      exact ⟨rfl, by rw [hn.out]; exact BI.drewN HI.out m1⟩
    · have hn := hid (show nxt k (dotC (fc .f64 a) (fc .f64 b) (fc .f64 x) (fc .f64 y)) st = (k, _) from if_pos (.inr hc))
      rw [hc] at hg
      clear hc
      go_wp2
      go_end0
      exact ⟨rfl, by rw [hn.out]; exact (BI.drewN HI.out m1).set HD.out⟩

/-- how the closure's state stands after the first turns -/
def stF (a b : Nat) : Nat → Nat × Option Nat
  | 0 => (0, fc .f64 0)
  | j + 1 => bearF a b j
theorem stF_next (a b j : Nat) : nxt j (dotT a b j) (stF a b j) = stF a b (j + 1) := by
  cases j with
  | zero => exact if_pos (.inl rfl)
  | succ j => simp only [nxt, stF, bearF, Nat.add_one_ne_zero, false_or]

set_option maxHeartbeats 2000000 in
set_option maxRecDepth 100000 in
theorem iTurnsBy (B : Nat) (W : World) (bz bm bb a b : Nat) (w : World) (h : BI B W w bz bm bb a b (stF a b 0)) :
    Calls Try.prog 82 #[.func (.func 83) #[] #[.pointer (some ⟨bz, 0, none⟩), .pointer (some ⟨bm, 0, none⟩), .pointer (some ⟨bb, 0, none⟩)]] w fun e w' => e = .returned (.tuple #[]) ∧
      BI B W w' bz bm bb a b (stF a b 360) := by
  have HI := hid h
  clear h
  go_enter Try.func82, Try.ntmps82
  go_wp2_with fail
  go_loopw [2, 3] (fun z k wr => ∃ (j x y : Nat), j ≤ 360 ∧ z = .complex .f64 x y ∧ k = .int .i64 (j : Int) ∧ Hid (FIs .f64 x (turnC j).1 ∧ FIs .f64 y (turnC j).2) ∧ Hid (BI B W wr bz bm bb a b (stF a b j))) (fun _ k _ => 400 - (intOf k).toNat)
  case atStart => exact ⟨0, _, _, by omega, rfl, rfl, turn_zero, HI⟩
  case round =>
    obtain ⟨j, x, y, hj, rfl, rfl, HG, HS⟩ := hrel
    by_cases hlt : j < 360
    · go_wp2_with fail
      refine (clo _ _ _ _ _ _ _ _ _ _ _ _ HS.out).mono ?_
      rintro e w2 ⟨rfl, hI⟩
      rw [HG.out.1.1, HG.out.2.1] at hI
      have HI2 := hid hI
      clear hI
      go_wp2_with (go_at_call 69; refine (iTimes _ _ _ _ _).mono ?_; rintro e w1 ⟨r, q, rfl, hr, hq, n1, rfl⟩; have HT := hid (turn_step HG.out.1 HG.out.2 hr hq); clear hr hq)
      go_roundw
      case rel => exact ⟨j + 1, _, _, by omega, rfl, by go_num, HT, by rw [← stF_next]; exact BI.drewN HI2.out _⟩
      case measure => simp [intOf]; omega
    · obtain rfl : j = 360 := by omega
      go_wp2
      go_end0
      exact ⟨rfl, HS.out⟩

set_option maxHeartbeats 2000000 in
set_option maxRecDepth 100000 in
theorem iBearing (a b : Nat) (ha : Fit .f64 a) (hb : Fit .f64 b) (w : World) :
    Calls Try.prog 41 #[.complex .f64 a b] w fun e w' => e = .returned (.int .i64 (bearC a b)) ∧ Below w.heap.size w w' := by
  have HA := hid ha
  have HB := hid hb
  clear ha hb
  have za := isZ_of (FIs.of HA.out)
  have zb := isZ_of (FIs.of HB.out)
  have hmf : ∀ (fn : Fn) (first cap : Array Value) (w : World), (Instr.makeFunc fn first cap).run Try.prog w = .ok (.func fn first cap) w := fun _ _ _ _ => rfl
  have hsf := fun (a : Addr) (n : Nat) (w : World) => run_store Try.prog w a (.float .f64 n) .plain rfl
  go_enter Try.func41, Try.ntmps41
  go_wp2_with fail
  refine (iVectorOk _ _ HA.out HB.out _).mono ?_
  rintro e w1 ⟨rfl, rfl⟩
  have hbc : bearC a b = if vecOk a b && !(isZ (fc .f64 a) && isZ (fc .f64 b)) then ((bearF a b 359).1 : Int) else -1 := rfl
  cases hv : vecOk a b
  · have hb2 : bearC a b = -1 := by rw [hbc, hv]; rfl
    clear hbc za zb
    go_wp2
    go_ret
    exact ⟨by rw [hb2]; rfl, (Below.refl _ _).alloc (Nat.le_refl _) _⟩
  · by_cases hz : isZ (fc .f64 a) = true ∧ isZ (fc .f64 b) = true
    · have hb2 : bearC a b = -1 := by rw [hbc, hv, hz.1, hz.2]; rfl
      rw [hz.1] at za
      rw [hz.2] at zb
      clear hbc hz
      go_wp2
      go_ret
      exact ⟨by rw [hb2]; rfl, (Below.refl _ _).alloc (Nat.le_refl _) _⟩
    · have hb2 : bearC a b = ((bearF a b 359).1 : Int) := by
        rw [hbc, hv]
        cases h1 : isZ (fc .f64 a) <;> cases h2 : isZ (fc .f64 b) <;> simp_all
      have HB2 := hid hb2
      have hcase : (FloatKind.f64.format.order a 0 == some .eq) = false ∨ (FloatKind.f64.format.order a 0 == some .eq) = true ∧ (FloatKind.f64.format.order b 0 == some .eq) = false := by
        rw [za, zb]
        cases h1 : isZ (fc .f64 a) <;> cases h2 : isZ (fc .f64 b) <;> simp_all
      clear hbc hb2 hz za zb
      rcases hcase with ya | ⟨ya, yb⟩
      all_goals
        go_wp2_with fail
        refine (iTurnsBy w.heap.size w w.heap.size (w.heap.size + 1 + 1) (w.heap.size + 1) a b _ ⟨0, ?h1, ?h2, ?h3, ⟨rfl, by decide⟩, by omega, by omega, by omega, by omega, by omega, by omega, ?h4⟩).mono ?_
        case h1 => exact heap_alloc_push (heap_alloc_push (by simpa using heap_alloc_new w _))
        case h2 => exact (by simpa using heap_alloc_new ((w.alloc (Obj.cells #[Value.complex FloatKind.f64 a b] 28)).alloc (Obj.cells #[Value.int IntKind.i64 0] 3)) _)
        case h3 => exact heap_alloc_push (x := .cells #[.int .i64 0] 3 (0, 0)) (by simpa using heap_alloc_new (w.alloc (Obj.cells #[Value.complex FloatKind.f64 a b] 28)) _)
        case h4 => exact (((Below.refl _ _).alloc (Nat.le_refl _) _).alloc (by simp) _).alloc (by simp; omega) _
        rintro e w2 ⟨rfl, m, -, -, hb3, -, -, -, -, -, -, -, hBel⟩
        have c3 : w2.cell? ⟨w.heap.size + 1, 0, none⟩ = some (.int .i64 (bearF a b 359).1) := (block_cell hb3 0).trans rfl
        have HBel := hid hBel
        clear hb3 hBel
        go_wp2
        go_ret
        exact ⟨by rw [HB2.out]; rfl, HBel.out⟩
end Go.Proofs.Ytjllidnkndhgmaa
