/- Fastest of the first side: its closures by contracts. -/
import Derived.Test.YtgjfpclpnobggaaQx
namespace Go.Proofs.Ytgjfpclpnobggaa
open Go.Shelf Go.RowKit

theorem heap_push {w : World} {k : Nat} {o x : Obj} (h : w.heap[k]? = some x) : (w.alloc o).heap[k]? = some x := by
  have hlt : k < w.heap.size := (Array.getElem?_eq_some_iff.1 h).1
  show (w.heap.push o)[k]? = some x
  rw [Array.getElem?_push_lt hlt, ← h, Array.getElem?_eq_getElem hlt]

/-- what the closures capture -/
structure BM (W w : World) (bp bw bf bt bn bb bv : Nat) (x y z : Value) (wind : Nat) (st : Nat × Nat) : Prop where
  pol : Tri w bp x y z
  wnd : w.heap[bw]? = some (.cells #[.float .f32 wind] 36 (0, 0))
  lo : w.heap[bf]? = some (.cells #[.int .i64 0] 3 (0, 0))
  hi : w.heap[bt]? = some (.cells #[.int .i64 180] 3 (0, 0))
  fn : w.heap[bn]? = some (.cells #[.func (.func 65) #[] #[.pointer (some ⟨bp, 0, none⟩), .pointer (some ⟨bw, 0, none⟩)]] 77 (0, 0))
  best : w.heap[bb]? = some (.cells #[.int .i64 st.1] 3 (0, 0))
  most : w.heap[bv]? = some (.cells #[.float .f32 st.2] 36 (0, 0))
  b0 : W.heap.size ≤ bp
  b1 : bp < bw
  b2 : bw < bf
  b3 : bf < bt
  b4 : bt < bn
  b5 : bn < bb
  b6 : bb < bv
  below : Below W.heap.size W w

theorem BM.keep {W w w' : World} {bp bw bf bt bn bb bv : Nat} {x y z : Value} {wind : Nat} {st : Nat × Nat} (h : BM W w bp bw bf bt bn bb bv x y z wind st) (hB : Below w.heap.size w w') : BM W w' bp bw bf bt bn bb bv x y z wind st where
  pol := h.pol.keep hB
  wnd := (hB.block _ (lt_of_block h.wnd)).trans h.wnd
  lo := (hB.block _ (lt_of_block h.lo)).trans h.lo
  hi := (hB.block _ (lt_of_block h.hi)).trans h.hi
  fn := (hB.block _ (lt_of_block h.fn)).trans h.fn
  best := (hB.block _ (lt_of_block h.best)).trans h.best
  most := (hB.block _ (lt_of_block h.most)).trans h.most
  b0 := h.b0
  b1 := h.b1
  b2 := h.b2
  b3 := h.b3
  b4 := h.b4
  b5 := h.b5
  b6 := h.b6
  below := h.below.trans (hB.mono h.below.size)
theorem BM.set {W w : World} {bp bw bf bt bn bb bv : Nat} {x y z : Value} {wind : Nat} {st : Nat × Nat} (h : BM W w bp bw bf bt bn bb bv x y z wind st) (k r : Nat) :
    BM W ((w.setCell ⟨bb, 0, none⟩ (.int .i64 k)).setCell ⟨bv, 0, none⟩ (.float .f32 r)) bp bw bf bt bn bb bv x y z wind (k, r) := by
  have q0 := h.b0
  have q1 := h.b1
  have q2 := h.b2
  have q3 := h.b3
  have q4 := h.b4
  have q5 := h.b5
  have q6 := h.b6
  have other : ∀ {g : Nat} {o : Obj}, w.heap[g]? = some o → g ≠ bb → g ≠ bv → ((w.setCell ⟨bb, 0, none⟩ (.int .i64 k)).setCell ⟨bv, 0, none⟩ (.float .f32 r)).heap[g]? = some o := fun hg n1 n2 =>
    (Below.heap_setCell _ _ _ _ n2).trans ((Below.heap_setCell _ _ _ _ n1).trans hg)
  have e2 : (w.setCell ⟨bb, 0, none⟩ (.int .i64 k)).heap[bv]? = some (.cells #[.float .f32 st.2] 36 (0, 0)) := (Below.heap_setCell _ _ _ _ (by dsimp only; omega)).trans h.most
  exact
    { pol := other h.pol (by omega) (by omega)
      wnd := other h.wnd (by omega) (by omega)
      lo := other h.lo (by omega) (by omega)
      hi := other h.hi (by omega) (by omega)
      fn := other h.fn (by omega) (by omega)
      best := (Below.heap_setCell _ _ _ _ (by dsimp only; omega)).trans (by simpa using block_set h.best 0 (.int .i64 k))
      most := by simpa using block_set e2 0 (.float .f32 r)
      b0 := q0
      b1 := q1
      b2 := q2
      b3 := q3
      b4 := q4
      b5 := q5
      b6 := q6
      below := (h.below.setCell (by dsimp only; omega) _).setCell (by dsimp only; omega) _ }

theorem cloSpeed {w : World} {bp bw : Nat} {x y z : Value} {ws : List Nat} {an : List Int} {ss : List (List Nat)} {wind : Nat} {k p q r : Nat} (hA : AllOk ws an ss wind k) (hr : SpR ws an ss wind k r) (hT : Tri w bp x y z)
    (hW : w.heap[bw]? = some (.cells #[.float .f32 wind] 36 (0, 0))) (h : RdP w (.agg #[x, y, z]) ws an ss) :
    Calls Try.prog 65 #[.int .i64 k, .complex .f64 p q, .pointer (some ⟨bp, 0, none⟩), .pointer (some ⟨bw, 0, none⟩)] w fun e w' => e = .returned (.float .f32 r) ∧ Below w.heap.size w w' := by
  have H := hid h
  have HA := hid hA
  have HR := hid hr
  obtain ⟨⟨x1, x2, x3⟩, _⟩ := hT.facts
  have x4 : w.cell? ⟨bw, 0, none⟩ = some (.float .f32 wind) := (block_cell hW 0).trans rfl
  clear hT hW h hA hr
  go_enter Try.func65, Try.ntmps65
  go_wp2_with fail
  refine (iSpeedIn HA.out HR.out H.out).mono ?_
  rintro e w2 ⟨rfl, hb2⟩
  have HB2 := hid hb2
  go_wp2
  go_ret
  exact ⟨rfl, HB2.out⟩

def nxtM (F : Nat → Nat) (k : Nat) (st : Nat × Nat) : Nat × Nat := if k ≤ 180 ∧ (k = 0 ∨ gtB (F k) st.2 = true) then (k, F k) else st
def stM (F : Nat → Nat) : Nat → Nat × Nat
  | 0 => (0, 0)
  | j + 1 => nxtM F j (stM F j)
theorem stM_fast (F : Nat → Nat) : ∀ j, j ≤ 180 → stM F (j + 1) = fastF F j
  | 0, _ => by
    show nxtM F 0 (0, 0) = (0, F 0)
    exact if_pos ⟨by omega, .inl rfl⟩
  | j + 1, h => by
    show nxtM F (j + 1) (stM F (j + 1)) = _
    rw [stM_fast F j (by omega)]
    unfold nxtM
    rw [fastF]
    by_cases hg : gtB (F (j + 1)) (fastF F j).2 = true
    · rw [if_pos ⟨h, .inr hg⟩, if_pos hg]
    · rw [if_neg (fun hc => by rcases hc.2 with h | h <;> first | omega | exact hg h), if_neg hg]
theorem stM_late (F : Nat → Nat) : ∀ d, stM F (181 + d) = fastF F 180
  | 0 => stM_fast F 180 (by omega)
  | d + 1 => by
    show nxtM F (181 + d) (stM F (181 + d)) = _
    rw [stM_late F d]
    exact if_neg (fun h => by omega)

set_option maxHeartbeats 2000000 in
set_option maxRecDepth 100000 in
theorem cloMost {W w : World} {bp bw bf bt bn bb bv : Nat} {x y z : Value} {ws : List Nat} {an : List Int} {ss : List (List Nat)} {wind : Nat} {F : Nat → Nat} {st : Nat × Nat} {k p q : Nat} (hO : FOk ws an ss wind) (hF : Speeds ws an ss wind F)
    (hR : RdP W (.agg #[x, y, z]) ws an ss) (h : BM W w bp bw bf bt bn bb bv x y z wind st) :
    Calls Try.prog 82 #[.int .i64 k, .complex .f64 p q, .pointer (some ⟨bf, 0, none⟩), .pointer (some ⟨bt, 0, none⟩), .pointer (some ⟨bn, 0, none⟩), .pointer (some ⟨bv, 0, none⟩), .pointer (some ⟨bb, 0, none⟩)] w fun e w' => e = .returned (.tuple #[]) ∧
      BM W w' bp bw bf bt bn bb bv x y z wind (nxtM F k st) := by
  have HI := hid h
  have x1 : w.cell? ⟨bf, 0, none⟩ = some (.int .i64 0) := (block_cell h.lo 0).trans rfl
  have x2 : w.cell? ⟨bt, 0, none⟩ = some (.int .i64 180) := (block_cell h.hi 0).trans rfl
  have x3 : w.cell? ⟨bn, 0, none⟩ = some (.func (.func 65) #[] #[.pointer (some ⟨bp, 0, none⟩), .pointer (some ⟨bw, 0, none⟩)]) := (block_cell h.fn 0).trans rfl
  have HO := hid hO
  have HF := hid hF
  have HR := hid (hR.below (h.below))
  clear hO hF hR h
  have hsf := fun (a : Addr) (n : Nat) (w : World) => run_store Try.prog w a (.float .f32 n) .plain rfl
  by_cases hk : k ≤ 180
  · have hkd : decide ((k : Int) ≤ 180) = true := decide_eq_true (by omega)
    have hk0 : decide ((0 : Int) ≤ (k : Int)) = true := decide_eq_true (by omega)
    have HC := hid (cloSpeed (k := k) (p := p) (q := q) ⟨HO.out.1, HO.out.2, by omega, by omega⟩ (HF.out.1 HO.out k hk) HI.out.pol HI.out.wnd HR.out)
    go_enter Try.func82, Try.ntmps82
    go_wp2_with (first | (go_at_call 37; go_in) | fail)
    refine HC.out.mono ?_
    rintro e w2 ⟨rfl, hb2⟩
    have HI2 := hid (HI.out.keep hb2)
    clear x1 x2 x3 hb2
    have x1 : w2.cell? ⟨bf, 0, none⟩ = some (.int .i64 0) := (block_cell HI2.out.lo 0).trans rfl
    have x4 : w2.cell? ⟨bv, 0, none⟩ = some (.float .f32 st.2) := (block_cell HI2.out.most 0).trans rfl
    have x5 : w2.cell? ⟨bb, 0, none⟩ = some (.int .i64 st.1) := (block_cell HI2.out.best 0).trans rfl
    have f5 : w2.frozen? ⟨bb, 0, none⟩ = false := block_free HI2.out.best 0
    have hne : bb ≠ bv := by have := HI2.out.b6; omega
    have hw2 : ∀ v, (w2.setCell ⟨bb, 0, none⟩ v).heap[bv]? = some (.cells #[.float .f32 st.2] 36 (0, 0)) := fun v => (Below.heap_setCell _ _ _ _ (Ne.symm hne)).trans HI2.out.most
    have x6 : ∀ v, (w2.setCell ⟨bb, 0, none⟩ v).cell? ⟨bv, 0, none⟩ = some (.float .f32 st.2) := fun v => (block_cell (hw2 v) 0).trans rfl
    have f6 : ∀ v, (w2.setCell ⟨bb, 0, none⟩ v).frozen? ⟨bv, 0, none⟩ = false := fun v => block_free (hw2 v) 0
    clear hw2 hne
    by_cases h0 : k = 0
    · have hn := hid (show nxtM F k st = (k, F k) from if_pos ⟨hk, .inl h0⟩)
      subst h0
      go_wp2
      go_end0
      exact ⟨rfl, by rw [hn.out]; exact HI2.out.set 0 (F 0)⟩
    · have hne : ((k : Int) == 0) = false := beq_eq_false_iff_ne.2 (by omega)
      cases hg : gtB (F k) st.2
      · have hn := hid (show nxtM F k st = st from if_neg (fun h => by rcases h.2 with h | h <;> first | exact h0 h | (rw [hg] at h; cases h)))
        unfold gtB at hg
        go_wp2
        go_end0
        exact ⟨rfl, by rw [hn.out]; exact HI2.out⟩
      · have hn := hid (show nxtM F k st = (k, F k) from if_pos ⟨hk, .inr hg⟩)
        unfold gtB at hg
        go_wp2
        go_end0
        exact ⟨rfl, by rw [hn.out]; exact HI2.out.set k (F k)⟩
  · have hkd : decide ((k : Int) ≤ 180) = false := decide_eq_false (by omega)
    have hk0 : decide ((0 : Int) ≤ (k : Int)) = true := decide_eq_true (by omega)
    have hn := hid (show nxtM F k st = st from if_neg (fun h => hk h.1))
    go_enter Try.func82, Try.ntmps82
    go_wp2_with (go_at_call 37; go_in)
    refine bodyPost_ret (results_none (by rfl) _ _ _) rfl ?_
    exact ⟨rfl, by rw [hn.out]; exact HI.out⟩
end Go.Proofs.Ytgjfpclpnobggaa
