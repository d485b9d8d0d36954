/- Fastest of the first side. -/
import Derived.Test.YtgjfpclpnobggaaQy
namespace Go.Proofs.Ytgjfpclpnobggaa
open Go.Shelf Go.RowKit

set_option maxHeartbeats 2000000 in
set_option maxRecDepth 100000 in
theorem iTurnsByM {W w : World} {bp bw bf bt bn bb bv : Nat} {x y z : Value} {ws : List Nat} {an : List Int} {ss : List (List Nat)} {wind : Nat} {F : Nat → Nat} (hO : FOk ws an ss wind) (hF : Speeds ws an ss wind F)
    (hR : RdP W (.agg #[x, y, z]) ws an ss) (h : BM W w bp bw bf bt bn bb bv x y z wind (stM F 0)) :
    Calls Try.prog 81 #[.func (.func 82) #[] #[.pointer (some ⟨bf, 0, none⟩), .pointer (some ⟨bt, 0, none⟩), .pointer (some ⟨bn, 0, none⟩), .pointer (some ⟨bv, 0, none⟩), .pointer (some ⟨bb, 0, none⟩)]] w fun e w' => e = .returned (.tuple #[]) ∧
      BM W w' bp bw bf bt bn bb bv x y z wind (stM F 360) := by
  have HI := hid h
  have HO := hid hO
  have HF := hid hF
  have HR := hid hR
  have HZ := hid turn_zero
  clear h hO hF hR
  go_enter Try.func81, Try.ntmps81
  go_wp2_with fail
  go_loopw [2, 3] (fun cv kv wr => ∃ (j a b : Nat), j ≤ 360 ∧ cv = .complex .f64 a b ∧ kv = .int .i64 (j : Int) ∧ Hid (j < 360 → a = turnA j ∧ b = turnB j) ∧ Hid (BM W wr bp bw bf bt bn bb bv x y z wind (stM F j))) (fun _ kv _ => 400 - (intOf kv).toNat)
  case atStart => exact ⟨0, _, _, by omega, rfl, rfl, fun _ => ⟨HZ.out.1.symm, HZ.out.2.symm⟩, HI⟩
  case round =>
    obtain ⟨j, a, b, hj, rfl, rfl, HG, HS⟩ := hrel
    by_cases hlt : j < 360
    · have HAB := hid (HG.out hlt)
      have HC := hid (cloMost (k := j) (p := a) (q := b) HO.out HF.out HR.out HS.out)
      go_wp2_with fail
      refine HC.out.mono ?_
      rintro e w2 ⟨rfl, hI⟩
      have HI2 := hid hI
      obtain ⟨r, q, hs, hn⟩ := turn_next hlt
      rw [← HAB.out.1, ← HAB.out.2] at hs
      have HSt := hid hs
      have HN := hid hn
      clear hI hs hn
      go_wp2_with (go_at_call 80; refine (iTimesT HSt.out _).mono ?_; rintro e w1 ⟨rfl, rfl⟩)
      go_roundw
      case rel => exact ⟨j + 1, _, _, by omega, rfl, by go_num, HN, HI2⟩
      case measure => simp [intOf]; omega
    · obtain rfl : j = 360 := by omega
      go_wp2
      go_end0
      exact ⟨rfl, HS.out⟩

set_option maxHeartbeats 2000000 in
set_option maxRecDepth 100000 in
theorem iMost {W w : World} {bp bw : Nat} {x y z : Value} {ws : List Nat} {an : List Int} {ss : List (List Nat)} {wind : Nat} {F : Nat → Nat} (hO : FOk ws an ss wind) (hF : Speeds ws an ss wind F)
    (hR : RdP W (.agg #[x, y, z]) ws an ss) (hT : Tri w bp x y z) (hW : w.heap[bw]? = some (.cells #[.float .f32 wind] 36 (0, 0))) (h0 : W.heap.size ≤ bp) (h1 : bp < bw) (hB : Below W.heap.size W w) :
    Calls Try.prog 64 #[.int .i64 0, .int .i64 180, .func (.func 65) #[] #[.pointer (some ⟨bp, 0, none⟩), .pointer (some ⟨bw, 0, none⟩)]] w fun e w' => e = .returned (.tuple #[.int .i64 (fastF F 180).1, .float .f32 (fastF F 180).2]) ∧ Below W.heap.size W w' := by
  have HO := hid hO
  have HF := hid hF
  have HR := hid hR
  have HT := hid hT
  have HW := hid hW
  have HB := hid hB
  have hlw := lt_of_block hW
  have hmf : ∀ (fn : Fn) (first cap : Array Value) (w : World), (Instr.makeFunc fn first cap).run Try.prog w = .ok (.func fn first cap) w := fun _ _ _ _ => rfl
  have hsf := fun (a : Addr) (n : Nat) (w : World) => run_store Try.prog w a (.float .f32 n) .plain rfl
  clear hO hF hR hT hW hB
  go_enter Try.func64, Try.ntmps64
  go_wp2_with fail
  refine (iTurnsByM (W := W) (bp := bp) (bw := bw) (x := x) (y := y) (z := z) HO.out HF.out HR.out ⟨?h1, ?h2, ?h3, ?h4, ?h5, ?h6, ?h7, h0, h1, hlw, by omega, by omega, by omega, by omega, ?h8⟩).mono ?_
  case h1 => exact heap_push (heap_push (heap_push (heap_push (heap_push HT.out))))
  case h2 => exact heap_push (heap_push (heap_push (heap_push (heap_push HW.out))))
  case h3 => exact heap_push (heap_push (heap_push (heap_push (by simpa using heap_alloc_new w _))))
  case h4 => exact heap_push (heap_push (heap_push (by simpa using heap_alloc_new (w.alloc _) _)))
  case h5 => exact heap_push (heap_push (by simpa using heap_alloc_new ((w.alloc _).alloc _) _))
  case h6 => exact heap_push (by simpa [stM] using heap_alloc_new (((w.alloc _).alloc _).alloc _) _)
  case h7 => exact (by simpa [stM] using heap_alloc_new ((((w.alloc _).alloc _).alloc _).alloc _) _)
  case h8 =>
    have s0 := HB.out.size
    exact ((((HB.out.alloc s0 _).alloc (by simp; omega) _).alloc (by simp; omega) _).alloc (by simp; omega) _).alloc (by simp; omega) _
  rintro e w2 ⟨rfl, hI⟩
  rw [show stM F 360 = fastF F 180 from stM_late F 179] at hI
  have hb : w2.cell? ⟨w.heap.size + 1 + 1 + 1, 0, none⟩ = some (.int .i64 (fastF F 180).1) := (block_cell hI.best 0).trans rfl
  have hv : w2.cell? ⟨w.heap.size + 1 + 1 + 1 + 1, 0, none⟩ = some (.float .f32 (fastF F 180).2) := (block_cell hI.most 0).trans rfl
  have HBn := hid hI.below
  clear hI
  obtain ⟨R, hR⟩ : ∃ R, fastF F 180 = R := ⟨_, rfl⟩
  have HQ := hid hR
  rw [hR] at hb hv
  clear hR
  generalize w.heap.size = g at *
  go_wp2_with fail
  go_quiet (fail)
  go_wp2
  go_ret2
  exact ⟨by rw [HQ.out]; rfl, below_drewN HBn.out _⟩

set_option maxHeartbeats 2000000 in
set_option maxRecDepth 100000 in
theorem iFastest {w : World} {v : Value} {ws : List Nat} {an : List Int} {ss : List (List Nat)} {wind : Nat} {F : Nat → Nat} (hS : ∀ r ∈ ss, r.length ≤ 1048576) (hF : Speeds ws an ss wind F) (h : RdP w v ws an ss) :
    Calls Try.prog 29 #[v, .float .f32 wind] w fun e w' => (∃ x b, e = .returned (.tuple #[.int .i64 x, .bool b]) ∧ IAns (FAll ws an ss wind F) (fastF F 180).1 x b) ∧ Below w.heap.size w w' := by
  have H := hid h
  have HF := hid hF
  have HSm := hid hS
  clear hF hS
  obtain ⟨A1, c1, A2, c2, A3, c3, rfl⟩ := h.shape
  have hb := ((Below.refl w.heap.size w).alloc (Nat.le_refl _) (.cells #[.slice A1 ws.length c1, .slice A2 an.length c2, .slice A3 ss.length c3] 29)).alloc (by simp) (.cells #[.float .f32 wind] 36)
  have hT0 : Tri _ _ _ _ _ := heap_alloc_new w (.cells #[.slice A1 ws.length c1, .slice A2 an.length c2, .slice A3 ss.length c3] 29)
  have hT : Tri _ _ _ _ _ := heap_push (o := .cells #[.float .f32 wind] 36) hT0
  have hW : ((w.alloc (.cells #[.slice A1 ws.length c1, .slice A2 an.length c2, .slice A3 ss.length c3] 29)).alloc (.cells #[.float .f32 wind] 36)).heap[w.heap.size + 1]? = some (.cells #[.float .f32 wind] 36 (0, 0)) := by
    simpa using heap_alloc_new (w.alloc (.cells #[.slice A1 ws.length c1, .slice A2 an.length c2, .slice A3 ss.length c3] 29)) (.cells #[.float .f32 wind] 36)
  have HT := hid hT
  have HW := hid hW
  have HB := hid hb
  have HP := hid (H.out.below hb)
  clear hb hT0 hT hW h
  have H00 := hid (HF.out.at 0)
  have hmf : ∀ (fn : Fn) (first cap : Array Value) (w : World), (Instr.makeFunc fn first cap).run Try.prog w = .ok (.func fn first cap) w := fun _ _ _ _ => rfl
  go_enter Try.func29, Try.ntmps29
  go_wp2_with fail
  generalize (w.alloc (.cells #[.slice A1 ws.length c1, .slice A2 an.length c2, .slice A3 ss.length c3] 29)).alloc (.cells #[.float .f32 wind] 36) = w1 at HT HW HB HP ⊢
  refine (iSpeedAt (angle := 0) HSm.out H00.out HP.out).mono ?_
  rintro e w2 ⟨⟨x, b, rfl, hx⟩, hb2⟩
  have HX := hid hx
  have HT2 := hid (HT.out.keep hb2)
  have HW2 := hid ((hb2.block _ (lt_of_block HW.out)).trans HW.out)
  have HB2 := hid (HB.out.trans (hb2.mono HB.out.size))
  clear hx hb2
  cases b
  · have HN := hid (show ¬ FAll ws an ss wind F from fun hf => by
      rcases HX.out with ⟨_, _, h⟩ | ⟨h, _, _⟩
      · cases h
      · exact h ⟨hf.1.1, hf.1.2, by omega, by omega⟩)
    go_wp2
    go_ret2
    exact ⟨ia_no HN.out, HB2.out⟩
  · have hA : AllOk ws an ss wind 0 := by rcases HX.out with ⟨h, _, _⟩ | ⟨_, _, h⟩ <;> first | exact h | cases h
    have HO := hid (show FOk ws an ss wind from ⟨hA.1, hA.2.1⟩)
    clear hA
    go_wp2_with fail
    refine (iMost HO.out HF.out H.out HT2.out HW2.out (Nat.le_refl _) (Nat.lt_succ_self _) HB2.out).mono ?_
    rintro e w3 ⟨rfl, hb3⟩
    have HB3 := hid hb3
    clear hb3
    cases hg : gtB (fastF F 180).2 0
    · have HN := hid (show ¬ FAll ws an ss wind F from fun h => by have := h.2; rw [hg] at this; cases this)
      unfold gtB at hg
      go_wp2
      go_ret2
      exact ⟨ia_no HN.out, HB3.out⟩
    · have HY := hid (show FAll ws an ss wind F from ⟨HO.out, hg⟩)
      unfold gtB at hg
      go_wp2
      go_ret2
      exact ⟨ia_yes HY.out, HB3.out⟩
end Go.Proofs.Ytgjfpclpnobggaa
