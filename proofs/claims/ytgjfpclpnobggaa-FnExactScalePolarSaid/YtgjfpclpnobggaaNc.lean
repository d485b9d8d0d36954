/- Copies of a law's polar, in memory of their own. -/
import Derived.Test.YtgjfpclpnobggaaNb
namespace Go.Proofs.Ytgjfpclpnobggaa
open Go.Shelf Go.RowKit

theorem own_block {w : World} {g base : Nat} {e : TypeId} {xs : List Value} (h : w.heap[g]? = some (.cells xs.toArray e (0, 0))) (hb : base ≤ g) (hm : xs.length ≤ maxLen) : w.ownsRow base e 1 (.slice (some ⟨g, 0, none⟩) xs.length xs.length) xs.length xs :=
  ⟨by simp, .inr ⟨g, xs.length, xs.toArray, rfl, hb, h, Nat.le_refl _, hm, by simp, by simp⟩⟩
theorem own_blockF {w : World} {g base : Nat} {xs L : List Nat} (h : w.heap[g]? = some (.cells (fcells L).toArray 36 (0, 0))) (e : L = xs) (hb : base ≤ g) (hm : xs.length ≤ 1048576) : w.ownsRow base 36 1 (.slice (some ⟨g, 0, none⟩) xs.length xs.length) xs.length (fcells xs) := by
  subst e
  have := own_block (base := base) h hb (by unfold maxLen; simp [fcells]; omega)
  simpa [fcells] using this
theorem own_blockI {w : World} {g base : Nat} {xs L : List Int} (h : w.heap[g]? = some (.cells (icells L).toArray 3 (0, 0))) (e : L = xs) (hb : base ≤ g) (hm : xs.length ≤ 1048576) : w.ownsRow base 3 1 (.slice (some ⟨g, 0, none⟩) xs.length xs.length) xs.length (icells xs) := by
  subst e
  have := own_block (base := base) h hb (by unfold maxLen; simp [icells]; omega)
  simpa [icells] using this

set_option maxHeartbeats 1000000 in
set_option maxRecDepth 100000 in
theorem toFo {w : World} {v : Value} {xs : List Nat} (hn : xs.length ≤ 1048576) (h : RdF w v xs) :
    Calls Try.prog 34 #[v] w fun e w' => ∃ v', e = .returned v' ∧ w'.ownsRow w.heap.size 36 1 v' xs.length (fcells xs) ∧ Below w.heap.size w w' := by
  obtain ⟨hl, A, cap, rfl, hc⟩ := h
  have HC := hid hc
  clear hc
  have hmk := fun w => run_make_row' (P := Try.prog) 22 36 (.float .f32 0) 4 Try.underlying22 info_f32 rfl .i64 .i64 xs.length (by omega) (by omega) w
  have hsc := fun (a : Addr) (n : Nat) (w : World) => run_store Try.prog w a (.float .f32 n) .plain rfl
  go_enter Try.func34, Try.ntmps34
  go_wp2
  go_loopw [4] (fun iv wr => ∃ (i : Nat), i ≤ xs.length ∧ iv = .int .i64 i ∧ Hid (wr.heap[w.heap.size]? = some (.cells (fcells (mix xs i 0)).toArray 36 (0, 0))) ∧ Hid (Below w.heap.size w wr)) (fun iv _ => 1048577 - (intOf iv).toNat)
  case atStart => exact ⟨0, by omega, rfl, by rw [mix_zero, ← made_f]; exact heap_alloc_new w _, (Below.refl _ _).alloc (Nat.le_refl _) _⟩
  case round =>
    obtain ⟨i, hi, rfl, HO, HB⟩ := hrel
    by_cases hlt : i < xs.length
    · obtain ⟨ad, rfl, hca⟩ := HC.out i hlt
      have hcw := (HB.out.cell (World.block_lt_of_cell? w _ hca)).trans hca
      obtain ⟨u, hu⟩ : ∃ u, (fcells (mix xs i 0))[i]? = some u := ⟨_, List.getElem?_eq_getElem (by simp [fcells, mix]; omega)⟩
      have hc0 : wr.cell? ⟨w.heap.size, i, none⟩ = some u := by rw [block_cell HO.out i]; simpa using hu
      have hf0 : wr.frozen? ⟨w.heap.size, i, none⟩ = false := block_free HO.out i
      have HS := hid (block_set HO.out i (.float .f32 xs[i]))
      have HM := hid (mix_set xs i 0 hlt)
      clear hca hu
      generalize xs[i] = x at hcw HS HM
      go_wp2
      go_roundw
      case rel => exact ⟨i + 1, by omega, by go_num, by rw [← HM.out, show (fcells ((mix xs i 0).set i x)).toArray = (fcells (mix xs i 0)).toArray.setIfInBounds i (.float .f32 x) by simp [fcells, List.map_set]]; exact HS.out, HB.out.setCell (Nat.le_refl _) _⟩
      case measure => simp [intOf]; omega
    · obtain rfl : i = xs.length := by omega
      go_wp2
      go_ret
      exact ⟨_, rfl, own_blockF HO.out (mix_full _ _) (Nat.le_refl _) hn, HB.out⟩

set_option maxHeartbeats 1000000 in
set_option maxRecDepth 100000 in
theorem toIo {w : World} {v : Value} {xs : List Int} (hn : xs.length ≤ 1048576) (h : RdI w v xs) :
    Calls Try.prog 35 #[v] w fun e w' => ∃ v', e = .returned v' ∧ w'.ownsRow w.heap.size 3 1 v' xs.length (icells xs) ∧ Below w.heap.size w w' := by
  obtain ⟨hl, A, cap, rfl, hc⟩ := h
  have HC := hid hc
  clear hc
  have hmk := fun w => run_make_row' (P := Try.prog) 23 3 (.int .i64 0) 8 Try.underlying23 info_int rfl .i64 .i64 xs.length (by omega) (by omega) w
  go_enter Try.func35, Try.ntmps35
  go_wp2
  go_loopw [4] (fun iv wr => ∃ (i : Nat), i ≤ xs.length ∧ iv = .int .i64 i ∧ Hid (wr.heap[w.heap.size]? = some (.cells (icells (mix xs i 0)).toArray 3 (0, 0))) ∧ Hid (Below w.heap.size w wr)) (fun iv _ => 1048577 - (intOf iv).toNat)
  case atStart => exact ⟨0, by omega, rfl, by rw [mix_zero, ← made_i]; exact heap_alloc_new w _, (Below.refl _ _).alloc (Nat.le_refl _) _⟩
  case round =>
    obtain ⟨i, hi, rfl, HO, HB⟩ := hrel
    by_cases hlt : i < xs.length
    · obtain ⟨ad, rfl, hca⟩ := HC.out i hlt
      have hcw := (HB.out.cell (World.block_lt_of_cell? w _ hca)).trans hca
      obtain ⟨u, hu⟩ : ∃ u, (icells (mix xs i 0))[i]? = some u := ⟨_, List.getElem?_eq_getElem (by simp [icells, mix]; omega)⟩
      have hc0 : wr.cell? ⟨w.heap.size, i, none⟩ = some u := by rw [block_cell HO.out i]; simpa using hu
      have hf0 : wr.frozen? ⟨w.heap.size, i, none⟩ = false := block_free HO.out i
      have HS := hid (block_set HO.out i (.int .i64 xs[i]))
      have HM := hid (mix_set xs i 0 hlt)
      clear hca hu
      generalize xs[i] = x at hcw HS HM
      go_wp2
      go_roundw
      case rel => exact ⟨i + 1, by omega, by go_num, by rw [← HM.out, show (icells ((mix xs i 0).set i x)).toArray = (icells (mix xs i 0)).toArray.setIfInBounds i (.int .i64 x) by simp [icells, List.map_set]]; exact HS.out, HB.out.setCell (Nat.le_refl _) _⟩
      case measure => simp [intOf]; omega
    · obtain rfl : i = xs.length := by omega
      go_wp2
      go_ret
      exact ⟨_, rfl, own_blockI HO.out (mix_full _ _) (Nat.le_refl _) hn, HB.out⟩

/-- rows that are being copied: the first i are there, each in memory of its own -/
structure GP (w0 w : World) (g n : Nat) (R : List Value) (S : List (List Nat)) : Prop where
  blk : w.heap[g]? = some (.cells (R ++ List.replicate (n - R.length) (Value.slice none 0 0)).toArray 22 (0, 0))
  le : R.length ≤ n
  gg : w0.heap.size ≤ g
  rl : S.length = R.length
  ro : ∀ (j : Nat) (r : Value) (s : List Nat), R[j]? = some r → S[j]? = some s → w.ownsRow w0.heap.size 36 1 r s.length (fcells s)
  ar : ∀ (i j : Nat) (r r' : Value), R[i]? = some r → R[j]? = some r' → i ≠ j → apart r r'
section
variable {w0 w w' : World} {g n : Nat} {R : List Value} {S : List (List Nat)}
theorem GP.below (h : GP w0 w g n R S) (hB : Below w.heap.size w w') : GP w0 w' g n R S :=
  ⟨(hB.block _ (lt_of_block h.blk)).trans h.blk, h.le, h.gg, h.rl, fun j r s hr hs => own_rd (h.ro j r s hr hs) hB, h.ar⟩
theorem GP.row (h : GP w0 w g n R S) {r : Value} (hr : r ∈ R) : ∃ s : List Nat, w.ownsRow w0.heap.size 36 1 r s.length (fcells s) := by
  obtain ⟨j, hj, rfl⟩ := List.getElem_of_mem hr
  have hj' : j < S.length := by rw [h.rl]; exact hj
  exact ⟨S[j], h.ro j _ _ (List.getElem?_eq_getElem hj) (List.getElem?_eq_getElem hj')⟩
theorem own_not_blk {e e' : TypeId} {B n m : Nat} {cs : Array Value} {v : Value} {xs : List Value} (h : w.ownsRow B e 1 v n xs) (hb : w.heap[m]? = some (.cells cs e' (0, 0))) (he : e ≠ e') : v.ownBlock ≠ some m := by
  rcases h.2 with ⟨rfl, _⟩ | ⟨q, cap, cur, rfl, _, hq, _⟩
  · simp [Value.ownBlock]
  · intro heq
    simp only [Value.ownBlock, Option.some.injEq] at heq
    subst heq
    rw [hb] at hq
    injection hq with hq
    injection hq with _ ht
    exact he ht.symm
theorem GP.next {x : Value} {s : List Nat} (h : GP w0 w g n R S) (hlt : R.length < n) (hx : w.ownsRow w0.heap.size 36 1 x s.length (fcells s)) (ha : ∀ r ∈ R, apart r x ∧ apart x r) : GP w0 (w.setCell ⟨g, R.length, none⟩ x) g n (R ++ [x]) (S ++ [s]) where
  blk := by
    have := block_set h.blk R.length x
    rw [this]
    congr 2
    apply Array.ext'
    rw [Array.toList_setIfInBounds]
    simp only [List.length_append, List.length_singleton]
    rw [List.set_append, if_neg (Nat.lt_irrefl _), Nat.sub_self, show n - R.length = (n - (R.length + 1)) + 1 by omega, List.replicate_succ, List.set_cons_zero]
    simp
  le := by simp; omega
  gg := h.gg
  rl := by simp [h.rl]
  ro := fun j r q hr hs => by
    have hl := h.rl
    have hk := grown_set w g R.length x
    by_cases hj : j < R.length
    · rw [List.getElem?_append_left hj] at hr
      rw [List.getElem?_append_left (by omega)] at hs
      have := h.ro j r q hr hs
      exact this.kept hk (.inr (own_not_blk this h.blk (by decide)))
    · rw [List.getElem?_append_right (by omega)] at hr
      rw [List.getElem?_append_right (by omega)] at hs
      have e : j = R.length := by
        obtain ⟨hl2, _⟩ := List.getElem?_eq_some_iff.1 hr
        simp at hl2; omega
      subst e
      rw [Nat.sub_self] at hr
      rw [show R.length - S.length = 0 by omega] at hs
      simp at hr hs
      subst hr; subst hs
      exact hx.kept hk (.inr (own_not_blk hx h.blk (by decide)))
  ar := fun i j r r' hr hr' hne => by
    have key : ∀ {i : Nat} {r : Value}, (R ++ [x])[i]? = some r → (i < R.length ∧ R[i]? = some r) ∨ (i = R.length ∧ r = x) := fun {i r} hr => by
      by_cases hi : i < R.length
      · rw [List.getElem?_append_left hi] at hr; exact .inl ⟨hi, hr⟩
      · rw [List.getElem?_append_right (by omega)] at hr
        obtain ⟨hl2, he⟩ := List.getElem?_eq_some_iff.1 hr
        simp at hl2 he
        exact .inr ⟨by omega, he.symm⟩
    rcases key hr with ⟨h1, h2⟩ | ⟨h1, rfl⟩ <;> rcases key hr' with ⟨h3, h4⟩ | ⟨h3, rfl⟩
    · exact h.ar i j r r' h2 h4 hne
    · exact (ha r (List.mem_of_getElem? h2)).1
    · exact (ha r' (List.mem_of_getElem? h4)).2
    · omega
theorem GP.cell (h : GP w0 w g n R S) (hlt : R.length < n) : (∃ u, w.cell? ⟨g, R.length, none⟩ = some u) ∧ w.frozen? ⟨g, R.length, none⟩ = false := by
  refine ⟨?_, block_free h.blk _⟩
  rw [block_cell h.blk]
  exact ⟨_, Array.getElem?_eq_getElem (by simp; omega)⟩
theorem GP.done (h : GP w0 w g R.length R S) (hm : R.length ≤ 1048576) : w.ownsRow w0.heap.size 22 1 (.slice (some ⟨g, 0, none⟩) R.length R.length) R.length R := by
  have hb := h.blk
  rw [Nat.sub_self, List.replicate_zero, List.append_nil] at hb
  exact own_block hb h.gg (by unfold maxLen; omega)
end

set_option maxHeartbeats 1000000 in
set_option maxRecDepth 100000 in
theorem toGo {w : World} {v : Value} {xss : List (List Nat)} (hn : xss.length ≤ 1048576) (hn2 : ∀ r ∈ xss, r.length ≤ 1048576) (h : RdG w v xss) :
    Calls Try.prog 36 #[v] w fun e w' => ∃ v' R, e = .returned v' ∧ w'.ownsRow w.heap.size 22 1 v' R.length R ∧ xss.length = R.length ∧ (∀ (j : Nat) (r : Value) (s : List Nat), R[j]? = some r → xss[j]? = some s → w'.ownsRow w.heap.size 36 1 r s.length (fcells s)) ∧ (∀ (i j : Nat) (r r' : Value), R[i]? = some r → R[j]? = some r' → i ≠ j → apart r r') ∧ Below w.heap.size w w' := by
  obtain ⟨hl, A, cap, rfl, hc⟩ := h
  have HC := hid hc
  have HN := hid hn2
  clear hc hn2
  have hmk := fun w => run_make_row' (P := Try.prog) 24 22 (.slice none 0 0) 24 Try.underlying24 info_row rfl .i64 .i64 xss.length (by omega) (by omega) w
  go_enter Try.func36, Try.ntmps36
  go_wp2
  go_loopw [4] (fun iv wr => ∃ (i : Nat) (R : List Value), i ≤ xss.length ∧ iv = .int .i64 i ∧ Hid (R.length = i) ∧ Hid (GP w wr w.heap.size xss.length R (xss.take i)) ∧ Hid (Below w.heap.size w wr)) (fun iv _ => 1048577 - (intOf iv).toNat)
  case atStart =>
    refine ⟨0, [], by omega, rfl, rfl, ⟨?_, by simp, Nat.le_refl _, rfl, (fun j r s h => by simp at h), (fun i j r r' h => by simp at h)⟩, (Below.refl _ _).alloc (Nat.le_refl _) _⟩
    have := heap_alloc_new w (.cells (madeCells #[.slice none 0 0] xss.length) 22)
    rw [this]
    congr 2
    apply Array.ext
    · simp [madeCells]
    · intro i h1 h2
      simp [madeCells, Nat.mod_one]
  case round =>
    obtain ⟨i, R, hi, rfl, HRl, HO, HB⟩ := hrel
    by_cases hlt : i < xss.length
    · obtain ⟨ad, u, rfl, hca, hru⟩ := HC.out i hlt
      have hcw := (HB.out.cell (World.block_lt_of_cell? w _ hca)).trans hca
      have HR := hid (hru.below HB.out)
      have hxl := HN.out xss[i] (List.getElem_mem hlt)
      obtain ⟨_, Au, cu, rfl, _⟩ := hru
      clear hca
      obtain ⟨x, hxx⟩ : ∃ x, xss[i] = x := ⟨_, rfl⟩
      have HX := hid hxx
      rw [hxx] at HR hxl hcw
      clear hxx
      go_wp2_with fail
      refine (toFo hxl HR.out).mono ?_
      rintro e w1 ⟨v', rfl, ho1, hb1⟩
      obtain ⟨A3, c3, rfl⟩ := own_shape ho1
      have HO1 := hid (HO.out.below hb1)
      have hap : ∀ r ∈ R, apart r (.slice A3 x.length c3) ∧ apart (.slice A3 x.length c3) r := fun r hr => by
        obtain ⟨s, hs⟩ := HO.out.row hr
        exact own_apart hs ho1
      have hRn : R.length < xss.length := by have := HRl.out; omega
      obtain ⟨⟨u0, hc0⟩, hf0⟩ := HO1.out.cell hRn
      have HO2 := hid (HO1.out.next (x := .slice A3 x.length c3) (s := x) hRn (own_base ho1 HB.out.size) hap)
      have HB2 := hid (HB.out.trans (hb1.mono HB.out.size))
      rw [HRl.out] at hc0 hf0 HO2
      clear ho1 hb1 hap
      go_wp2
      go_roundw
      case rel => exact ⟨i + 1, R ++ [.slice A3 x.length c3], by omega, by go_num, hid (by simp [HRl.out]), hid (by rw [List.take_succ_eq_append_getElem hlt, HX.out]; exact HO2.out), HB2.out.setCell (Nat.le_refl _) _⟩
      case measure => simp [intOf]; omega
    · obtain rfl : i = xss.length := by omega
      have HO2 := HO.out
      rw [List.take_length] at HO2
      have HG := hid HO2
      clear HO2
      go_wp2
      go_ret
      refine ⟨_, R, rfl, ?_, HRl.out.symm, HG.out.ro, HG.out.ar, HB.out⟩
      have h1 := HRl.out
      have h2 := HG.out
      rw [← h1] at h2
      have h3 := h2.done (by omega)
      rw [← h1]
      exact h3
end Go.Proofs.Ytgjfpclpnobggaa
