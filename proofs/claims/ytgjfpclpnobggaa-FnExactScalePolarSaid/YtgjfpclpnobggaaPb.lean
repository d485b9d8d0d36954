/- Polars: size, copies. -/
import Derived.Test.YtgjfpclpnobggaaPa
namespace Go.Proofs.Ytgjfpclpnobggaa
open Go.RowKit

def nn0 (x : Int) : Int := if x < 0 then -1 else x
set_option maxHeartbeats 1000000 in
set_option maxRecDepth 100000 in
theorem szP {w : World} {v : Value} {ws : List Nat} {an : List Int} {ss : List (List Nat)} (h : RdP w v ws an ss) :
    Calls Try.prog 10 #[v, .int .i64 1048576] w fun e w' => ∃ r, e = .returned (.int .i64 r) ∧ (r < 0 ∨ Small ws an ss) ∧ Below w.heap.size w w' := by
  obtain ⟨a, b, c, rfl, h1, h2, h3⟩ := h
  have hb := fun o : Obj => (Below.refl w.heap.size w).alloc (Nat.le_refl _) o
  have H1 := hid (fun o => h1.below (hb o))
  have H2 := hid (fun o => h2.below (hb o))
  have H3 := hid (fun o => h3.below (hb o))
  have HB := hid hb
  have l1 := h1.1
  have l2 := h2.1
  clear h1 h2 h3 hb
  by_cases c1 : (1048576 : Int) - ws.length < 0
  · go_enter Try.func10, Try.ntmps10
    go_wp2_with (go_at_call 30; refine (szF _ (by omega) (by omega) (H1.out _)).mono ?_; rintro e w1 ⟨rfl, rfl⟩; rw [if_pos (by omega)])
    go_ret
    exact ⟨_, rfl, .inl (by decide), HB.out _⟩
  · by_cases c2 : (1048576 : Int) - ws.length - an.length < 0
    · go_enter Try.func10, Try.ntmps10
      go_wp2_with (first | (go_at_call 30; refine (szF _ (by omega) (by omega) (H1.out _)).mono ?_; rintro e w1 ⟨rfl, rfl⟩; rw [if_neg (by omega)]) | (go_at_call 31; refine (szI _ (by omega) (by omega) (H2.out _)).mono ?_; rintro e w1 ⟨rfl, rfl⟩; rw [if_pos (by omega)]))
      go_ret
      exact ⟨_, rfl, .inl (by decide), HB.out _⟩
    · go_enter Try.func10, Try.ntmps10
      go_wp2_with (first | (go_at_call 30; refine (szF _ (by omega) (by omega) (H1.out _)).mono ?_; rintro e w1 ⟨rfl, rfl⟩; rw [if_neg (by omega)]) | (go_at_call 31; refine (szI _ (by omega) (by omega) (H2.out _)).mono ?_; rintro e w1 ⟨rfl, rfl⟩; rw [if_neg (by omega)]) | (go_at_call 32; refine (szG _ (by omega) (by omega) (H3.out _)).mono ?_; rintro e w1 ⟨r, rfl, hr, rfl⟩; have HR := hid hr; clear hr))
      all_goals
        go_ret
        refine ⟨_, rfl, ?_, HB.out _⟩
        rcases HR.out with h | h
        · left; omega
        · exact .inr ⟨by omega, by omega, h.1, h.2⟩

def fcells (L : List Nat) : List Value := L.map (fun b => Value.float .f32 b)
def icells (L : List Int) : List Value := L.map (fun b => Value.int .i64 b)
theorem made_f (n : Nat) : madeCells #[.float .f32 0] n = (fcells (List.replicate n 0)).toArray := by
  apply Array.ext
  · simp [madeCells, fcells]
  · intro i h1 h2
    simp [madeCells, fcells, Nat.mod_one]
theorem made_i (n : Nat) : madeCells #[.int .i64 0] n = (icells (List.replicate n 0)).toArray := by
  apply Array.ext
  · simp [madeCells, icells]
  · intro i h1 h2
    simp [madeCells, icells, Nat.mod_one]
theorem info_f32 : (Try.prog.info? 36).map (fun i => (i.zero, i.size, i.bytes)) = some (some (.float .f32 0), 1, 4) := by kernel_rfl
theorem info_int : (Try.prog.info? 3).map (fun i => (i.zero, i.size, i.bytes)) = some (some (.int .i64 0), 1, 8) := by kernel_rfl
theorem info_row : (Try.prog.info? 22).map (fun i => (i.zero, i.size, i.bytes)) = some (some (.slice none 0 0), 1, 24) := by kernel_rfl
theorem add_flat (g j : Nat) : (⟨g, 0, none⟩ : Addr).add j = ⟨g, j, none⟩ := by unfold Addr.add; split <;> simp_all
theorem rdf_block {w : World} {g c : Nat} {xs L : List Nat} {t : TypeId} (hl : xs.length ≤ 9223372036854775807) (h : w.heap[g]? = some (.cells (fcells L).toArray t (0, 0))) (e : L = xs) : RdF w (.slice (some ⟨g, 0, none⟩) xs.length c) xs := by
  subst e
  refine ⟨hl, _, c, rfl, fun j hj => ⟨_, rfl, ?_⟩⟩
  rw [add_flat, block_cell h j]
  simp [fcells, hj]
theorem rdi_block {w : World} {g c : Nat} {xs L : List Int} {t : TypeId} (hl : xs.length ≤ 9223372036854775807) (h : w.heap[g]? = some (.cells (icells L).toArray t (0, 0))) (e : L = xs) : RdI w (.slice (some ⟨g, 0, none⟩) xs.length c) xs := by
  subst e
  refine ⟨hl, _, c, rfl, fun j hj => ⟨_, rfl, ?_⟩⟩
  rw [add_flat, block_cell h j]
  simp [icells, hj]
/-- the first i are there, the others as they were -/
def mix {α : Type} (xs : List α) (i : Nat) (z : α) : List α := xs.take i ++ List.replicate (xs.length - i) z
theorem mix_zero {α : Type} (xs : List α) (z : α) : mix xs 0 z = List.replicate xs.length z := by simp [mix]
theorem mix_full {α : Type} (xs : List α) (z : α) : mix xs xs.length z = xs := by simp [mix]
theorem mix_len {α : Type} (xs : List α) (i : Nat) (z : α) (h : i ≤ xs.length) : (mix xs i z).length = xs.length := by simp [mix]; omega
theorem mix_set {α : Type} (xs : List α) (i : Nat) (z : α) (h : i < xs.length) : (mix xs i z).set i xs[i] = mix xs (i + 1) z := by
  unfold mix
  rw [List.set_append, if_neg (by rw [List.length_take]; omega), List.length_take, show i - min i xs.length = 0 by omega, show xs.length - i = (xs.length - (i + 1)) + 1 by omega, List.replicate_succ, List.set_cons_zero, List.take_succ_eq_append_getElem h, List.append_assoc]
  rfl

set_option maxHeartbeats 1000000 in
set_option maxRecDepth 100000 in
theorem toF {w : World} {v : Value} {xs : List Nat} (hn : xs.length ≤ 1048576) (h : RdF w v xs) :
    Calls Try.prog 34 #[v] w fun e w' => ∃ v', e = .returned v' ∧ RdF w' v' xs ∧ Below w.heap.size w w' := by
  obtain ⟨hl, A, cap, rfl, hc⟩ := h
  have HC := hid hc
  clear hc
  have hmk := fun w => run_make_row' (P := Try.prog) 22 36 (.float .f32 0) 4 Try.underlying22 info_f32 rfl .i64 .i64 xs.length (by omega) (by omega) w
  have hsc := fun (a : Addr) (n : Nat) (w : World) => run_store Try.prog w a (.float .f32 n) .plain rfl
  go_enter Try.func34, Try.ntmps34
  go_wp2
  go_loopw [4] (fun iv wr => ∃ (i : Nat), i ≤ xs.length ∧ iv = .int .i64 i ∧ Hid (wr.heap[w.heap.size]? = some (.cells (fcells (mix xs i 0)).toArray 36 (0, 0))) ∧ Hid (Below w.heap.size w wr)) (fun iv _ => 1048577 - (intOf iv).toNat)
  case atStart => exact ⟨0, by omega, rfl, by rw [mix_zero, ← made_f]; exact heap_alloc_new w _, (Below.refl _ _).alloc (Nat.le_refl _) _⟩
  case round =>
    obtain ⟨i, hi, rfl, HO, HB⟩ := hrel
    by_cases hlt : i < xs.length
    · obtain ⟨ad, rfl, hca⟩ := HC.out i hlt
      have hcw := (HB.out.cell (World.block_lt_of_cell? w _ hca)).trans hca
      obtain ⟨u, hu⟩ : ∃ u, (fcells (mix xs i 0))[i]? = some u := ⟨_, List.getElem?_eq_getElem (by simp [fcells, mix]; omega)⟩
      have hc0 : wr.cell? ⟨w.heap.size, i, none⟩ = some u := by rw [block_cell HO.out i]; simpa using hu
      have hf0 : wr.frozen? ⟨w.heap.size, i, none⟩ = false := block_free HO.out i
      have HS := hid (block_set HO.out i (.float .f32 xs[i]))
      have HM := hid (mix_set xs i 0 hlt)
      clear hca hu
      generalize xs[i] = x at hcw HS HM
      go_wp2
      go_roundw
      case rel => exact ⟨i + 1, by omega, by go_num, by rw [← HM.out, show (fcells ((mix xs i 0).set i x)).toArray = (fcells (mix xs i 0)).toArray.setIfInBounds i (.float .f32 x) by simp [fcells, List.map_set]]; exact HS.out, HB.out.setCell (Nat.le_refl _) _⟩
      case measure => simp [intOf]; omega
    · obtain rfl : i = xs.length := by omega
      go_wp2
      go_ret
      exact ⟨_, rfl, rdf_block hl HO.out (mix_full _ _), HB.out⟩
end Go.Proofs.Ytgjfpclpnobggaa
