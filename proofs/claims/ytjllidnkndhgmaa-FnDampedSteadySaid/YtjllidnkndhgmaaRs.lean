/- Lists of winds: their draw; what a list holds. -/
import Derived.Test.YtjllidnkndhgmaaDp
import Derived.Test.YtjllidnkndhgmaaPd
import Derived.Test.YtjllidnkndhgmaaLm
namespace Go.Proofs.Ytjllidnkndhgmaa
open Go.RowKit

def cv (p : Nat × Nat) : Value := .complex .f32 p.1 p.2
def FitsC (xs : List (Nat × Nat)) : Prop := ∀ p ∈ xs, Fit .f32 p.1 ∧ Fit .f32 p.2
/-- the winds xs at v -/
def RdC (w : World) (v : Value) (xs : List (Nat × Nat)) : Prop :=
  ∃ A cap, v = .slice A xs.length cap ∧ ∀ j (h : j < xs.length), ∃ b, A = some ⟨b, 0, none⟩ ∧ w.cell? ⟨b, j, none⟩ = some (cv xs[j])

theorem RdC.below {w w' : World} {v : Value} {xs : List (Nat × Nat)} (h : RdC w v xs) (hB : Below w.heap.size w w') : RdC w' v xs := by
  obtain ⟨A, cap, hv, hc⟩ := h
  refine ⟨A, cap, hv, fun j hj => ?_⟩
  obtain ⟨b, hA, hb⟩ := hc j hj
  exact ⟨b, hA, (hB.cell (World.block_lt_of_cell? w _ hb)).trans hb⟩

theorem rdc_of_own {w : World} {base : Nat} {e : TypeId} {v : Value} {xs : List (Nat × Nat)} {n : Nat} (h : w.ownsRow base e 1 v n (xs.map cv)) : RdC w v xs := by
  have hl : xs.length = n := by have := h.1; simpa using this
  have h0 := h
  rcases h.2 with ⟨rfl, rfl⟩ | ⟨g, cap, cur, rfl, _⟩
  · exact ⟨none, 0, by rw [hl], fun j hj => by omega⟩
  · refine ⟨some ⟨g, 0, none⟩, cap, by rw [hl], fun j hj => ⟨g, rfl, ?_⟩⟩
    rw [h0.cellAt j (by omega)]
    simp [List.getElem?_eq_getElem hj]

theorem info_c64 : (Try.prog.info? 38).map (fun i => (i.zero, i.size, i.bytes)) = some (some (.complex .f32 0 0), 1, 8) := by kernel_rfl

theorem RdC.grown {W w w' : World} {g : Nat} {v : Value} {xs : List (Nat × Nat)} (h : RdC w v xs) (hC : Cur W w g) (k : w.grownBy w' (some g)) : RdC w' v xs := by
  obtain ⟨A, cap, hv, hc⟩ := h
  refine ⟨A, cap, hv, fun j hj => ?_⟩
  obtain ⟨b, hA, hb⟩ := hc j hj
  refine ⟨b, hA, (World.cell?_of_block (k.block b (World.block_lt_of_cell? w _ hb) ?_)).trans hb⟩
  intro e
  cases e
  obtain ⟨A', n', c', i', h0, hbl, _⟩ := hC
  rw [block_cell hbl j] at hb
  match j with
  | 0 => simp [cv] at hb
  | 1 => simp [cv] at hb
  | 2 => simp [cv] at hb
  | j + 3 => simp at hb

theorem CG.grown {w0 W w : World} {g : Nat} (h : CG w0 W w g) : w0.grownBy w (some g) := h.2

theorem some_loop {W w0 w1 : World} {g g' : Nat} (h : CG w0 W w1 g) (ho : w0.ownsRow W.heap.size 38 1 (.slice (some ⟨g', 0, none⟩) 0 0) 0 (([] : List (Nat × Nat)).map cv)) (hc : Cur W w0 g) :
    w1.ownsRow W.heap.size 38 1 (.slice (some ⟨g', 0, none⟩) 0 0) 0 (([] : List (Nat × Nat)).map cv) :=
  ho.kept h.2 (.inr (cur_ne_own hc ho (by decide)))

section
variable {W wr w1 w3 : World} {g k : Nat} {v : Value} {xs : List (Nat × Nat)} (HD : Cur W wr g) (HO : wr.ownsRow W.heap.size 38 1 v k (xs.map cv)) (h : CG wr W w1 g)
include HD HO h
theorem app_own (p q : Nat) : (w1.alloc (.cells #[.complex .f32 p q] 38)).ownsRow W.heap.size 38 1 v k (xs.map cv) :=
  (HO.kept h.2 (.inr (cur_ne_own HD HO (by decide)))).alloc _
theorem app_cur {p q : Nat} (hgr : (w1.alloc (.cells #[.complex .f32 p q] 38)).grownBy w3 v.ownBlock) : Cur W w3 g :=
  (h.1.alloc _).keptO hgr (cur_ne_own (h.1.alloc _) (app_own HD HO h p q) (by decide)) (fun b hb => (HO.lt b hb).1)
end
theorem app_c1 (w : World) (p q : Nat) : ∀ j u, [Value.complex .f32 p q][j]? = some u → (w.alloc (.cells #[.complex .f32 p q] 38)).cell? ((⟨w.heap.size, 0, none⟩ : Addr).add j) = some u := cell_one_new _ _ _
theorem app_c2 (p q : Nat) : ∀ u ∈ [Value.complex .f32 p q], u.oneCell' = true := by simp [Value.oneCell']
theorem app_c3 {N : Int} {k : Nat} (h : N + k ≤ 110) (h0 : 0 < N) : k + 1 ≤ maxLen := by unfold maxLen; omega
theorem app_c4 {N : Int} {k : Nat} (h : N + k ≤ 110) (h0 : 0 < N) : (k + 1) * 8 ≤ 140737488355328 := by omega
theorem app_c5 {w0 W w1 : World} {g : Nat} (h : CG w0 W w1 g) (p q : Nat) : W.heap.size ≤ (w1.alloc (.cells #[.complex .f32 p q] 38)).heap.size := by have := h.1.below.size; simp; omega

set_option maxHeartbeats 2000000 in
set_option maxRecDepth 100000 in
theorem some_g {w0 W w : World} {g : Nat} (h : CG w0 W w g) :
    Calls Try.prog 98 #[.pointer (some ⟨g, 0, none⟩)] w fun e w' => ∃ v, e = .returned v ∧ ∃ xs, Hid (RdC w' v xs) ∧ Hid (FitsC xs) ∧ xs.length ≤ 110 ∧ Cur W w' g := by
  obtain ⟨i0, hi, hz0, hz1, hz2⟩ := info_parts info_c64
  have hb0 := h.1.below.size
  have HO0 := hid (World.ownsRow_lit (e := 38) (size := 1) (base := W.heap.size) w #[] 0 hb0 (by decide) (by rfl))
  have hCa := CG.start (h.1.alloc (.cells #[] 38))
  have HCa := hid hCa.1
  clear h
  have hsc := fun (a : Addr) (n m : Nat) (w : World) => run_store Try.prog w a (.complex .f32 n m) .plain rfl
  go_enter Try.func98, Try.ntmps98
  go_wp2_with (first | (go_at_call 71; refine (below_g _ (by omega) (by repeat (first | assumption | apply CG.alloc | apply CG.drewN | apply CG.drew))).mono ?_; rintro e w1 ⟨r, rfl, hr, hc⟩) | (go_at_call 72; refine (once_g _ (by omega) (by repeat (first | assumption | apply CG.alloc | apply CG.drewN | apply CG.drew))).mono ?_; rintro e w1 ⟨b, rfl, hc⟩) | (go_at_call 85; refine (air_g (by repeat (first | assumption | apply CG.alloc | apply CG.drewN | apply CG.drew))).mono ?_; rintro e w1 ⟨r, q, rfl, hr, hq, hc⟩))
  all_goals
    go_loopw [3, 4, 5] (fun v n x wr => ∃ (k a b : Nat) (N : Int) (xs : List (Nat × Nat)), n = .int .i64 N ∧ 0 ≤ N ∧ N + k ≤ 110 ∧ xs.length = k ∧ x = .complex .f32 a b ∧ Hid (Fit .f32 a ∧ Fit .f32 b) ∧ Hid (FitsC xs) ∧ Hid (wr.ownsRow W.heap.size 38 1 v k (xs.map cv)) ∧ Hid (Cur W wr g)) (fun _ n _ _ => (intOf n).toNat)
    case atStart => exact ⟨0, _, _, _, [], rfl, by omega, by omega, rfl, rfl, ⟨by assumption, by assumption⟩, fun _ h => (by cases h), some_loop (by repeat (first | assumption | apply CG.alloc | apply CG.drewN | apply CG.drew)) HO0.out HCa.out, (show CG _ W _ g from (by repeat (first | assumption | apply CG.alloc | apply CG.drewN | apply CG.drew))).1⟩
    case round =>
      obtain ⟨k, a, b, N, xs, rfl, hN0, hN1, hxl, rfl, HF, HX, HO, HD⟩ := hrel
      have hF := HF.out
      obtain ⟨hFa, hFb⟩ := hF
      by_cases hlt : 0 < N
      · have hc00 := CG.start HD.out
        go_wp2_with (first | (go_at_call 72; refine (once_g _ (by omega) (by repeat (first | assumption | apply CG.alloc | apply CG.drewN | apply CG.drew))).mono ?_; rintro e w1 ⟨b, rfl, hc⟩) | (go_at_call 85; refine (air_g (by repeat (first | assumption | apply CG.alloc | apply CG.drewN | apply CG.drew))).mono ?_; rintro e w1 ⟨r, q, rfl, hr, hq, hc⟩) | (at_builtin; have hown := app_own HD.out HO.out hc; go_loud (refine wpList_append_own _ rfl _ _ 53 rfl W.heap.size 38 i0 (.complex .f32 0 0) 1 8 Try.underlying53 hi hz0 hz1 hz2 rfl (by decide) _ _ _ rfl (hown _ _) ⟨w1.heap.size, 0, none⟩ 1 1 [.complex .f32 _ _] rfl rfl (app_c1 _ _ _) (app_c2 _ _) (app_c3 hN1 hlt) (app_c4 hN1 hlt) (app_c5 hc _ _) ?_); intro v' w3 hown3 hgr3 _; have H3 := hid hown3; have HC3 := hid (app_cur HD.out HO.out hc hgr3); clear hown3 hgr3 hown))
        all_goals
          go_roundw
          case rel =>
            refine ⟨k + 1, _, _, N - 1, xs ++ [(_, _)], by go_num, by omega, by omega, by simp [hxl], rfl, ⟨by assumption, by assumption⟩, ?_, by have := H3.out; rw [List.map_append]; exact this, HC3.out⟩
            intro p hp
            rcases List.mem_append.1 hp with h | h
            · exact HX.out p h
            · rw [List.mem_singleton] at h; subst h; exact ⟨by assumption, by assumption⟩
          case measure => simp [intOf]; omega
      · go_wp2
        go_ret
        exact ⟨_, rfl, xs, rdc_of_own HO.out, HX.out, by omega, HD.out⟩

set_option maxHeartbeats 2000000 in
set_option maxRecDepth 100000 in
theorem dRunDamp {W w : World} {A : Option Addr} {n : Nat} (c : Nat) (hRD : RdB W A n) (hB : Below W.heap.size W w) :
    Calls Try.prog 57 #[.slice A n c] w fun e w' => ∃ v k, e = .returned (.tuple #[v, .float .f32 k]) ∧ ∃ xs, Hid (RdC w' v xs) ∧ Hid (FitsC xs) ∧ Fit .f32 k ∧ xs.length ≤ 110 ∧ Below W.heap.size W w' := by
  go_enter Try.func57, Try.ntmps57
  go_wp2_with (first | (go_at_call 70; refine (new_any W _ _ _ _ (by assumption) (by first | assumption | exact Below.refl _ _)).mono ?_; rintro e w1 ⟨g, rfl, hc0, _⟩; have hc := CG.start hc0; clear hc0) | (go_at_call 98; refine (some_g (by repeat (first | assumption | apply CG.alloc | apply CG.drewN | apply CG.drew))).mono ?_; rintro e w1 ⟨v, rfl, xs, HR, HF, hl, hC⟩; have hc := CG.start hC))
  refine (part_g hc).mono ?_
  rintro e w2 ⟨k, rfl, hk, hc2⟩
  have HR2 := hid (HR.out.grown hC hc2.2)
  clear hc
  go_wp2
  go_ret2
  exact ⟨_, _, rfl, xs, HR2, HF, hk, hl, hc2.below⟩
end Go.Proofs.Ytjllidnkndhgmaa
