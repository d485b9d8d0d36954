/- RunDamp: the walks. -/
import Derived.Test.YtjllidnkndhgmaaRv
namespace Go.Proofs.Ytjllidnkndhgmaa
open Go.RowKit

section
variable {B : Nat} {W wr w1 w3 : World} {k : Nat} {v : Value} {xs : List (Nat × Nat)} (HO : wr.ownsRow B 38 1 v k (xs.map cv))
include HO
theorem ro_at {g cap j : Nat} (hv : v = .slice (some ⟨g, 0, none⟩) k cap) (h : j < xs.length) : wr.cell? ⟨g, j, none⟩ = some (.complex .f32 xs[j].1 xs[j].2) := by
  subst hv
  have hl : xs.length = k := by have := HO.1; simpa using this
  rw [HO.cellAt j (by omega)]
  simp [List.getElem?_eq_getElem h, cv]
theorem ro_slice (h : 0 < k) : ∃ g cap, v = .slice (some ⟨g, 0, none⟩) k cap := by
  rcases HO.2 with ⟨_, h0⟩ | ⟨g, cap, _, hv, _⟩
  · omega
  · exact ⟨g, cap, hv⟩
end

theorem below_own {B : Nat} {W w1 w3 : World} {k : Nat} {v : Value} {xs : List (Nat × Nat)} {o : Obj} (hB : Below B W w1) (hs : B ≤ w1.heap.size) (HO : (w1.alloc o).ownsRow B 38 1 v k (xs.map cv)) (hgr : (w1.alloc o).grownBy w3 v.ownBlock) : Below B W w3 :=
  (hB.alloc hs o).grown hgr (by simp; omega) (fun b hb => (HO.lt b hb).1)
theorem run_c3 {k : Nat} (h : k ≤ 110) : k + 1 ≤ maxLen := by unfold maxLen; omega
theorem run_c4 {k : Nat} (h : k ≤ 110) : (k + 1) * 8 ≤ 140737488355328 := by omega
theorem run_c5 {B : Nat} {w1 : World} (h : B ≤ w1.heap.size) (p q : Nat) : B ≤ (w1.alloc (.cells #[.complex .f32 p q] 38)).heap.size := by simp; omega

theorem own_drew {B : Nat} {wr w1 : World} {k : Nat} {v : Value} {xs : List (Nat × Nat)} {m : Nat} (HO : wr.ownsRow B 38 1 v k (xs.map cv)) (h : w1 = wr.drewN m) : w1.ownsRow B 38 1 v k (xs.map cv) := by subst h; exact HO
theorem below_drew {B : Nat} {W w w1 : World} {m : Nat} (HB : Below B W w) (h : w1 = w.drewN m) : Below B W w1 := by subst h; exact below_drewN HB m
theorem rdc_nil (w : World) : RdC w (.slice none 0 0) [] := ⟨none, 0, rfl, fun j hj => by simp at hj⟩

set_option maxHeartbeats 4000000 in
set_option maxRecDepth 100000 in
theorem iRunDamp (v : Value) (xs : List (Nat × Nat)) (k : Nat) (w : World) (h : RdC w v xs) (hf : FitsC xs) (hl : xs.length ≤ 110) :
    Calls Try.prog 58 #[v, .float .f32 k] w fun e w' => ∃ v', e = .returned v' ∧ RunR w' v' xs k ∧ Below w.heap.size w w' := by
  have HR := hid h
  have HF := hid hf
  obtain ⟨A, cap, rfl, hc⟩ := h
  have HC := hid hc
  clear hc hf
  obtain ⟨i0, hi, hz0, hz1, hz2⟩ := info_parts info_c64
  have hsc := fun (a : Addr) (n m : Nat) (w : World) => run_store Try.prog w a (.complex .f32 n m) .plain rfl
  by_cases hlen : xs.length ≤ 100
  · cases hv : okAll xs
    · have hn := hid (show ¬ RunOk xs k from fun h => by rw [h.1] at hv; cases hv)
      have HV := hid hv
      clear hv
      go_enter Try.func58, Try.ntmps58
      go_wp2_with (go_at_call 87; refine (iVels _ _ _ HR.out HF.out hl).mono ?_; rintro e w1 ⟨rfl, rfl⟩; rw [HV.out])
      go_ret
      exact ⟨_, rfl, .inr ⟨hn.out, rdc_nil _⟩, Below.refl _ _⟩
    · cases hs : shOk k
      · have hn := hid (show ¬ RunOk xs k from fun h => by rw [h.2.2.1] at hs; cases hs)
        have HV := hid hv
        have HS := hid hs
        clear hv hs
        go_enter Try.func58, Try.ntmps58
        go_wp2_with (first | (go_at_call 87; refine (iVels _ _ _ HR.out HF.out hl).mono ?_; rintro e w1 ⟨rfl, rfl⟩; rw [HV.out]) | (go_at_call 74; refine (ishare _ _).mono ?_; rintro e w1 ⟨rfl, rfl⟩; rw [HS.out]))
        go_ret
        exact ⟨_, rfl, .inr ⟨hn.out, rdc_nil _⟩, Below.refl _ _⟩
      · have HV := hid hv
        have HS := hid hs
        clear hv hs
        have HL := hid hlen
        go_enter Try.func58, Try.ntmps58
        go_wp2_with (first | (go_at_call 87; refine (iVels _ _ _ HR.out HF.out hl).mono ?_; rintro e w1 ⟨rfl, rfl⟩; rw [HV.out]) | (go_at_call 74; refine (ishare _ _).mono ?_; rintro e w1 ⟨rfl, rfl⟩; rw [HS.out]))
        go_loopw [5, 25] (fun v i wr => ∃ j : Nat, j ≤ xs.length ∧ i = .int .i64 j ∧ Hid (wr.ownsRow w.heap.size 38 1 v j ((outL xs k j).map cv)) ∧ Hid (Below w.heap.size w wr) ∧ Hid (∀ t, t < j → Fit .f32 (sq xs k t).1 ∧ Fit .f32 (sq xs k t).2) ∧ Hid (∀ t, t + 1 < j → velOk (sq xs k t).1 (sq xs k t).2 = true)) (fun _ i _ => 200 - (intOf i).toNat)
        case atStart => exact ⟨0, by omega, rfl, World.ownsRow_nil _ _ _ _, Below.refl _ _, fun t ht => by omega, fun t ht => by omega⟩
        case round =>
          obtain ⟨j, hj, rfl, HO, HB, HT, HG⟩ := hrel
          by_cases hlt : j < xs.length
          · obtain ⟨b, hA, hcell⟩ := HC.out j hlt
            subst hA
            have hcell2 := (HB.out.cell (World.block_lt_of_cell? w _ hcell)).trans hcell
            obtain ⟨x, y, hxy⟩ : ∃ x y, xs[j] = (x, y) := ⟨_, _, rfl⟩
            have hfit := HF.out _ (List.getElem_mem hlt)
            have hvel := okAll_at HV.out hlt
            rw [hxy] at hcell2 hfit hvel
            have hcx : wr.cell? ⟨b, j, none⟩ = some (.complex .f32 x y) := hcell2
            have HP := hid hfit
            have HXY := hid hxy
            have HVX := hid hvel
            have hsz := HB.out.size
            clear hcell hcell2 hfit hxy hvel
            by_cases hj0 : j = 0
            · subst hj0
              have hs0 : Hid (sq xs k 0 = (x, y)) := by show sq xs k 0 = _; rw [← HXY.out]; simp [sq, List.getD, hlt]
              go_wp2_with (at_builtin; refine wpList_append_own _ rfl _ _ 53 rfl w.heap.size 38 i0 (.complex .f32 0 0) 1 8 Try.underlying53 hi hz0 hz1 hz2 rfl (by decide) _ _ _ rfl (HO.out.alloc _) ⟨wr.heap.size, 0, none⟩ 1 1 [.complex .f32 _ _] rfl rfl (app_c1 _ _ _) (app_c2 _ _) (run_c3 (by omega)) (run_c4 (by omega)) (run_c5 hsz _ _) ?_; intro v' w3 hown3 hgr3 _; have H3 := hid hown3; have HB3 := hid (below_own HB.out hsz (HO.out.alloc _) hgr3); clear hown3 hgr3)
              go_roundw
              case rel =>
                refine ⟨1, by omega, by go_num, ?_, HB3.out, fun t ht => ?_, fun t ht => by omega⟩
                · have := H3.out
                  rw [outL_succ, List.map_append, hs0.out]
                  exact this
                · obtain rfl : t = 0 := by omega
                  rw [hs0.out]; exact HP.out
              case measure => (simp [intOf]; try omega)
            · obtain ⟨g, cp, rfl⟩ := ro_slice HO.out (by omega)
              obtain ⟨i, rfl⟩ : ∃ i, j = i + 1 := ⟨j - 1, by omega⟩
              obtain ⟨a, q, haq⟩ : ∃ a q, sq xs k i = (a, q) := ⟨_, _, rfl⟩
              have hlast : wr.cell? ⟨g, i, none⟩ = some (.complex .f32 a q) := by
                have := ro_at HO.out rfl (j := i) (by rw [outL_len]; omega)
                rw [outL_at _ _ _ _ (by omega), haq] at this
                exact this
              have hfa := HT.out i (by omega)
              rw [haq] at hfa
              have HFA := hid hfa
              have HAQ := hid haq
              clear hfa haq
              cases hvl : velOk a q
              · have hn := hid (show ¬ RunOk xs k from fun h => by have := h.2.2.2 i hlt; rw [HAQ.out] at this; rw [this] at hvl; cases hvl)
                have hd : dOk a q x y k = false := by rw [dOk, hvl]; rfl
                clear hvl
                go_wp2_with (go_at_call 33; refine (iDamp _ _ _ _ _ HFA.out.1 HFA.out.2 HP.out.1 HP.out.2 _).mono ?_; rintro e w1 ⟨r, s, rfl, _, _, m1, rfl⟩; rw [hd])
                go_ret
                exact ⟨_, rfl, .inr ⟨hn.out, rdc_nil _⟩, below_drewN HB.out _⟩
              · have hd : dOk a q x y k = true := by rw [dOk, hvl, HVX.out, HS.out]; rfl
                have HVL := hid hvl
                clear hvl
                go_wp2_with (first | (go_at_call 33; refine (iDamp _ _ _ _ _ HFA.out.1 HFA.out.2 HP.out.1 HP.out.2 _).mono ?_; rintro e w1 ⟨r, s, rfl, hr1, hr2, m1, hw1⟩; have HRS := hid (damp_step HVL.out HVX.out HS.out hr1 hr2); have HO1 := hid (own_drew HO.out hw1); have HB1 := hid (below_drew HB.out hw1); have hsz1 := HB1.out.size; clear hr1 hr2 hw1; rw [hd]) | (at_builtin; refine wpList_append_own _ rfl _ _ 53 rfl w.heap.size 38 i0 (.complex .f32 0 0) 1 8 Try.underlying53 hi hz0 hz1 hz2 rfl (by decide) _ _ _ rfl (HO1.out.alloc _) ⟨w1.heap.size, 0, none⟩ 1 1 [.complex .f32 _ _] rfl rfl (app_c1 _ _ _) (app_c2 _ _) (run_c3 (by omega)) (run_c4 (by omega)) (run_c5 hsz1 _ _) ?_; intro v' w3 hown3 hgr3 _; have H3 := hid hown3; have HB3 := hid (below_own HB1.out hsz1 (HO1.out.alloc _) hgr3); clear hown3 hgr3))
                go_roundw
                case rel =>
                  have hsq : sq xs k (i + 1) = (r, s) := by
                    show dampW (sq xs k i) (xs.getD (i + 1) (0, 0)) k = _
                    rw [HAQ.out, show xs.getD (i + 1) (0, 0) = (x, y) by rw [← HXY.out]; simp [List.getD, hlt]]
                    exact HRS.out.1.symm
                  refine ⟨i + 2, by omega, by go_num, ?_, HB3.out, fun t ht => ?_, fun t ht => ?_⟩
                  · have := H3.out
                    rw [outL_succ, List.map_append, hsq]
                    exact this
                  · by_cases he : t = i + 1
                    · subst he; rw [hsq]; exact HRS.out.2
                    · exact HT.out t (by omega)
                  · by_cases he : t = i
                    · subst he; rw [HAQ.out]; exact HVL.out
                    · exact HG.out t (by omega)
                case measure => (simp [intOf]; try omega)
          · obtain rfl : j = xs.length := by omega
            have hok := hid (show RunOk xs k from ⟨HV.out, HL.out, HS.out, fun t ht => HG.out t ht⟩)
            go_wp2
            go_ret
            exact ⟨_, rfl, .inl ⟨hok.out, rdc_of_own HO.out⟩, HB.out⟩
  · have hn := hid (show ¬ RunOk xs k from fun h => hlen h.2.1)
    go_enter Try.func58, Try.ntmps58
    go_wp2
    go_ret
    exact ⟨_, rfl, .inr ⟨hn.out, rdc_nil _⟩, Below.refl _ _⟩
end Go.Proofs.Ytjllidnkndhgmaa
