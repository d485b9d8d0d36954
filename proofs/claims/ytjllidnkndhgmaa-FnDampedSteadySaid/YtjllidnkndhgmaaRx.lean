/- RunDamp of the second side: the walk. -/
import Derived.Test.YtjllidnkndhgmaaRw
namespace Go.Proofs.Ytjllidnkndhgmaa
open Go.RowKit

theorem rdc_empty (w : World) (b : Nat) : RdC w (.slice (some ⟨b, 0, none⟩) 0 0) [] := ⟨_, 0, rfl, fun j hj => by simp at hj⟩

theorem damp_fit {a q x y k : Nat} (h1 : velOk a q = true) (h2 : velOk x y = true) (h3 : shOk k = true) : Fit .f32 (dampW (a, q) (x, y) k).1 ∧ Fit .f32 (dampW (a, q) (x, y) k).2 := by
  obtain ⟨⟨f1, a1, a2⟩, ⟨f2, b1, b2⟩⟩ := vel_fnt h1
  obtain ⟨⟨g1, c1, c2⟩, ⟨g2, d1, d2⟩⟩ := vel_fnt h2
  obtain ⟨u, hu, _, uf⟩ := damp_fin f1 g1 a1 a2 c1 c2 h3
  obtain ⟨v, hv, _, vf⟩ := damp_fin f2 g2 b1 b2 d1 d2 h3
  rw [dampW, hu, hv]
  exact ⟨uf, vf⟩
theorem sDampYes {a q x y k : Nat} (ha : Fit .f32 a) (hq : Fit .f32 q) (hx : Fit .f32 x) (hy : Fit .f32 y) (h1 : velOk a q = true) (h2 : velOk x y = true) (h3 : shOk k = true) (w : World) :
    Calls Try.prog 47 #[.complex .f32 a q, .complex .f32 x y, .float .f32 k] w fun e w' => e = .returned (.tuple #[.complex .f32 (dampW (a, q) (x, y) k).1 (dampW (a, q) (x, y) k).2, .bool true]) ∧ ∃ m, w' = w.drewN m :=
  (sDamp a q x y k ha hq hx hy w).mono fun e w' ⟨r, s, he, hr, hs, m, hw⟩ => by
    have hd : dOk a q x y k = true := by rw [dOk, h1, h2, h3]; rfl
    have := (damp_step h1 h2 h3 hr hs).1
    rw [← this, he, hd]
    exact ⟨rfl, m, hw⟩
theorem sDampNo {a q x y k : Nat} (ha : Fit .f32 a) (hq : Fit .f32 q) (hx : Fit .f32 x) (hy : Fit .f32 y) (h1 : velOk a q = false) (w : World) :
    Calls Try.prog 47 #[.complex .f32 a q, .complex .f32 x y, .float .f32 k] w fun e w' => e = .returned (.tuple #[.complex .f32 0 0, .bool false]) ∧ ∃ m, w' = w.drewN m :=
  (sDamp a q x y k ha hq hx hy w).mono fun e w' ⟨r, s, he, hr, hs, m, hw⟩ => by
    have hd : dOk a q x y k = false := by rw [dOk, h1]; rfl
    rw [hd] at hr hs he
    have e1 := hr.eq32 (p := 0) rfl
    have e2 := hs.eq32 (p := 0) rfl
    rw [he, e1, e2]
    exact ⟨rfl, m, hw⟩

set_option maxHeartbeats 4000000 in
set_option maxRecDepth 100000 in
theorem sRunDamp (v : Value) (xs : List (Nat × Nat)) (k : Nat) (w : World) (h : RdC w v xs) (hf : FitsC xs) (hl : xs.length ≤ 110) :
    Calls Try.prog 59 #[v, .float .f32 k] w fun e w' => ∃ v', e = .returned v' ∧ RunR w' v' xs k ∧ Below w.heap.size w w' := by
  have hb0 : Below w.heap.size w (w.alloc (.cells #[] 38)) := (Below.refl _ _).alloc (Nat.le_refl _) _
  have HR := hid (h.below hb0)
  have HB0 := hid hb0
  have HO0 := hid (World.ownsRow_lit (e := 38) (size := 1) (base := w.heap.size) w #[] 0 (Nat.le_refl _) (by decide) (by rfl))
  have HF := hid hf
  obtain ⟨A, cap, rfl, hc⟩ := h
  have HC := hid hc
  clear hc hf hb0
  obtain ⟨i0, hi, hz0, hz1, hz2⟩ := info_parts info_c64
  have hsc := fun (a : Addr) (n m : Nat) (w : World) => run_store Try.prog w a (.complex .f32 n m) .plain rfl
  cases hv1 : (okAll xs && decide (xs.length ≤ 100))
  · have hn := hid (show ¬ RunOk xs k from fun h => by rw [h.1, decide_eq_true h.2.1] at hv1; cases hv1)
    have HV := hid hv1
    clear hv1
    go_enter Try.func59, Try.ntmps59
    go_wp2_with (go_at_call 99; refine (sAll _ _ _ HR.out HF.out hl).mono ?_; rintro e w1 ⟨rfl, rfl⟩; rw [HV.out])
    go_ret
    exact ⟨_, rfl, .inr ⟨hn.out, rdc_empty _ _⟩, HB0.out⟩
  · cases hs : shOk k
    · have hn := hid (show ¬ RunOk xs k from fun h => by rw [h.2.2.1] at hs; cases hs)
      have HV := hid hv1
      have HS := hid hs
      clear hv1 hs
      go_enter Try.func59, Try.ntmps59
      go_wp2_with (first | (go_at_call 99; refine (sAll _ _ _ HR.out HF.out hl).mono ?_; rintro e w1 ⟨rfl, rfl⟩; rw [HV.out]) | (go_at_call 91; refine (sshare _ _).mono ?_; rintro e w1 ⟨rfl, rfl⟩; rw [HS.out]))
      go_ret
      exact ⟨_, rfl, .inr ⟨hn.out, rdc_empty _ _⟩, HB0.out⟩
    · have HV1 := hid hv1
      have HS := hid hs
      have HV : Hid (okAll xs = true) := by have := hv1; simp only [Bool.and_eq_true] at this; exact this.1
      have hlen : xs.length ≤ 100 := by have := hv1; simp only [Bool.and_eq_true, decide_eq_true_eq] at this; exact this.2
      have HL := hid hlen
      clear hv1 hs
      go_enter Try.func59, Try.ntmps59
      go_wp2_with (first | (go_at_call 99; refine (sAll _ _ _ HR.out HF.out hl).mono ?_; rintro e w1 ⟨rfl, rfl⟩; rw [HV1.out]) | (go_at_call 91; refine (sshare _ _).mono ?_; rintro e w1 ⟨rfl, rfl⟩; rw [HS.out]))
      go_loopw [5, 6] (fun v i wr => ∃ j : Nat, j ≤ xs.length ∧ i = .int .i64 j ∧ Hid (wr.ownsRow w.heap.size 38 1 v j ((outL xs k j).map cv)) ∧ Hid (Below w.heap.size w wr) ∧ Hid (∀ t, t < j → Fit .f32 (sq xs k t).1 ∧ Fit .f32 (sq xs k t).2) ∧ Hid (∀ t, t + 1 < j → velOk (sq xs k t).1 (sq xs k t).2 = true)) (fun _ i _ => 200 - (intOf i).toNat)
      case atStart => exact ⟨0, by omega, rfl, HO0.out, HB0.out, fun t ht => by omega, fun t ht => by omega⟩
      case round =>
        obtain ⟨j, hj, rfl, HO, HB, HT, HG⟩ := hrel
        by_cases hlt : j < xs.length
        · obtain ⟨b, hA, hcell⟩ := HC.out j hlt
          subst hA
          have hcell2 := (HB.out.cell (World.block_lt_of_cell? w _ hcell)).trans hcell
          obtain ⟨x, y, hxy⟩ : ∃ x y, xs[j] = (x, y) := ⟨_, _, rfl⟩
          have hfit := HF.out _ (List.getElem_mem hlt)
          have hvel := okAll_at HV.out hlt
          rw [hxy] at hcell2 hfit hvel
          have hcx : wr.cell? ⟨b, j, none⟩ = some (.complex .f32 x y) := hcell2
          have HP := hid hfit
          have HXY := hid hxy
          have HVX := hid hvel
          have hsz := HB.out.size
          clear hcell hcell2 hfit hxy hvel
          by_cases hj0 : j = 0
          · subst hj0
            have hs0 : Hid (sq xs k 0 = (x, y)) := by show sq xs k 0 = _; rw [← HXY.out]; simp [sq, List.getD, hlt]
            go_wp2_with (at_builtin; refine wpList_append_own _ rfl _ _ 53 rfl w.heap.size 38 i0 (.complex .f32 0 0) 1 8 Try.underlying53 hi hz0 hz1 hz2 rfl (by decide) _ _ _ rfl (HO.out.alloc _) ⟨wr.heap.size, 0, none⟩ 1 1 [.complex .f32 _ _] rfl rfl (app_c1 _ _ _) (app_c2 _ _) (run_c3 (by omega)) (run_c4 (by omega)) (run_c5 hsz _ _) ?_; intro v' w3 hown3 hgr3 _; have H3 := hid hown3; have HB3 := hid (below_own HB.out hsz (HO.out.alloc _) hgr3); clear hown3 hgr3)
            go_roundw
            case rel =>
              refine ⟨1, by omega, by go_num, ?_, HB3.out, fun t ht => ?_, fun t ht => by omega⟩
              · have := H3.out
                rw [outL_succ, List.map_append, hs0.out]
                exact this
              · obtain rfl : t = 0 := by omega
                rw [hs0.out]; exact HP.out
            case measure => (simp [intOf]; try omega)
          · obtain ⟨g, cp, rfl⟩ := ro_slice HO.out (by omega)
            obtain ⟨i, rfl⟩ : ∃ i, j = i + 1 := ⟨j - 1, by omega⟩
            obtain ⟨a, q, haq⟩ : ∃ a q, sq xs k i = (a, q) := ⟨_, _, rfl⟩
            have hlast : wr.cell? ⟨g, i, none⟩ = some (.complex .f32 a q) := by
              have := ro_at HO.out rfl (j := i) (by rw [outL_len]; omega)
              rw [outL_at _ _ _ _ (by omega), haq] at this
              exact this
            have hfa := HT.out i (by omega)
            rw [haq] at hfa
            have HFA := hid hfa
            have HAQ := hid haq
            clear hfa haq
            cases hvl : velOk a q
            · have hn := hid (show ¬ RunOk xs k from fun h => by have := h.2.2.2 i hlt; rw [HAQ.out] at this; rw [this] at hvl; cases hvl)
              have HVL := hid hvl
              clear hvl
              go_wp2
              go_quiet (refine Calls.quiet_of (sDampNo HFA.out.1 HFA.out.2 HP.out.1 HP.out.2 HVL.out _))
              go_wp2
              go_ret
              exact ⟨_, rfl, .inr ⟨hn.out, rdc_empty _ _⟩, (below_drewN HB.out nq).alloc (by have := HB.out.size; simpa using this) _⟩
            · have HVL := hid hvl
              clear hvl
              go_wp2
              go_quiet (refine Calls.quiet_of (sDampYes HFA.out.1 HFA.out.2 HP.out.1 HP.out.2 HVL.out HVX.out HS.out _))
              obtain ⟨w1, hw1⟩ : ∃ w1, w1 = wr.drewN nq := ⟨_, rfl⟩
              rw [← hw1]
              have hsq : sq xs k (i + 1) = dampW (a, q) (x, y) k := by
                show dampW (sq xs k i) (xs.getD (i + 1) (0, 0)) k = _
                rw [HAQ.out, show xs.getD (i + 1) (0, 0) = (x, y) by rw [← HXY.out]; simp [List.getD, hlt]]
              have hfr : Fit .f32 (dampW (a, q) (x, y) k).1 ∧ Fit .f32 (dampW (a, q) (x, y) k).2 := damp_fit HVL.out HVX.out HS.out
              have HSQ := hid hsq
              have HRS := hid hfr
              have HO1 := hid (own_drew HO.out hw1)
              have HB1 := hid (below_drew HB.out hw1)
              have hsz1 := HB1.out.size
              clear hw1 hsq hfr
              go_wp2_with (at_builtin; refine wpList_append_own _ rfl _ _ 53 rfl w.heap.size 38 i0 (.complex .f32 0 0) 1 8 Try.underlying53 hi hz0 hz1 hz2 rfl (by decide) _ _ _ rfl (HO1.out.alloc _) ⟨w1.heap.size, 0, none⟩ 1 1 [.complex .f32 _ _] rfl rfl (app_c1 _ _ _) (app_c2 _ _) (run_c3 (by omega)) (run_c4 (by omega)) (run_c5 hsz1 _ _) ?_; intro v' w3 hown3 hgr3 _; have H3 := hid hown3; have HB3 := hid (below_own HB1.out hsz1 (HO1.out.alloc _) hgr3); clear hown3 hgr3)
              go_roundw
              case rel =>
                refine ⟨i + 2, by omega, by go_num, ?_, HB3.out, fun t ht => ?_, fun t ht => ?_⟩
                · have := H3.out
                  rw [outL_succ, List.map_append, HSQ.out]
                  exact this
                · by_cases he : t = i + 1
                  · subst he; rw [HSQ.out]; exact HRS.out
                  · exact HT.out t (by omega)
                · by_cases he : t = i
                  · subst he; rw [HAQ.out]; exact HVL.out
                  · exact HG.out t (by omega)
              case measure => (simp [intOf]; try omega)
        · obtain rfl : j = xs.length := by omega
          have hok := hid (show RunOk xs k from ⟨HV.out, HL.out, HS.out, fun t ht => HG.out t ht⟩)
          go_wp2
          go_ret
          exact ⟨_, rfl, .inl ⟨hok.out, rdc_of_own HO.out⟩, HB.out⟩
end Go.Proofs.Ytjllidnkndhgmaa
