/- Polars: comparisons of whole numbers, of rows, of polars. -/
import Derived.Test.YtgjfpclpnobggaaPe
namespace Go.Proofs.Ytgjfpclpnobggaa
open Go.Shelf Go.RowKit

theorem below2 (w : World) (o1 o2 : Obj) : Below w.heap.size w ((w.alloc o1).alloc o2) := ((Below.refl _ w).alloc (Nat.le_refl _) o1).alloc (by simp) o2
theorem blkA (w : World) (o1 o2 : Obj) : ((w.alloc o1).alloc o2).heap[w.heap.size]? = some o1 := by
  have h := heap_alloc_new w o1
  exact (Below.heap_alloc _ o2 _ (lt_of_block h)).trans h
theorem blkB (w : World) (o1 o2 : Obj) : ((w.alloc o1).alloc o2).heap[w.heap.size + 1]? = some o2 := by
  have h := heap_alloc_new (w.alloc o1) o2
  rw [show (w.alloc o1).heap.size = w.heap.size + 1 by simp] at h
  exact h
theorem RdF.drew {w : World} {v : Value} {xs : List Nat} (h : RdF w v xs) : RdF w.drew v xs := h.below (Below.refl _ _).drew
theorem RdI.drew {w : World} {v : Value} {xs : List Int} (h : RdI w v xs) : RdI w.drew v xs := h.below (Below.refl _ _).drew
theorem RdG.drew {w : World} {v : Value} {xs : List (List Nat)} (h : RdG w v xs) : RdG w.drew v xs := h.below (Below.refl _ _).drew

set_option maxHeartbeats 1000000 in
set_option maxRecDepth 100000 in
theorem eqI {w : World} {a b : Value} {xs : List Int} (hl : xs.length ≤ 1048576) (ha : RdI w a xs) (hb : RdI w b xs) :
    Calls Try.prog 42 #[a, b] w fun e w' => e = .returned (.bool true) ∧ Below w.heap.size w w' := by
  have HA0 := hid ha
  have HB0 := hid hb
  obtain ⟨_, A, ca, rfl, hA⟩ := ha
  obtain ⟨_, B, cb, rfl, hB⟩ := hb
  clear hA hB
  go_enter Try.func42, Try.ntmps42
  go_wp2
  go_loopw [5] (fun iv wr => ∃ i : Nat, iv = .int .i64 i ∧ i ≤ xs.length ∧ Hid (Below w.heap.size w wr)) (fun iv _ => 1048577 - (intOf iv).toNat)
  case atStart => exact ⟨0, rfl, by omega, Below.refl _ _⟩
  case round =>
    obtain ⟨i, rfl, hi, HW⟩ := hrel
    by_cases hlt : i < xs.length
    · obtain ⟨_, A', ca', hv, hA⟩ := HA0.out.below HW.out
      injection hv with hv1 hv2 hv3
      subst hv1; subst hv3
      obtain ⟨_, B', cb', hv, hB⟩ := HB0.out.below HW.out
      injection hv with hv1 hv2 hv3
      subst hv1; subst hv3
      obtain ⟨ba, rfl, hca⟩ := hA i hlt
      obtain ⟨bb, rfl, hcb⟩ := hB i hlt
      clear hA hB
      generalize xs[i] = x at hca hcb
      go_wp2_with fail
      go_region
      go_wp2
      go_roundw
      case rel => exact ⟨i + 1, by go_num, by omega, HW.out.drew⟩
      case measure => simp [intOf]; omega
    · obtain rfl : i = xs.length := by omega
      go_wp2
      go_ret
      exact ⟨rfl, HW.out⟩

set_option maxHeartbeats 1000000 in
set_option maxRecDepth 100000 in
theorem eqG {w : World} {a b : Value} {xss : List (List Nat)} (hl : xss.length ≤ 1048576) (hl2 : ∀ r ∈ xss, r.length ≤ 1048576) (ha : RdG w a xss) (hb : RdG w b xss) :
    Calls Try.prog 43 #[a, b] w fun e w' => e = .returned (.bool true) ∧ Below w.heap.size w w' := by
  have HA0 := hid ha
  have HB0 := hid hb
  have HN := hid hl2
  obtain ⟨_, A, ca, rfl, hA⟩ := ha
  obtain ⟨_, B, cb, rfl, hB⟩ := hb
  clear hA hB hl2
  go_enter Try.func43, Try.ntmps43
  go_wp2
  go_loopw [5] (fun iv wr => ∃ i : Nat, iv = .int .i64 i ∧ i ≤ xss.length ∧ Hid (Below w.heap.size w wr)) (fun iv _ => 1048577 - (intOf iv).toNat)
  case atStart => exact ⟨0, rfl, by omega, Below.refl _ _⟩
  case round =>
    obtain ⟨i, rfl, hi, HW⟩ := hrel
    by_cases hlt : i < xss.length
    · obtain ⟨_, A', ca', hv, hA⟩ := HA0.out.below HW.out
      injection hv with hv1 hv2 hv3
      subst hv1; subst hv3
      obtain ⟨_, B', cb', hv, hB⟩ := HB0.out.below HW.out
      injection hv with hv1 hv2 hv3
      subst hv1; subst hv3
      obtain ⟨ba, u, rfl, hca, hru⟩ := hA i hlt
      obtain ⟨bb, u', rfl, hcb, hru'⟩ := hB i hlt
      have HU := hid hru
      have HU' := hid hru'
      have hxl := HN.out xss[i] (List.getElem_mem hlt)
      clear hA hB hru hru'
      generalize xss[i] = x at HU HU' hxl
      have hent : ∀ args w, (callFunc 41 args).run Try.prog w = .ok (.enter 41 args) w := enters_of Try.func41 (by kernel_rfl) rfl
      go_wp2_with fail
      go_region_law (refine step_call2 rfl 41 (.tmp 20) (.tmp 24) 22 rfl hent _ _ (.bool true) rfl rfl _ (eqF hxl HU.out.drew HU'.out.drew) ?_; intro w3 hB3)
      all_goals
        have HB3 := hid (HW.out.drew.trans (hB3.mono HW.out.size))
        clear hB3
        go_wp2
        go_roundw
        case rel => exact ⟨i + 1, by go_num, by omega, HB3.out⟩
        case measure => simp [intOf]; omega
    · obtain rfl : i = xss.length := by omega
      go_wp2
      go_ret
      exact ⟨rfl, HW.out⟩

set_option maxHeartbeats 1000000 in
set_option maxRecDepth 100000 in
theorem eqP {w : World} {v v' : Value} {ws : List Nat} {an : List Int} {ss : List (List Nat)} (hS : Small ws an ss) (h : RdP w v ws an ss) (h' : RdP w v' ws an ss) :
    Calls Try.prog 14 #[v, v'] w fun e w' => e = .returned (.bool true) ∧ Below w.heap.size w w' := by
  obtain ⟨a, b, c, rfl, h1, h2, h3⟩ := h
  obtain ⟨a', b', c', rfl, h1', h2', h3'⟩ := h'
  obtain ⟨s1, s2, s3, s4⟩ := hS
  have HN := hid s4
  have H1 := hid h1
  have H2 := hid h2
  have H3 := hid h3
  have H1' := hid h1'
  have H2' := hid h2'
  have H3' := hid h3'
  clear h1 h2 h3 h1' h2' h3' s4
  go_enter Try.func14, Try.ntmps14
  go_wp2_with fail
  have hb0 := below2 w (.cells #[a, b, c] 29) (.cells #[a', b', c'] 29)
  have hx : Tri _ _ _ _ _ := blkA w (.cells #[a, b, c] 29) (.cells #[a', b', c'] 29)
  have hy : Tri _ _ _ _ _ := blkB w (.cells #[a, b, c] 29) (.cells #[a', b', c'] 29)
  refine (eqF s1 (H1.out.below hb0) (H1'.out.below hb0)).mono ?_
  rintro e w1 ⟨rfl, hb1⟩
  have hx1 := hid (hx.keep hb1)
  have hy1 := hid (hy.keep hb1)
  have HB1 := hid (hb0.trans (hb1.mono hb0.size))
  obtain ⟨⟨p1, p2, p3⟩, _⟩ := hx1.out.facts
  obtain ⟨⟨q1, q2, q3⟩, _⟩ := hy1.out.facts
  clear hb0 hx hy hb1
  go_wp2_with fail
  refine (eqI s2 (H2.out.below HB1.out) (H2'.out.below HB1.out)).mono ?_
  rintro e w2 ⟨rfl, hb2⟩
  have hx2 := hid (hx1.out.keep hb2)
  have hy2 := hid (hy1.out.keep hb2)
  have HB2 := hid (HB1.out.trans (hb2.mono HB1.out.size))
  clear p1 p2 p3 q1 q2 q3
  obtain ⟨⟨p1, p2, p3⟩, _⟩ := hx2.out.facts
  obtain ⟨⟨q1, q2, q3⟩, _⟩ := hy2.out.facts
  clear hb2
  go_wp2_with fail
  refine (eqG s3 HN.out (H3.out.below HB2.out) (H3'.out.below HB2.out)).mono ?_
  rintro e w3 ⟨rfl, hb3⟩
  have HB3 := hid (HB2.out.trans (hb3.mono HB2.out.size))
  clear hb3
  go_wp2
  go_ret
  exact ⟨rfl, HB3.out⟩

end Go.Proofs.Ytgjfpclpnobggaa
