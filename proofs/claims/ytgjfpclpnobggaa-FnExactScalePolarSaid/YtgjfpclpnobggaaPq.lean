/- What a polar must be; PolarOk of the second side. -/
import Derived.Test.YtgjfpclpnobggaaPm
namespace Go.Proofs.Ytgjfpclpnobggaa
open Go.Shelf Go.RowKit
open Ieee (Format Datum)

def WindOk (x : Nat) : Prop := FloatKind.f32.format.order x 0 = some .gt ∧ (FloatKind.f32.format.order x 1120403456 = some .lt ∨ FloatKind.f32.format.order x 1120403456 = some .eq)
def BoatOk (x : Nat) : Prop := (FloatKind.f32.format.order x 0 = some .gt ∨ FloatKind.f32.format.order x 0 = some .eq) ∧ (FloatKind.f32.format.order x 1112014848 = some .lt ∨ FloatKind.f32.format.order x 1112014848 = some .eq)
structure PolOk (ws : List Nat) (an : List Int) (ss : List (List Nat)) : Prop where
  w1 : 1 ≤ ws.length
  w12 : ws.length ≤ 12
  a2 : 2 ≤ an.length
  a24 : an.length ≤ 24
  sl : ss.length = ws.length
  wind : ∀ j (h : j < ws.length), WindOk ws[j]
  incr : ∀ j (h : j + 1 < ws.length), FloatKind.f32.format.order ws[j + 1] ws[j] = some .gt
  row : ∀ j (h : j < ss.length), ss[j].length = an.length
  boat : ∀ j (h : j < ss.length), ∀ k (h2 : k < ss[j].length), BoatOk ss[j][k]
  ang : ∀ j (h : j + 1 < an.length), an[j] < an[j + 1]
  first : ∀ (h : 0 < an.length), an[0] = 0
  last : ∀ (h : an.length - 1 < an.length), an[an.length - 1] = 180
def Says (e : Ending) (p : Prop) : Prop := ∃ b, e = .returned (.bool b) ∧ (b = true ↔ p)
theorem says_no {p : Prop} (h : ¬ p) : Says (.returned (.bool false)) p := ⟨false, rfl, by simp [h]⟩
theorem says_yes {p : Prop} (h : p) : Says (.returned (.bool true)) p := ⟨true, rfl, by simp [h]⟩

theorem order_some {k : FloatKind} {x y : Nat} (hx : fc k x ≠ none) (hy : fc k y ≠ none) : k.format.order x y ≠ none := by
  have nx : (k.format.read x).isNaN = false := by
    cases h : (k.format.read x).isNaN with
    | false => rfl
    | true => exact absurd (fc_of_NaN h) hx
  have ny : (k.format.read y).isNaN = false := by
    cases h : (k.format.read y).isNaN with
    | false => rfl
    | true => exact absurd (fc_of_NaN h) hy
  unfold Format.order
  cases hrx : k.format.read x with
  | nan s t => rw [hrx] at nx; cases nx
  | infinity s => cases hry : k.format.read y with
    | nan s t => rw [hry] at ny; cases ny
    | infinity t => simp [Datum.order]
    | number s m e => simp [Datum.order]
  | number s m e => cases hry : k.format.read y with
    | nan s t => rw [hry] at ny; cases ny
    | infinity t => simp [Datum.order]
    | number s m e => simp [Datum.order]
theorem WindOk.nn {x : Nat} (h : WindOk x) : fc .f32 x ≠ none := by
  intro hn
  have := order_nan_l (k := .f32) (y := 0) hn
  rw [h.1] at this; cases this
theorem not_gt {x y : Nat} (hx : WindOk x) (hy : WindOk y) : FloatKind.f32.format.order x y ≠ some .gt ↔ (FloatKind.f32.format.order x y = some .lt ∨ FloatKind.f32.format.order x y = some .eq) := by
  have := order_some hx.nn hy.nn
  cases h : FloatKind.f32.format.order x y with
  | none => exact absurd h this
  | some o => cases o <;> simp

/-- the winds, and the rows, ahead of i -/
def Ahead (ws : List Nat) (an : List Int) (ss : List (List Nat)) (i : Nat) : Prop :=
  (∀ j (h : j < ws.length), j < i → WindOk ws[j]) ∧ (∀ j (h : j + 1 < ws.length), j + 1 < i → FloatKind.f32.format.order ws[j + 1] ws[j] = some .gt) ∧
  (∀ j (h : j < ss.length), j < i → ss[j].length = an.length ∧ ∀ k (h2 : k < ss[j].length), BoatOk ss[j][k])

theorem inc_at {ws : List Nat} {an : List Int} {ss : List (List Nat)} (h : PolOk ws an ss) {i j x y : Nat} (hi : i < ws.length) (hj : j < ws.length) (e : i = j + 1) (hx : ws[i] = x) (hy : ws[j] = y) : FloatKind.f32.format.order x y = some .gt := by
  subst e; subst hx; subst hy
  exact h.incr j hi
/-- the winds ahead, one more (the rows apart) -/
def AheadW (ws : List Nat) (i : Nat) : Prop :=
  (∀ j (h : j < ws.length), j < i → WindOk ws[j]) ∧ (∀ j (h : j + 1 < ws.length), j + 1 < i → FloatKind.f32.format.order ws[j + 1] ws[j] = some .gt)
theorem ang_at {ws : List Nat} {an : List Int} {ss : List (List Nat)} (h : PolOk ws an ss) {i j : Nat} {x y : Int} (hi : i < an.length) (hj : j < an.length) (e : i = j + 1) (hx : an[i] = x) (hy : an[j] = y) : y < x := by
  subst e; subst hx; subst hy
  exact h.ang j hi
theorem pol_all {ws : List Nat} {an : List Int} {ss : List (List Nat)} (q1 : 1 ≤ ws.length) (q2 : ws.length ≤ 12) (q3 : 2 ≤ an.length) (q4 : an.length ≤ 24) (q5 : ss.length = ws.length) (h : Ahead ws an ss ws.length) (ha : ∀ j (h : j + 1 < an.length), an[j] < an[j + 1]) {h0 : 0 < an.length} (hf : an[0] = 0) {q : Nat} (hq : q < an.length) (eq : q = an.length - 1) (hl : an[q] = 180) : PolOk ws an ss where
  w1 := q1
  w12 := q2
  a2 := q3
  a24 := q4
  sl := q5
  wind := fun j hj => h.1 j hj hj
  incr := fun j hj => h.2.1 j hj hj
  row := fun j hj => (h.2.2 j hj (by omega)).1
  boat := fun j hj => (h.2.2 j hj (by omega)).2
  ang := ha
  first := fun _ => hf
  last := fun _ => by subst eq; exact hl
theorem ahead_row {ws : List Nat} {an : List Int} {ss : List (List Nat)} {i : Nat} {row : List Nat} (h : Ahead ws an ss i) (hw : AheadW ws (i + 1)) (hi : i < ws.length) {hs : i < ss.length} (hr : ss[i] = row) (hl : row.length = an.length) (hb : ∀ j (h : j < row.length), BoatOk row[j]) : Ahead ws an ss (i + 1) := by
  refine ⟨hw.1, hw.2, fun j hj hji => ?_⟩
  by_cases e : j < i
  · exact h.2.2 j hj e
  · obtain rfl : j = i := by omega
    rw [hr]; exact ⟨hl, hb⟩
theorem ahead_next {ws : List Nat} {an : List Int} {ss : List (List Nat)} {i x : Nat} (h : Ahead ws an ss i) (hi : i < ws.length) (hx : ws[i] = x) (hw : WindOk x) (hg : ∀ j (_ : j + 1 < ws.length), j + 1 = i → FloatKind.f32.format.order (ws[j + 1]'(by omega)) (ws[j]'(by omega)) = some .gt) : AheadW ws (i + 1) := by
  refine ⟨fun j hj hji => ?_, fun j hj hji => ?_⟩
  · by_cases e : j < i
    · exact h.1 j hj e
    · obtain rfl : j = i := by omega
      rw [hx]; exact hw
  · by_cases e : j + 1 < i
    · exact h.2.1 j hj e
    · exact hg j hj (by omega)

set_option maxHeartbeats 4000000 in
set_option maxRecDepth 100000 in
theorem sPolarOk {w : World} {v : Value} {ws : List Nat} {an : List Int} {ss : List (List Nat)} (h : RdP w v ws an ss) :
    Calls Try.prog 11 #[v] w fun e w' => Says e (PolOk ws an ss) ∧ Below w.heap.size w w' := by
  obtain ⟨a, b, c, rfl, h1, h2, h3⟩ := h
  obtain ⟨l1, A1, c1, rfl, r1⟩ := h1
  obtain ⟨l2, A2, c2, rfl, r2⟩ := h2
  obtain ⟨l3, A3, c3, rfl, r3⟩ := h3
  have R1 := hid r1
  have R2 := hid r2
  have R3 := hid r3
  have HB := hid (fun o => (Below.refl w.heap.size w).alloc (Nat.le_refl _) o)
  clear r1 r2 r3
  by_cases hA : (1 ≤ ws.length ∧ ws.length ≤ 12) ∧ (2 ≤ an.length ∧ an.length ≤ 24) ∧ ss.length = ws.length
  · obtain ⟨⟨q1, q2⟩, ⟨q3, q4⟩, q5⟩ := hA
    have hq5 : ((ss.length : Int) != (ws.length : Int)) = false := by simp [q5]
    have Q5 := hid q5
    have q6 : ss.length ≤ 12 := by omega
    clear q5
    go_enter Try.func11, Try.ntmps11
    go_wp2_with (go_at_call 33; go_in)
    go_loopw [3] (fun iv wr => ∃ p : Int, iv = .int .i64 p ∧ 0 ≤ p ∧ p ≤ ws.length ∧ Hid (Ahead ws an ss p.toNat) ∧ Hid (Tri wr w.heap.size (.slice A1 ws.length c1) (.slice A2 an.length c2) (.slice A3 ss.length c3)) ∧ Hid (Below w.heap.size w wr)) (fun iv _ => 13 - (intOf iv).toNat)
    case atStart => exact ⟨0, rfl, by omega, by omega, ⟨fun j _ h => absurd h (by omega), fun j _ h => absurd h (by omega), fun j _ h => absurd h (by omega)⟩, (show Tri _ _ _ _ _ from heap_alloc_new w _), HB.out _⟩
    case round =>
      obtain ⟨p, rfl, p0, p1, HA, HT, HW⟩ := hrel
      obtain ⟨⟨x1, x2, x3⟩, _⟩ := HT.out.facts
      by_cases hlt : p < ws.length
      · have hi : p.toNat < ws.length := by omega
        have hp3 : p < (ss.length : Int) := by rw [Q5.out]; exact hlt
        obtain ⟨ad, rfl, hca⟩ := R1.out p.toNat hi
        have hcw := (HW.out.cell (World.block_lt_of_cell? w _ hca)).trans hca
        obtain ⟨ad3, u, rfl, hcs, hru⟩ := R3.out p.toNat (by rw [Q5.out]; omega)
        obtain ⟨row, hrw⟩ : ∃ r, ss[p.toNat]'(by rw [Q5.out]; omega) = r := ⟨_, rfl⟩
        rw [hrw] at hru
        have HRW := hid hrw
        clear hrw
        obtain ⟨lr, A4, c4, rfl, hrow⟩ := hru
        have hcs' := (HW.out.cell (World.block_lt_of_cell? w _ hcs)).trans hcs
        have HCS := hid hcs
        obtain ⟨x, hx⟩ : ∃ x, ws[p.toNat] = x := ⟨_, rfl⟩
        have HX := hid hx
        rw [hx] at hcw
        clear hx hca hcs
        obtain ⟨b1, hb1⟩ : ∃ b, (FloatKind.f32.format.order x 0 == some Ordering.gt) = b := ⟨_, rfl⟩
        obtain ⟨b2, hb2⟩ : ∃ b, (FloatKind.f32.format.order x 1120403456 == some Ordering.lt || FloatKind.f32.format.order x 1120403456 == some Ordering.eq) = b := ⟨_, rfl⟩
        have HNw := hid (fun (hno : ¬ WindOk x) => says_no (p := PolOk ws an ss) (fun h => hno (by have := h.wind p.toNat hi; rw [HX.out] at this; exact this)))
        obtain ⟨b4, hb4⟩ : ∃ b, ((row.length : Int) != (an.length : Int)) = b := ⟨_, rfl⟩
        cases b1
        · have HK := hid (HNw.out (fun h => by have := h.1; simp_all))
          go_wp2_with fail
          go_quiet (fail)
          go_wp2
          go_ret
          exact ⟨HK.out, below_drewN HW.out nq⟩
        · cases b2
          · have HK := hid (HNw.out (fun h => by have := h.2; simp_all))
            go_wp2_with fail
            go_quiet (fail)
            go_wp2
            go_ret
            exact ⟨HK.out, below_drewN HW.out nq⟩
          · have HWn := hid (show WindOk x from ⟨by simpa using hb1, by simpa using hb2⟩)
            by_cases hp : 0 < p
            · have hd : decide (0 < p) = true := decide_eq_true hp
              obtain ⟨q, hq⟩ : ∃ q, p - 1 = q := ⟨_, rfl⟩
              have hw1 : IntKind.i64.wrap q = q := by rw [IntKind.wrap_i64]; omega
              have hw4 : wrap64 q = q := by unfold wrap64; omega
              have hw2 : 0 ≤ q := by omega
              have hw3 : q < (ws.length : Int) := by omega
              have hi1 : q.toNat < ws.length := by omega
              obtain ⟨ad1, he1, hca1⟩ := R1.out q.toNat hi1
              obtain rfl : ad = ad1 := Option.some.inj he1
              have hcw1 := (HW.out.cell (World.block_lt_of_cell? w _ hca1)).trans hca1
              obtain ⟨y, hy⟩ : ∃ y, ws[q.toNat] = y := ⟨_, rfl⟩
              have HY := hid hy
              rw [hy] at hcw1
              clear hy hca1 he1
              have HWy := hid (show WindOk y by rw [← HY.out]; exact HA.out.1 _ hi1 (by omega))
              have HI := hid (fun (hno : FloatKind.f32.format.order x y ≠ some .gt) => says_no (p := PolOk ws an ss) (fun h => hno (inc_at h hi hi1 (by omega) HX.out HY.out)))
              obtain ⟨b3, hb3⟩ : ∃ b, (FloatKind.f32.format.order x y == some Ordering.lt || FloatKind.f32.format.order x y == some Ordering.eq) = b := ⟨_, rfl⟩
              cases b3
              · have HG := hid (show FloatKind.f32.format.order x y = some .gt from Classical.byContradiction fun hn => by
                  have := (not_gt HWn.out HWy.out).1 hn
                  simp_all)
                cases b4
                · have HRL := hid (show row.length = an.length by have h := hb4; simp at h; omega)
                  have HAn := hid (ahead_next HA.out hi HX.out HWn.out (fun j hj hjp => by
                    have e1 : ws[j + 1] = x := by rw [← HX.out]; congr 1
                    have e2 : ws[j]'(by omega) = y := by rw [← HY.out]; congr 1; omega
                    rw [e1, e2]; exact HG.out))
                  go_wp2_with fail
                  go_quiet (fail)
                  go_wp2_with fail
                  have HT1 := hid (HT.out.keep (below_drewN (Below.refl _ _) nq))
                  have HW1 := hid (below_drewN HW.out nq)
                  go_loopw [4] (fun kv w2 => ∃ k : Nat, kv = .int .i64 k ∧ k ≤ row.length ∧ Hid (∀ j (h : j < row.length), j < k → BoatOk row[j]) ∧ Hid (Tri w2 w.heap.size (.slice (some ad) ws.length c1) (.slice A2 an.length c2) (.slice (some ad3) ss.length c3)) ∧ Hid (Below w.heap.size w w2)) (fun kv _ => 25 - (intOf kv).toNat)
                  case atStart => exact ⟨0, rfl, by omega, fun j _ h => by omega, HT1.out, HW1.out⟩
                  case round =>
                    obtain ⟨k, rfl, hk, HBt, HT2, HW2⟩ := hrel
                    have hk24 : row.length ≤ 24 := by rw [HRL.out]; exact q4
                    obtain ⟨⟨z1, z2, z3⟩, _⟩ := HT2.out.facts
                    have hcs2 := (HW2.out.cell (World.block_lt_of_cell? w _ HCS.out)).trans HCS.out
                    clear x1 x2 x3 hcs' hcw hcw1
                    by_cases hkl : k < row.length
                    · obtain ⟨ad5, he5, hcr⟩ := hrow k hkl
                      subst he5
                      have hcr2 := (HW2.out.cell (World.block_lt_of_cell? w _ hcr)).trans hcr
                      obtain ⟨y5, hy5⟩ : ∃ y, row[k] = y := ⟨_, rfl⟩
                      have HY5 := hid hy5
                      rw [hy5] at hcr2
                      clear hy5 hcr
                      have hkl2 : (k : Int) < (row.length : Int) := by omega
                      obtain ⟨b5, hb5⟩ : ∃ b, (FloatKind.f32.format.order y5 0 == some Ordering.gt || FloatKind.f32.format.order y5 0 == some Ordering.eq) = b := ⟨_, rfl⟩
                      obtain ⟨b6, hb6⟩ : ∃ b, (FloatKind.f32.format.order y5 1112014848 == some Ordering.lt || FloatKind.f32.format.order y5 1112014848 == some Ordering.eq) = b := ⟨_, rfl⟩
                      have HNo := hid (fun (hno : ¬ BoatOk y5) => says_no (p := PolOk ws an ss) (fun h => hno (by
                        have h0 : p.toNat < ss.length := by rw [Q5.out]; exact hi
                        have h1 : k < ss[p.toNat].length := by rw [HRW.out]; exact hkl
                        have h2 := h.boat p.toNat h0 k h1
                        have h3 : ss[p.toNat][k] = y5 := by rw [← HY5.out]; congr 1 <;> exact HRW.out
                        rw [← h3]; exact h2)))
                      cases b5
                      · have HK := hid (HNo.out (fun h => by have := h.1; simp_all))
                        go_wp2
                        go_ret
                        exact ⟨HK.out, HW2.out⟩
                      · cases b6
                        · have HK := hid (HNo.out (fun h => by have := h.2; simp_all))
                          go_wp2
                          go_ret
                          exact ⟨HK.out, HW2.out⟩
                        · have HBn := hid (show BoatOk y5 from ⟨by simpa using hb5, by simpa using hb6⟩)
                          go_wp2
                          go_roundw
                          case rel => exact ⟨k + 1, by go_num, by omega, fun j hj hjk => by
                            by_cases e : j < k
                            · exact HBt.out j hj e
                            · obtain rfl : j = k := by omega
                              rw [HY5.out]; exact HBn.out, HT2.out, HW2.out⟩
                          case measure => simp [intOf]; omega
                    · obtain rfl : k = row.length := by omega
                      have HAll := hid (ahead_row HA.out HAn.out hi HRW.out HRL.out (fun j hj => HBt.out j hj hj))
                      go_wp2
                      go_roundw
                      case rel => exact ⟨p + 1, by go_num, by omega, by omega, by rw [show (p + 1).toNat = p.toNat + 1 by omega]; exact HAll.out, HT2.out, HW2.out⟩
                      case measure => simp [intOf]; omega
                · have HK := hid (says_no (p := PolOk ws an ss) (fun h => by
                    have h0 : p.toNat < ss.length := by rw [Q5.out]; exact hi
                    have h1 := h.row p.toNat h0
                    rw [HRW.out] at h1
                    rw [h1] at hb4; simp at hb4))
                  go_wp2_with fail
                  go_quiet (fail)
                  go_wp2
                  go_ret
                  exact ⟨HK.out, below_drewN HW.out nq⟩
              · have HK := hid (HI.out ((not_gt HWn.out HWy.out).2 (by simpa using hb3)))
                go_wp2_with fail
                go_quiet (fail)
                go_wp2
                go_ret
                exact ⟨HK.out, below_drewN HW.out nq⟩
            · have hd : decide (0 < p) = false := decide_eq_false hp
              cases b4
              · have HRL := hid (show row.length = an.length by have h := hb4; simp at h; omega)
                have HAn := hid (ahead_next HA.out hi HX.out HWn.out (fun j hj hjp => by omega))
                go_wp2_with fail
                go_quiet (fail)
                go_wp2_with fail
                have HT1 := hid (HT.out.keep (below_drewN (Below.refl _ _) nq))
                have HW1 := hid (below_drewN HW.out nq)
                go_loopw [4] (fun kv w2 => ∃ k : Nat, kv = .int .i64 k ∧ k ≤ row.length ∧ Hid (∀ j (h : j < row.length), j < k → BoatOk row[j]) ∧ Hid (Tri w2 w.heap.size (.slice (some ad) ws.length c1) (.slice A2 an.length c2) (.slice (some ad3) ss.length c3)) ∧ Hid (Below w.heap.size w w2)) (fun kv _ => 25 - (intOf kv).toNat)
                case atStart => exact ⟨0, rfl, by omega, fun j _ h => by omega, HT1.out, HW1.out⟩
                case round =>
                  obtain ⟨k, rfl, hk, HBt, HT2, HW2⟩ := hrel
                  have hk24 : row.length ≤ 24 := by rw [HRL.out]; exact q4
                  obtain ⟨⟨z1, z2, z3⟩, _⟩ := HT2.out.facts
                  have hcs2 := (HW2.out.cell (World.block_lt_of_cell? w _ HCS.out)).trans HCS.out
                  clear x1 x2 x3 hcs' hcw 
                  by_cases hkl : k < row.length
                  · obtain ⟨ad5, he5, hcr⟩ := hrow k hkl
                    subst he5
                    have hcr2 := (HW2.out.cell (World.block_lt_of_cell? w _ hcr)).trans hcr
                    obtain ⟨y5, hy5⟩ : ∃ y, row[k] = y := ⟨_, rfl⟩
                    have HY5 := hid hy5
                    rw [hy5] at hcr2
                    clear hy5 hcr
                    have hkl2 : (k : Int) < (row.length : Int) := by omega
                    obtain ⟨b5, hb5⟩ : ∃ b, (FloatKind.f32.format.order y5 0 == some Ordering.gt || FloatKind.f32.format.order y5 0 == some Ordering.eq) = b := ⟨_, rfl⟩
                    obtain ⟨b6, hb6⟩ : ∃ b, (FloatKind.f32.format.order y5 1112014848 == some Ordering.lt || FloatKind.f32.format.order y5 1112014848 == some Ordering.eq) = b := ⟨_, rfl⟩
                    have HNo := hid (fun (hno : ¬ BoatOk y5) => says_no (p := PolOk ws an ss) (fun h => hno (by
                      have h0 : p.toNat < ss.length := by rw [Q5.out]; exact hi
                      have h1 : k < ss[p.toNat].length := by rw [HRW.out]; exact hkl
                      have h2 := h.boat p.toNat h0 k h1
                      have h3 : ss[p.toNat][k] = y5 := by rw [← HY5.out]; congr 1 <;> exact HRW.out
                      rw [← h3]; exact h2)))
                    cases b5
                    · have HK := hid (HNo.out (fun h => by have := h.1; simp_all))
                      go_wp2
                      go_ret
                      exact ⟨HK.out, HW2.out⟩
                    · cases b6
                      · have HK := hid (HNo.out (fun h => by have := h.2; simp_all))
                        go_wp2
                        go_ret
                        exact ⟨HK.out, HW2.out⟩
                      · have HBn := hid (show BoatOk y5 from ⟨by simpa using hb5, by simpa using hb6⟩)
                        go_wp2
                        go_roundw
                        case rel => exact ⟨k + 1, by go_num, by omega, fun j hj hjk => by
                          by_cases e : j < k
                          · exact HBt.out j hj e
                          · obtain rfl : j = k := by omega
                            rw [HY5.out]; exact HBn.out, HT2.out, HW2.out⟩
                        case measure => simp [intOf]; omega
                  · obtain rfl : k = row.length := by omega
                    have HAll := hid (ahead_row HA.out HAn.out hi HRW.out HRL.out (fun j hj => HBt.out j hj hj))
                    go_wp2
                    go_roundw
                    case rel => exact ⟨p + 1, by go_num, by omega, by omega, by rw [show (p + 1).toNat = p.toNat + 1 by omega]; exact HAll.out, HT2.out, HW2.out⟩
                    case measure => simp [intOf]; omega
              · have HK := hid (says_no (p := PolOk ws an ss) (fun h => by
                  have h0 : p.toNat < ss.length := by rw [Q5.out]; exact hi
                  have h1 := h.row p.toNat h0
                  rw [HRW.out] at h1
                  rw [h1] at hb4; simp at hb4))
                go_wp2_with fail
                go_quiet (fail)
                go_wp2
                go_ret
                exact ⟨HK.out, below_drewN HW.out nq⟩
      · obtain rfl : p = ws.length := by omega
        have HAll := hid (show Ahead ws an ss ws.length from by have := HA.out; rw [Int.toNat_natCast] at this; exact this)
        go_wp2_with fail
        go_loopw [5] (fun kv w2 => ∃ k : Nat, kv = .int .i64 k ∧ 1 ≤ k ∧ k ≤ an.length ∧ Hid (∀ j (h : j + 1 < an.length), j + 1 < k → an[j] < an[j + 1]) ∧ Hid (Tri w2 w.heap.size (.slice A1 ws.length c1) (.slice A2 an.length c2) (.slice A3 ss.length c3)) ∧ Hid (Below w.heap.size w w2)) (fun kv _ => 25 - (intOf kv).toNat)
        case atStart => exact ⟨1, rfl, by omega, by omega, fun j _ h => by omega, HT.out, HW.out⟩
        case round =>
          obtain ⟨k, rfl, k1, k2, HI, HT2, HW2⟩ := hrel
          clear x1 x2 x3
          obtain ⟨⟨z1, z2, z3⟩, _⟩ := HT2.out.facts
          obtain ⟨ad2, rfl, hc0⟩ := R2.out 0 (by omega)
          by_cases hkl : k < an.length
          · obtain ⟨q, hq⟩ : ∃ q, (k : Int) - 1 = q := ⟨_, rfl⟩
            have hw1 : IntKind.i64.wrap q = q := by rw [IntKind.wrap_i64]; omega
            have hw4 : wrap64 q = q := by unfold wrap64; omega
            have hw2 : 0 ≤ q := by omega
            have hw3 : q < (an.length : Int) := by omega
            have hi1 : q.toNat < an.length := by omega
            have hkl2 : (k : Int) < (an.length : Int) := by omega
            obtain ⟨ad5, he5, hc5⟩ := R2.out k hkl
            obtain rfl : ad2 = ad5 := Option.some.inj he5
            obtain ⟨ad6, he6, hc6⟩ := R2.out q.toNat hi1
            obtain rfl : ad2 = ad6 := Option.some.inj he6
            have hc5' := (HW2.out.cell (World.block_lt_of_cell? w _ hc5)).trans hc5
            have hc6' := (HW2.out.cell (World.block_lt_of_cell? w _ hc6)).trans hc6
            obtain ⟨x5, hx5⟩ : ∃ y, an[k] = y := ⟨_, rfl⟩
            obtain ⟨x6, hx6⟩ : ∃ y, an[q.toNat] = y := ⟨_, rfl⟩
            have HX5 := hid hx5
            have HX6 := hid hx6
            have HQ := hid hq
            rw [hx5] at hc5'
            rw [hx6] at hc6'
            clear hx5 hx6 hc5 hc6 hc0 he5 he6
            by_cases hle : x5 ≤ x6
            · have HK := hid (says_no (p := PolOk ws an ss) (fun h => by have := ang_at h hkl hi1 (by have := HQ.out; omega) HX5.out HX6.out; omega))
              have hd : decide (x5 ≤ x6) = true := decide_eq_true hle
              go_wp2_with fail
              (try go_quiet (fail))
              (try go_wp2)
              go_ret
              exact ⟨HK.out, by first | exact HW2.out | exact below_drewN HW2.out _⟩
            · have hd : decide (x5 ≤ x6) = false := decide_eq_false hle
              have HIn := hid (show ∀ j (h : j + 1 < an.length), j + 1 < k + 1 → an[j] < an[j + 1] from fun j hj hjk => by
                by_cases e : j + 1 < k
                · exact HI.out j hj e
                · have e1 : an[j + 1] = x5 := by rw [← HX5.out]; congr 1; omega
                  have e2 : an[j] = x6 := by rw [← HX6.out]; congr 1; have := HQ.out; omega
                  omega)
              go_wp2_with fail
              (try go_quiet (fail))
              (try go_wp2)
              go_roundw
              case rel => exact ⟨k + 1, by go_num, by omega, by omega, HIn.out, (by first | exact HT2.out | exact (show Tri _ _ _ _ _ from HT2.out.keep (below_drewN (Below.refl _ _) _))), by first | exact HW2.out | exact below_drewN HW2.out _⟩
              case measure => simp [intOf]; omega
          · obtain rfl : k = an.length := by omega
            obtain ⟨q, hq⟩ : ∃ q, (an.length : Int) - 1 = q := ⟨_, rfl⟩
            have hw1 : IntKind.i64.wrap q = q := by rw [IntKind.wrap_i64]; omega
            have hw4 : wrap64 q = q := by unfold wrap64; omega
            have hw2 : 0 ≤ q := by omega
            have hw3 : q < (an.length : Int) := by omega
            have hi1 : q.toNat < an.length := by omega
            have hi0 : 0 < an.length := by omega
            have hi0' : (0 : Int) < (an.length : Int) := by omega
            obtain ⟨ad6, he6, hc6⟩ := R2.out q.toNat hi1
            obtain rfl : ad2 = ad6 := Option.some.inj he6
            have hc0' := (HW2.out.cell (World.block_lt_of_cell? w _ hc0)).trans hc0
            have hc6' := (HW2.out.cell (World.block_lt_of_cell? w _ hc6)).trans hc6
            obtain ⟨x5, hx5⟩ : ∃ y, an[0] = y := ⟨_, rfl⟩
            obtain ⟨x6, hx6⟩ : ∃ y, an[q.toNat] = y := ⟨_, rfl⟩
            have HX5 := hid hx5
            have HX6 := hid hx6
            have HQ := hid hq
            rw [hx5] at hc0'
            rw [show ad2.add 0 = ad2 by unfold Addr.add; simp] at hc0'
            rw [hx6] at hc6'
            clear hx5 hx6 hc6 hc0 he6
            by_cases e0 : x5 = 0
            · by_cases e1 : x6 = 180
              · have HK := hid (says_yes (p := PolOk ws an ss) (pol_all q1 q2 q3 q4 Q5.out HAll.out (fun j hj => HI.out j hj hj) (by rw [HX5.out]; exact e0) hi1 (by have := HQ.out; omega) (by rw [HX6.out]; exact e1)))
                have hd0 : (x5 == 0) = true := by simp [e0]
                have hd1 : (x6 == 180) = true := by simp [e1]
                clear e0 e1
                go_wp2_with fail
                (try go_quiet (fail))
                (try go_wp2)
                go_ret
                exact ⟨HK.out, by first | exact HW2.out | exact below_drewN HW2.out _⟩
              · have HK := hid (says_no (p := PolOk ws an ss) (fun h => e1 (by rw [← HX6.out]; have := h.last (by omega); rw [← this]; congr 1; have := HQ.out; omega)))
                have hd0 : (x5 == 0) = true := by simp [e0]
                have hd1 : (x6 == 180) = false := by simp [e1]
                clear e0 e1
                go_wp2_with fail
                (try go_quiet (fail))
                (try go_wp2)
                go_ret
                exact ⟨HK.out, by first | exact HW2.out | exact below_drewN HW2.out _⟩
            · have HK := hid (says_no (p := PolOk ws an ss) (fun h => e0 (by rw [← HX5.out]; exact h.first hi0)))
              have hd0 : (x5 == 0) = false := by simp [e0]
              clear e0
              go_wp2_with fail
              (try go_quiet (fail))
              (try go_wp2)
              go_ret
              exact ⟨HK.out, by first | exact HW2.out | exact below_drewN HW2.out _⟩
  · have HN := hid (says_no (p := PolOk ws an ss) (fun h => hA ⟨⟨h.w1, h.w12⟩, ⟨h.a2, h.a24⟩, h.sl⟩))
    have hA' := hid hA
    clear hA
    by_cases t1 : 1 ≤ ws.length
    · by_cases t2 : ws.length ≤ 12
      · by_cases t3 : 2 ≤ an.length
        · by_cases t4 : an.length ≤ 24
          · have hq5 : ((ss.length : Int) != (ws.length : Int)) = true := by
              rw [bne_iff_ne]; intro e; exact hA'.out ⟨⟨t1, t2⟩, ⟨t3, t4⟩, by omega⟩
            go_enter Try.func11, Try.ntmps11
            go_wp2_with (go_at_call 33; go_in)
            go_ret
            exact ⟨HN.out, HB.out _⟩
          · go_enter Try.func11, Try.ntmps11
            go_wp2_with (go_at_call 33; go_in)
            go_ret
            exact ⟨HN.out, HB.out _⟩
        · go_enter Try.func11, Try.ntmps11
          go_wp2_with (go_at_call 33; go_in)
          go_ret
          exact ⟨HN.out, HB.out _⟩
      · go_enter Try.func11, Try.ntmps11
        go_wp2_with (go_at_call 33; go_in)
        go_ret
        exact ⟨HN.out, HB.out _⟩
    · go_enter Try.func11, Try.ntmps11
      go_wp2_with (go_at_call 33; go_in)
      go_ret
      exact ⟨HN.out, HB.out _⟩
end Go.Proofs.Ytgjfpclpnobggaa
