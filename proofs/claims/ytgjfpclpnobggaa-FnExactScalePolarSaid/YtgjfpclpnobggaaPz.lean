/- PolarOk of the first side. -/
import Derived.Test.YtgjfpclpnobggaaPq
namespace Go.Proofs.Ytgjfpclpnobggaa
open Go.Shelf Go.RowKit

theorem boatI (x : Nat) (w : World) :
    Calls Try.prog 40 #[.float .f32 x] w fun e w' => Says e (BoatOk x) ∧ w = w' := by
  obtain ⟨b5, hb5⟩ : ∃ b, (FloatKind.f32.format.order x 0 == some Ordering.gt || FloatKind.f32.format.order x 0 == some Ordering.eq) = b := ⟨_, rfl⟩
  obtain ⟨b6, hb6⟩ : ∃ b, (FloatKind.f32.format.order x 1112014848 == some Ordering.lt || FloatKind.f32.format.order x 1112014848 == some Ordering.eq) = b := ⟨_, rfl⟩
  cases b5
  · have HK := hid (says_no (p := BoatOk x) (fun h => by have := h.1; simp_all))
    go_enter Try.func40, Try.ntmps40
    go_wp2
    go_ret
    exact ⟨HK.out, rfl⟩
  · cases b6
    · have HK := hid (says_no (p := BoatOk x) (fun h => by have := h.2; simp_all))
      go_enter Try.func40, Try.ntmps40
      go_wp2
      go_ret
      exact ⟨HK.out, rfl⟩
    · have HK := hid (says_yes (p := BoatOk x) ⟨by simpa using hb5, by simpa using hb6⟩)
      go_enter Try.func40, Try.ntmps40
      go_wp2
      go_ret
      exact ⟨HK.out, rfl⟩
theorem notBoat (x : Nat) (w : World) :
    Calls Try.prog 39 #[.float .f32 x] w fun e w' => Says e (¬ BoatOk x) ∧ w = w' := by
  go_enter Try.func39, Try.ntmps39
  go_wp2_with fail
  refine (boatI x _).mono ?_
  rintro e w1 ⟨⟨b, rfl, hb⟩, rfl⟩
  have HK := hid hb
  clear hb
  cases b
  · go_wp2
    go_ret
    exact ⟨says_yes (fun h => by have := HK.out.2 h; cases this), rfl⟩
  · go_wp2
    go_ret
    exact ⟨says_no (fun h => h (by simpa using HK.out)), rfl⟩

set_option maxHeartbeats 1000000 in
set_option maxRecDepth 100000 in
theorem idxF {w : World} {v : Value} {xs : List Nat} (hl : xs.length ≤ 1048576) (h : RdF w v xs) :
    Calls Try.prog 66 #[v, .func (.func 39) #[] #[]] w fun e w' => ∃ r, e = .returned (.int .i64 r) ∧ (r < 0 ↔ ∀ j (h : j < xs.length), BoatOk xs[j]) ∧ w = w' := by
  obtain ⟨_, A, cap, rfl, hc⟩ := h
  have HC := hid hc
  clear hc
  go_enter Try.func66, Try.ntmps66
  go_wp2
  go_loopw [8] (fun kv wr => ∃ k : Nat, kv = .int .i64 k ∧ k ≤ xs.length ∧ Hid (∀ j (h : j < xs.length), j < k → BoatOk xs[j]) ∧ w = wr) (fun kv _ => 1048577 - (intOf kv).toNat)
  case atStart => exact ⟨0, rfl, by omega, fun j _ h => by omega, rfl⟩
  case round =>
    obtain ⟨k, rfl, hk, HI, rfl⟩ := hrel
    by_cases hlt : k < xs.length
    · obtain ⟨ad, rfl, hcw⟩ := HC.out k hlt
      obtain ⟨x, hx⟩ : ∃ y, xs[k] = y := ⟨_, rfl⟩
      have HX := hid hx
      rw [hx] at hcw
      clear hx
      go_wp2_with fail
      refine (notBoat x _).mono ?_
      rintro e w1 ⟨⟨b, rfl, hb⟩, rfl⟩
      have HK := hid hb
      clear hb
      cases b
      · have HIn := hid (show ∀ j (h : j < xs.length), j < k + 1 → BoatOk xs[j] from fun j hj hjk => by
          by_cases e : j < k
          · exact HI.out j hj e
          · obtain rfl : j = k := by omega
            rw [HX.out]
            exact Classical.byContradiction fun hn => by have := HK.out.2 hn; cases this)
        go_wp2
        go_roundw
        case rel => exact ⟨k + 1, by go_num, by omega, HIn.out, trivial⟩
        case measure => simp [intOf]; omega
      · have HN := hid (show ¬ ∀ j (h : j < xs.length), BoatOk xs[j] from fun h => HK.out.1 rfl (by rw [← HX.out]; exact h k hlt))
        go_wp2
        go_ret
        exact ⟨_, rfl, ⟨fun h => absurd h (by omega), fun h => absurd h HN.out⟩, rfl⟩
    · obtain rfl : k = xs.length := by omega
      go_wp2
      go_ret
      exact ⟨_, rfl, ⟨fun _ => fun j hj => HI.out j hj hj, fun _ => by decide⟩, rfl⟩
theorem contF {w : World} {v : Value} {xs : List Nat} (hl : xs.length ≤ 1048576) (h : RdF w v xs) :
    Calls Try.prog 38 #[v, .func (.func 39) #[] #[]] w fun e w' => Says e (¬ ∀ j (h : j < xs.length), BoatOk xs[j]) ∧ w = w' := by
  go_enter Try.func38, Try.ntmps38
  go_wp2_with fail
  refine (idxF hl h).mono ?_
  rintro e w1 ⟨r, rfl, hr, rfl⟩
  have HR := hid hr
  clear hr
  by_cases h0 : r < 0
  · have hd : decide (0 ≤ r) = false := decide_eq_false (by omega)
    go_wp2
    go_ret
    exact ⟨says_no (fun h => h (HR.out.1 h0)), rfl⟩
  · have hd : decide (0 ≤ r) = true := decide_eq_true (by omega)
    go_wp2
    go_ret
    exact ⟨says_yes (fun h => by have := HR.out.2 h; omega), rfl⟩

theorem aheadw_next {ws : List Nat} {i x : Nat} (h : AheadW ws i) (hi : i < ws.length) (hx : ws[i] = x) (hw : WindOk x) (hg : ∀ j (_ : j + 1 < ws.length), j + 1 = i → FloatKind.f32.format.order (ws[j + 1]'(by omega)) (ws[j]'(by omega)) = some .gt) : AheadW ws (i + 1) := by
  refine ⟨fun j hj hji => ?_, fun j hj hji => ?_⟩
  · by_cases e : j < i
    · exact h.1 j hj e
    · obtain rfl : j = i := by omega
      rw [hx]; exact hw
  · by_cases e : j + 1 < i
    · exact h.2 j hj e
    · exact hg j hj (by omega)

set_option maxHeartbeats 4000000 in
set_option maxRecDepth 100000 in
theorem iPolarOk {w : World} {v : Value} {ws : List Nat} {an : List Int} {ss : List (List Nat)} (hS : ∀ r ∈ ss, r.length ≤ 1048576) (h : RdP w v ws an ss) :
    Calls Try.prog 13 #[v] w fun e w' => Says e (PolOk ws an ss) ∧ Below w.heap.size w w' := by
  have hmf : ∀ (fn : Fn) (first cap : Array Value) (w : World), (Instr.makeFunc fn first cap).run Try.prog w = .ok (.func fn first cap) w := fun _ _ _ _ => rfl
  have HSm := hid hS
  clear hS
  obtain ⟨a, b, c, rfl, h1, h2, h3⟩ := h
  obtain ⟨l1, A1, c1, rfl, r1⟩ := h1
  obtain ⟨l2, A2, c2, rfl, r2⟩ := h2
  obtain ⟨l3, A3, c3, rfl, r3⟩ := h3
  have R1 := hid r1
  have R2 := hid r2
  have R3 := hid r3
  have HB := hid (fun o => (Below.refl w.heap.size w).alloc (Nat.le_refl _) o)
  clear r1 r2 r3
  by_cases hA : (1 ≤ ws.length ∧ ws.length ≤ 12) ∧ (2 ≤ an.length ∧ an.length ≤ 24) ∧ ss.length = ws.length
  · obtain ⟨⟨q1, q2⟩, ⟨q3, q4⟩, q5⟩ := hA
    have hq5 : ((ss.length : Int) != (ws.length : Int)) = false := by simp [q5]
    have Q5 := hid q5
    have q6 : ss.length ≤ 12 := by omega
    clear q5
    go_enter Try.func13, Try.ntmps13
    go_wp2_with (go_at_call 37; go_in)
    go_loopw [33] (fun iv wr => ∃ p : Int, iv = .int .i64 p ∧ 0 ≤ p ∧ p ≤ ws.length ∧ Hid (AheadW ws p.toNat) ∧ Hid (Tri wr w.heap.size (.slice A1 ws.length c1) (.slice A2 an.length c2) (.slice A3 ss.length c3)) ∧ Hid (Below w.heap.size w wr)) (fun iv _ => 13 - (intOf iv).toNat)
    case atStart => exact ⟨0, rfl, by omega, by omega, ⟨fun j _ h => absurd h (by omega), fun j _ h => absurd h (by omega)⟩, (show Tri _ _ _ _ _ from heap_alloc_new w _), HB.out _⟩
    case round =>
      obtain ⟨p, rfl, p0, p1, HA, HT, HW⟩ := hrel
      obtain ⟨⟨x1, x2, x3⟩, _⟩ := HT.out.facts
      by_cases hlt : p < ws.length
      · have hi : p.toNat < ws.length := by omega
        obtain ⟨ad, rfl, hca⟩ := R1.out p.toNat hi
        have hcw := (HW.out.cell (World.block_lt_of_cell? w _ hca)).trans hca
        obtain ⟨x, hx⟩ : ∃ x, ws[p.toNat] = x := ⟨_, rfl⟩
        have HX := hid hx
        rw [hx] at hcw
        clear hx hca
        obtain ⟨b1, hb1⟩ : ∃ b, (FloatKind.f32.format.order x 0 == some Ordering.gt) = b := ⟨_, rfl⟩
        obtain ⟨b2, hb2⟩ : ∃ b, (FloatKind.f32.format.order x 1120403456 == some Ordering.lt || FloatKind.f32.format.order x 1120403456 == some Ordering.eq) = b := ⟨_, rfl⟩
        have HNw := hid (fun (hno : ¬ WindOk x) => says_no (p := PolOk ws an ss) (fun h => hno (by have := h.wind p.toNat hi; rw [HX.out] at this; exact this)))
        cases b1
        · have HK := hid (HNw.out (fun h => by have := h.1; simp_all))
          go_wp2
          go_ret
          exact ⟨HK.out, HW.out⟩
        · cases b2
          · have HK := hid (HNw.out (fun h => by have := h.2; simp_all))
            go_wp2
            go_ret
            exact ⟨HK.out, HW.out⟩
          · have HWn := hid (show WindOk x from ⟨by simpa using hb1, by simpa using hb2⟩)
            by_cases hp : 0 < p
            · have hd : decide (0 < p) = true := decide_eq_true hp
              obtain ⟨q, hq⟩ : ∃ q, p - 1 = q := ⟨_, rfl⟩
              have hw1 : IntKind.i64.wrap q = q := by rw [IntKind.wrap_i64]; omega
              have hw4 : wrap64 q = q := by unfold wrap64; omega
              have hw2 : 0 ≤ q := by omega
              have hw3 : q < (ws.length : Int) := by omega
              have hi1 : q.toNat < ws.length := by omega
              obtain ⟨ad1, he1, hca1⟩ := R1.out q.toNat hi1
              obtain rfl : ad = ad1 := Option.some.inj he1
              have hcw1 := (HW.out.cell (World.block_lt_of_cell? w _ hca1)).trans hca1
              obtain ⟨y, hy⟩ : ∃ y, ws[q.toNat] = y := ⟨_, rfl⟩
              have HY := hid hy
              rw [hy] at hcw1
              clear hy hca1 he1
              have HI := hid (fun (hno : FloatKind.f32.format.order x y ≠ some .gt) => says_no (p := PolOk ws an ss) (fun h => hno (inc_at h hi hi1 (by omega) HX.out HY.out)))
              obtain ⟨b3, hb3⟩ : ∃ b, (FloatKind.f32.format.order x y == some Ordering.gt) = b := ⟨_, rfl⟩
              cases b3
              · have HK := hid (HI.out (by simpa using hb3))
                go_wp2
                go_ret
                exact ⟨HK.out, HW.out⟩
              · have HG := hid (show FloatKind.f32.format.order x y = some .gt by simpa using hb3)
                have HAn := hid (aheadw_next HA.out hi HX.out HWn.out (fun j hj hjp => by
                    have e1 : ws[j + 1] = x := by rw [← HX.out]; congr 1
                    have e2 : ws[j]'(by omega) = y := by rw [← HY.out]; congr 1; omega
                    rw [e1, e2]; exact HG.out))
                go_wp2
                go_roundw
                case rel => exact ⟨p + 1, by go_num, by omega, by omega, by rw [show (p + 1).toNat = p.toNat + 1 by omega]; exact HAn.out, HT.out, HW.out⟩
                case measure => simp [intOf]; omega
            · have hd : decide (0 < p) = false := decide_eq_false hp
              have HAn := hid (aheadw_next HA.out hi HX.out HWn.out (fun j hj hjp => by omega))
              go_wp2
              go_roundw
              case rel => exact ⟨p + 1, by go_num, by omega, by omega, by rw [show (p + 1).toNat = p.toNat + 1 by omega]; exact HAn.out, HT.out, HW.out⟩
              case measure => simp [intOf]; omega
      · obtain rfl : p = ws.length := by omega
        have HAll := hid (show AheadW ws ws.length from by have := HA.out; rw [Int.toNat_natCast] at this; exact this)
        have HTo := hid HT.out
        have HWo := hid HW.out
        go_wp2
        go_loopw [64] (fun iv wr => ∃ p : Int, iv = .int .i64 p ∧ 0 ≤ p ∧ p ≤ an.length ∧ Hid (∀ j (h : j + 1 < an.length), j + 1 < p.toNat → an[j] < an[j + 1]) ∧ Hid (Tri wr w.heap.size (.slice A1 ws.length c1) (.slice A2 an.length c2) (.slice A3 ss.length c3)) ∧ Hid (Below w.heap.size w wr)) (fun iv _ => 25 - (intOf iv).toNat)
        case atStart => exact ⟨0, rfl, by omega, by omega, fun j _ h => absurd h (by omega), HTo.out, HWo.out⟩
        case round =>
          clear x1 x2 x3 HT HW
          obtain ⟨p, rfl, p0, p1, HI, HT, HW⟩ := hrel
          obtain ⟨⟨x1, x2, x3⟩, _⟩ := HT.out.facts
          obtain ⟨ad2, rfl, hc0⟩ := R2.out 0 (by omega)
          by_cases hlt : p < an.length
          · have hi : p.toNat < an.length := by omega
            obtain ⟨ad5, he5, hc5⟩ := R2.out p.toNat hi
            obtain rfl : ad2 = ad5 := Option.some.inj he5
            have hc5' := (HW.out.cell (World.block_lt_of_cell? w _ hc5)).trans hc5
            obtain ⟨x5, hx5⟩ : ∃ y, an[p.toNat] = y := ⟨_, rfl⟩
            have HX5 := hid hx5
            rw [hx5] at hc5'
            clear hx5 hc5 he5 hc0
            by_cases hp : 0 < p
            · have hd : decide (0 < p) = true := decide_eq_true hp
              obtain ⟨q, hq⟩ : ∃ q, p - 1 = q := ⟨_, rfl⟩
              have hw1 : IntKind.i64.wrap q = q := by rw [IntKind.wrap_i64]; omega
              have hw4 : wrap64 q = q := by unfold wrap64; omega
              have hw2 : 0 ≤ q := by omega
              have hw3 : q < (an.length : Int) := by omega
              have hi1 : q.toNat < an.length := by omega
              obtain ⟨ad6, he6, hc6⟩ := R2.out q.toNat hi1
              obtain rfl : ad2 = ad6 := Option.some.inj he6
              have hc6' := (HW.out.cell (World.block_lt_of_cell? w _ hc6)).trans hc6
              obtain ⟨x6, hx6⟩ : ∃ y, an[q.toNat] = y := ⟨_, rfl⟩
              have HX6 := hid hx6
              have HQ := hid hq
              rw [hx6] at hc6'
              clear hx6 hc6 he6
              by_cases hle : x5 ≤ x6
              · have HK := hid (says_no (p := PolOk ws an ss) (fun h => by have := ang_at h hi hi1 (by have := HQ.out; omega) HX5.out HX6.out; omega))
                have hd2 : decide (x5 ≤ x6) = true := decide_eq_true hle
                go_wp2
                go_ret
                exact ⟨HK.out, HW.out⟩
              · have hd2 : decide (x5 ≤ x6) = false := decide_eq_false hle
                have HIn := hid (show ∀ j (h : j + 1 < an.length), j + 1 < p.toNat + 1 → an[j] < an[j + 1] from fun j hj hjk => by
                  by_cases e : j + 1 < p.toNat
                  · exact HI.out j hj e
                  · have e1 : an[j + 1] = x5 := by rw [← HX5.out]; congr 1; omega
                    have e2 : an[j] = x6 := by rw [← HX6.out]; congr 1; have := HQ.out; omega
                    omega)
                go_wp2
                go_roundw
                case rel => exact ⟨p + 1, by go_num, by omega, by omega, by rw [show (p + 1).toNat = p.toNat + 1 by omega]; exact HIn.out, HT.out, HW.out⟩
                case measure => simp [intOf]; omega
            · have hd : decide (0 < p) = false := decide_eq_false hp
              go_wp2
              go_roundw
              case rel => exact ⟨p + 1, by go_num, by omega, by omega, fun j _ h => absurd h (by omega), HT.out, HW.out⟩
              case measure => simp [intOf]; omega
          · obtain rfl : p = an.length := by omega
            have HIa := hid (show ∀ j (h : j + 1 < an.length), an[j] < an[j + 1] from fun j hj => HI.out j hj (by omega))
            obtain ⟨q, hq⟩ : ∃ q, (an.length : Int) - 1 = q := ⟨_, rfl⟩
            have hw1 : IntKind.i64.wrap q = q := by rw [IntKind.wrap_i64]; omega
            have hw4 : wrap64 q = q := by unfold wrap64; omega
            have hw2 : 0 ≤ q := by omega
            have hw3 : q < (an.length : Int) := by omega
            have hi1 : q.toNat < an.length := by omega
            have hi0 : 0 < an.length := by omega
            have hi0' : (0 : Int) < (an.length : Int) := by omega
            obtain ⟨ad6, he6, hc6⟩ := R2.out q.toNat hi1
            obtain rfl : ad2 = ad6 := Option.some.inj he6
            have hc0' := (HW.out.cell (World.block_lt_of_cell? w _ hc0)).trans hc0
            have hc6' := (HW.out.cell (World.block_lt_of_cell? w _ hc6)).trans hc6
            obtain ⟨x5, hx5⟩ : ∃ y, an[0] = y := ⟨_, rfl⟩
            obtain ⟨x6, hx6⟩ : ∃ y, an[q.toNat] = y := ⟨_, rfl⟩
            have HX5 := hid hx5
            have HX6 := hid hx6
            have HQ := hid hq
            rw [hx5] at hc0'
            rw [show ad2.add 0 = ad2 by unfold Addr.add; simp] at hc0'
            rw [hx6] at hc6'
            clear hx5 hx6 hc6 hc0 he6
            by_cases e0 : x5 = 0
            · by_cases e1 : x6 = 180
              · have hd0 : (x5 != 0) = false := by simp [e0]
                have hd1 : (x6 != 180) = false := by simp [e1]
                have E0 := hid e0
                have E1 := hid e1
                clear e0 e1
                have HTo := hid HT.out
                have HWo := hid HW.out
                go_wp2
                go_loopw [101] (fun iv wr => ∃ k : Nat, iv = .int .i64 k ∧ k ≤ ss.length ∧ Hid (∀ j (h : j < ss.length), j < k → ss[j].length = an.length ∧ ∀ i (h2 : i < ss[j].length), BoatOk ss[j][i]) ∧ Hid (Tri wr w.heap.size (.slice A1 ws.length c1) (.slice (some ad2) an.length c2) (.slice A3 ss.length c3)) ∧ Hid (Below w.heap.size w wr)) (fun iv _ => 13 - (intOf iv).toNat)
                case atStart => exact ⟨0, rfl, by omega, fun j _ h => absurd h (by omega), HTo.out, HWo.out⟩
                case round =>
                  clear x1 x2 x3 HT HW hc0' hc6'
                  obtain ⟨k, rfl, hk, HRo, HT, HW⟩ := hrel
                  obtain ⟨⟨x1, x2, x3⟩, _⟩ := HT.out.facts
                  by_cases hkl : k < ss.length
                  · obtain ⟨ad3, u, rfl, hcs, hru⟩ := R3.out k hkl
                    have hcs' := (HW.out.cell (World.block_lt_of_cell? w _ hcs)).trans hcs
                    have hrl := HSm.out ss[k] (List.getElem_mem hkl)
                    have HRd := hid (hru.below HW.out)
                    obtain ⟨row, hrw⟩ : ∃ r, ss[k] = r := ⟨_, rfl⟩
                    have HRW := hid hrw
                    rw [hrw] at HRd hrl
                    have hrd := HRd.out
                    obtain ⟨_, A4, c4, rfl, _⟩ := hrd
                    clear hrw hcs hru
                    by_cases hln : row.length = an.length
                    · have hb4 : ((row.length : Int) != (an.length : Int)) = false := by simp [hln]
                      have HLN := hid hln
                      clear hln
                      go_wp2_with fail
                      refine (contF hrl HRd.out).mono ?_
                      rintro e w1 ⟨⟨b, rfl, hb⟩, rfl⟩
                      have HK0 := hid hb
                      clear hb
                      cases b
                      · have HRn := hid (show ∀ j (h : j < ss.length), j < k + 1 → ss[j].length = an.length ∧ ∀ i (h2 : i < ss[j].length), BoatOk ss[j][i] from fun j hj hjk => by
                          by_cases e : j < k
                          · exact HRo.out j hj e
                          · obtain rfl : j = k := by omega
                            rw [HRW.out]
                            exact ⟨HLN.out, Classical.byContradiction fun hn => by have := HK0.out.2 hn; cases this⟩)
                        go_wp2
                        go_roundw
                        case rel => exact ⟨k + 1, by go_num, by omega, HRn.out, HT.out, HW.out⟩
                        case measure => simp [intOf]; omega
                      · have HK := hid (says_no (p := PolOk ws an ss) (fun h => HK0.out.1 rfl (by
                          have := h.boat k hkl
                          rw [HRW.out] at this
                          exact this)))
                        go_wp2
                        go_ret
                        exact ⟨HK.out, HW.out⟩
                    · have hb4 : ((row.length : Int) != (an.length : Int)) = true := by rw [bne_iff_ne]; omega
                      have HK := hid (says_no (p := PolOk ws an ss) (fun h => hln (by
                          have := h.row k hkl
                          rw [HRW.out] at this
                          exact this)))
                      go_wp2
                      go_ret
                      exact ⟨HK.out, HW.out⟩
                  · obtain rfl : k = ss.length := by omega
                    have HK := hid (says_yes (p := PolOk ws an ss) (pol_all q1 q2 q3 q4 Q5.out ⟨fun j hj _ => HAll.out.1 j hj hj, fun j hj _ => HAll.out.2 j hj hj, fun j hj _ => HRo.out j hj hj⟩ HIa.out (h0 := hi0) (by rw [HX5.out]; exact E0.out) hi1 (by have := HQ.out; omega) (by rw [HX6.out]; exact E1.out)))
                    go_wp2
                    go_ret
                    exact ⟨HK.out, HW.out⟩
              · have hd0 : (x5 != 0) = false := by simp [e0]
                have hd1 : (x6 != 180) = true := by simp [e1]
                have HK := hid (says_no (p := PolOk ws an ss) (fun h => e1 (by rw [← HX6.out]; have := h.last (by omega); rw [← this]; congr 1; have := HQ.out; omega)))
                clear e0 e1
                go_wp2
                go_ret
                exact ⟨HK.out, HW.out⟩
            · have hd0 : (x5 != 0) = true := by simp [e0]
              have HK := hid (says_no (p := PolOk ws an ss) (fun h => e0 (by rw [← HX5.out]; exact h.first hi0)))
              clear e0
              go_wp2
              go_ret
              exact ⟨HK.out, HW.out⟩
  · have HN := hid (says_no (p := PolOk ws an ss) (fun h => hA ⟨⟨h.w1, h.w12⟩, ⟨h.a2, h.a24⟩, h.sl⟩))
    have hA' := hid hA
    clear hA
    by_cases t1 : 1 ≤ ws.length
    · by_cases t2 : ws.length ≤ 12
      · by_cases t3 : 2 ≤ an.length
        · by_cases t4 : an.length ≤ 24
          · have hq5 : ((ss.length : Int) != (ws.length : Int)) = true := by
              rw [bne_iff_ne]; intro e; exact hA'.out ⟨⟨t1, t2⟩, ⟨t3, t4⟩, by omega⟩
            go_enter Try.func13, Try.ntmps13
            go_wp2_with (go_at_call 37; go_in)
            go_ret
            exact ⟨HN.out, HB.out _⟩
          · go_enter Try.func13, Try.ntmps13
            go_wp2_with (go_at_call 37; go_in)
            go_ret
            exact ⟨HN.out, HB.out _⟩
        · go_enter Try.func13, Try.ntmps13
          go_wp2_with (go_at_call 37; go_in)
          go_ret
          exact ⟨HN.out, HB.out _⟩
      · go_enter Try.func13, Try.ntmps13
        go_wp2_with (go_at_call 37; go_in)
        go_ret
        exact ⟨HN.out, HB.out _⟩
    · go_enter Try.func13, Try.ntmps13
      go_wp2_with (go_at_call 37; go_in)
      go_ret
      exact ⟨HN.out, HB.out _⟩
end Go.Proofs.Ytgjfpclpnobggaa
