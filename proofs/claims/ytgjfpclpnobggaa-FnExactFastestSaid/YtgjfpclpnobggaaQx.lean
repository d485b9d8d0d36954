/- Fastest of the second side. -/
import Derived.Test.YtgjfpclpnobggaaQv
namespace Go.Proofs.Ytgjfpclpnobggaa
open Go.Shelf Go.RowKit

def gtB (x y : Nat) : Bool := FloatKind.f32.format.order x y == some Ordering.gt
theorem gtB_not {x y : Nat} (hx : Fnt .f32 x) (hy : Fnt .f32 y) : leB x y = !gtB x y := by
  unfold leB gtB
  rw [order_fin .f32 hx hy]
  split
  · rfl
  · split
    · rfl
    · rfl
/-- the first greatest number, and where it is -/
def fastF (F : Nat → Nat) : Nat → Nat × Nat
  | 0 => (0, F 0)
  | k + 1 => if gtB (F (k + 1)) (fastF F k).2 = true then (k + 1, F (k + 1)) else fastF F k
theorem fastF_yes {F : Nat → Nat} {k : Nat} (h : gtB (F (k + 1)) (fastF F k).2 = true) : fastF F (k + 1) = (k + 1, F (k + 1)) := if_pos h
theorem fastF_no {F : Nat → Nat} {k : Nat} (h : gtB (F (k + 1)) (fastF F k).2 = false) : fastF F (k + 1) = fastF F k := if_neg (by rw [h]; exact Bool.false_ne_true)
theorem fastF_fnt {F : Nat → Nat} (hF : ∀ k, Fnt .f32 (F k)) (k : Nat) : Fnt .f32 (fastF F k).2 := by
  induction k with
  | zero => exact hF 0
  | succ k ih => unfold fastF; split <;> first | exact hF _ | exact ih

def FOk (ws : List Nat) (an : List Int) (ss : List (List Nat)) (wind : Nat) : Prop := PolOk ws an ss ∧ WindIn wind
/-- the speeds at all angles -/
def Speeds (ws : List Nat) (an : List Int) (ss : List (List Nat)) (wind : Nat) (F : Nat → Nat) : Prop := (FOk ws an ss wind → ∀ k : Nat, k ≤ 180 → SpR ws an ss wind k (F k)) ∧ ∀ k, Fnt .f32 (F k)
theorem speeds_ok (ws : List Nat) (an : List Int) (ss : List (List Nat)) (wind : Nat) : ∃ F, Speeds ws an ss wind F := by
  classical
  refine ⟨fun k => (sp_any ws an ss wind k).choose, fun h k hk => ?_, fun k => ?_⟩
  · exact (sp_any ws an ss wind k).choose_spec.1 ⟨h.1, h.2, by omega, by omega⟩
  · exact (sp_any ws an ss wind k).choose_spec.2
theorem Speeds.at {ws : List Nat} {an : List Int} {ss : List (List Nat)} {wind : Nat} {F : Nat → Nat} (h : Speeds ws an ss wind F) (k : Nat) : AllOk ws an ss wind k → SpR ws an ss wind k (F k) := fun g => h.1 ⟨g.1, g.2.1⟩ k (by have := g.2.2; omega)
def IAns (p : Prop) (r : Int) (x : Int) (b : Bool) : Prop := (p ∧ x = r ∧ b = true) ∨ (¬ p ∧ x = 0 ∧ b = false)
theorem IAns.same {p : Prop} {r x x' : Int} {b b' : Bool} (h : IAns p r x b) (g : IAns p r x' b') : x = x' ∧ b = b' := by
  rcases h with ⟨h1, rfl, rfl⟩ | ⟨h1, rfl, rfl⟩ <;> rcases g with ⟨g1, rfl, rfl⟩ | ⟨g1, rfl, rfl⟩
  · exact ⟨rfl, rfl⟩
  · exact absurd h1 g1
  · exact absurd g1 h1
  · exact ⟨rfl, rfl⟩
theorem ia_no {p : Prop} {r : Int} (h : ¬ p) : ∃ x b, (Ending.returned (.tuple #[.int .i64 0, .bool false])) = .returned (.tuple #[.int .i64 x, .bool b]) ∧ IAns p r x b := ⟨0, false, rfl, .inr ⟨h, rfl, rfl⟩⟩
theorem ia_yes {p : Prop} {r : Int} (h : p) : ∃ x b, (Ending.returned (.tuple #[.int .i64 r, .bool true])) = .returned (.tuple #[.int .i64 x, .bool b]) ∧ IAns p r x b := ⟨r, true, rfl, .inl ⟨h, rfl, rfl⟩⟩
/-- there is a fastest angle -/
def FAll (ws : List Nat) (an : List Int) (ss : List (List Nat)) (wind : Nat) (F : Nat → Nat) : Prop := FOk ws an ss wind ∧ gtB (fastF F 180).2 0 = true

set_option maxHeartbeats 2000000 in
set_option maxRecDepth 100000 in
theorem sFastest {w : World} {v : Value} {ws : List Nat} {an : List Int} {ss : List (List Nat)} {wind : Nat} {F : Nat → Nat} (hF : Speeds ws an ss wind F) (h : RdP w v ws an ss) :
    Calls Try.prog 28 #[v, .float .f32 wind] w fun e w' => (∃ x b, e = .returned (.tuple #[.int .i64 x, .bool b]) ∧ IAns (FAll ws an ss wind F) (fastF F 180).1 x b) ∧ Below w.heap.size w w' := by
  have H := hid h
  have HF := hid hF
  clear hF
  obtain ⟨A1, c1, A2, c2, A3, c3, rfl⟩ := h.shape
  have hb := (Below.refl w.heap.size w).alloc (Nat.le_refl _) (.cells #[.slice A1 ws.length c1, .slice A2 an.length c2, .slice A3 ss.length c3] 29)
  have hT : Tri _ _ _ _ _ := heap_alloc_new w (.cells #[.slice A1 ws.length c1, .slice A2 an.length c2, .slice A3 ss.length c3] 29)
  have HT := hid hT
  have HB := hid hb
  have HP := hid (H.out.below hb)
  clear hb hT h
  have H00 := hid (HF.out.at 0)
  go_enter Try.func28, Try.ntmps28
  go_wp2_with fail
  generalize w.alloc (.cells #[.slice A1 ws.length c1, .slice A2 an.length c2, .slice A3 ss.length c3] 29) = w1 at HT HB HP ⊢
  refine (sSpeedAt (angle := 0) H00.out HP.out).mono ?_
  rintro e w2 ⟨⟨x, b, rfl, hx⟩, hb2⟩
  have HX := hid hx
  have HT2 := hid (HT.out.keep hb2)
  have HB2 := hid (HB.out.trans (hb2.mono HB.out.size))
  have HP2 := hid (HP.out.below hb2)
  clear hx hb2
  cases b
  · have HN := hid (show ¬ FAll ws an ss wind F from fun hf => by
      rcases HX.out with ⟨_, _, h⟩ | ⟨h, _, _⟩
      · cases h
      · exact h ⟨hf.1.1, hf.1.2, by omega, by omega⟩)
    go_wp2
    go_loopw [9] (fun kv wr => kv = .int .i64 1 ∧ w2 = wr) (fun _ _ => 0)
    case atStart => exact ⟨rfl, rfl⟩
    case round =>
      obtain ⟨rfl, rfl⟩ := hrel
      go_wp2
      go_ret2
      exact ⟨ia_no HN.out, HB2.out⟩
  · have hA : AllOk ws an ss wind 0 := by rcases HX.out with ⟨h, _, _⟩ | ⟨_, _, h⟩ <;> first | exact h | cases h
    have hxr : x = F 0 := by rcases HX.out with ⟨_, h, _⟩ | ⟨_, _, h⟩ <;> first | exact h | cases h
    subst hxr
    have HA := hid (show FOk ws an ss wind from ⟨hA.1, hA.2.1⟩)
    clear hA
    go_wp2
    go_loopw [6, 8, 9, 10, 11] (fun mv bv kv _ _ wr => ∃ j : Nat, j ≤ 180 ∧ mv = .float .f32 (fastF F j).2 ∧ bv = .int .i64 ((fastF F j).1 : Int) ∧ kv = .int .i64 ((j : Int) + 1) ∧ Hid (Tri wr w.heap.size (.slice A1 ws.length c1) (.slice A2 an.length c2) (.slice A3 ss.length c3)) ∧ Hid (Below w.heap.size w wr)) (fun _ _ kv _ _ _ => 400 - (intOf kv).toNat)
    case atStart => exact ⟨0, by omega, rfl, rfl, rfl, HT2, HB2⟩
    case round =>
      obtain ⟨j, hj, rfl, rfl, rfl, HT3, HB3⟩ := hrel
      obtain ⟨⟨x1, x2, x3⟩, _⟩ := HT3.out.facts
      by_cases hlt : j < 180
      · have HP3 := hid (H.out.below HB3.out)
        have HAt := hid (HF.out.at (j + 1))
        go_wp2_with fail
        refine (sSpeedAt (angle := ((j + 1 : Nat) : Int)) HAt.out HP3.out).mono ?_
        rintro e w4 ⟨⟨y, b, rfl, hy⟩, hb4⟩
        have hy1 : y = F (j + 1) ∧ b = true := by
          rcases hy with ⟨_, h1, h2⟩ | ⟨h, _, _⟩
          · exact ⟨h1, h2⟩
          · exact absurd (show AllOk ws an ss wind ((j + 1 : Nat) : Int) from ⟨HA.out.1, HA.out.2, by omega, by omega⟩) h
        obtain ⟨rfl, rfl⟩ := hy1
        have HT4 := hid (HT3.out.keep hb4)
        have HB4 := hid (HB3.out.trans (hb4.mono HB3.out.size))
        clear hy hb4 x1 x2 x3
        cases hg : gtB (F (j + 1)) (fastF F j).2
        · have HN := hid (fastF_no hg)
          unfold gtB at hg
          go_wp2
          go_roundw
          case rel => exact ⟨j + 1, by omega, by rw [HN.out], by rw [HN.out], by go_num, HT4, HB4⟩
          case measure => simp [intOf]; omega
        · have HN := hid (fastF_yes hg)
          unfold gtB at hg
          go_wp2
          go_roundw
          case rel => exact ⟨j + 1, by omega, by rw [HN.out], by rw [HN.out]; go_num, by go_num, HT4, HB4⟩
          case measure => simp [intOf]; omega
      · obtain rfl : j = 180 := by omega
        have hl := gtB_not (fastF_fnt HF.out.2 180) c_zero.1
        cases hg : gtB (fastF F 180).2 0
        · rw [hg] at hl
          have HN := hid (show ¬ FAll ws an ss wind F from fun h => by have := h.2; rw [hg] at this; cases this)
          unfold leB at hl
          clear hg
          go_wp2
          go_ret2
          exact ⟨ia_no HN.out, HB3.out⟩
        · rw [hg] at hl
          have HY := hid (show FAll ws an ss wind F from ⟨HA.out, hg⟩)
          unfold leB at hl
          clear hg
          go_wp2
          go_ret2
          exact ⟨ia_yes HY.out, HB3.out⟩
end Go.Proofs.Ytgjfpclpnobggaa
