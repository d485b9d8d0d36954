/- Polars: what can be read of them; singles made doubles, alike from alike. -/
import Derived.Test.YtgjfpclpnobggaaPs
import Derived.Test.YtgjfpclpnobggaaIo
import Derived.Test.YtgjfpclpnobggaaRows
import Derived.WalkKit
import Derived.Deep.OwnRows
import Derived.Deep.QuietTactic
import Derived.BigQuiet
namespace Go.Proofs.Ytgjfpclpnobggaa
open Go.RowKit
open Ieee (Format Datum)

theorem big32 {x : Nat} {s : Bool} {M : Nat} {E : Int} (h : FloatKind.f32.format.read x = .number s M E) : M < 2 ^ 24 ∧ E ≤ 104 := by
  have e1 : FloatKind.f32.format.binade = 8388608 := by decide
  have e2 : FloatKind.f32.format.infRung = 2139095040 := by decide
  have e3 : FloatKind.f32.format.leastPlace = -149 := by decide
  simp only [Format.read, e1, e2, e3] at h
  split at h
  · cases h; omega
  · split at h
    · cases h
      have := Nat.mod_lt (x % FloatKind.f32.format.signWeight) (show 0 < 8388608 by decide)
      omega
    · split at h <;> cases h
theorem wide_lt {M : Nat} {E : Int} (h1 : M < 2 ^ 24) (h2 : E ≤ 104) : (M : Rat) * p2 E < p2 (emax FloatKind.f64.format) := by
  have a1 : (M : Rat) ≤ p2 24 := by rw [show (24 : Int) = ((24 : Nat) : Int) from rfl, p2_nat]; exact_mod_cast Nat.le_of_lt h1
  have a2 := p2_mono h2
  have a3 := p2_pos E
  have a4 : (M : Rat) * p2 E ≤ p2 24 * p2 E := Rat.mul_le_mul_of_nonneg_right a1 (Rat.le_of_lt a3)
  have a5 : p2 24 * p2 E ≤ p2 24 * p2 104 := Rat.mul_le_mul_of_nonneg_left a2 (Rat.le_of_lt (p2_pos 24))
  have a7 : p2 24 * p2 104 = p2 (24 + 104) := (p2_add _ _).symm
  rw [a7] at a5
  have a6 : p2 (24 + 104) < p2 (emax FloatKind.f64.format) := p2_lt (by decide)
  generalize p2 (emax FloatKind.f64.format) = T at a6 ⊢
  generalize p2 (24 + 104) = T2 at a5 a6
  clear a7 a1 a2
  grind
theorem widen_same {x r q : Nat} (hx : Cvt .f32 .f64 x r) (hy : Cvt .f32 .f64 x q) : ∃ c, FIs .f64 r c ∧ FIs .f64 q c := by
  cases h : FloatKind.f32.decode x with
  | nan s t =>
    have hn : fc .f32 x = none := fc_of_NaN (by show (FloatKind.f32.decode x).isNaN = true; rw [h]; rfl)
    exact ⟨none, ⟨hx.2.1 hn, hx.1⟩, ⟨hy.2.1 hn, hy.1⟩⟩
  | infinity s =>
    rw [hx.2.2.1 s h, hy.2.2.1 s h]
    exact ⟨_, FIs.of (encode_lt _ _), FIs.of (encode_lt _ _)⟩
  | number s M E =>
    obtain ⟨h1, h2⟩ := big32 (show FloatKind.f32.format.read x = .number s M E from h)
    have hlt := wide_lt h1 h2
    obtain ⟨M2, E2, h3, _⟩ := write_num FloatKind.f64.format (wide_of .f64) s M E hlt
    have hni : (FloatKind.f64.decode (FloatKind.f64.encode (.number s M E))).isInfinity = false := by
      show (FloatKind.f64.format.read (FloatKind.f64.format.write (.number s M E))).isInfinity = false
      rw [h3]; rfl
    rw [hx.2.2.2 s M E h hni, hy.2.2.2 s M E h hni]
    exact ⟨_, FIs.of (encode_lt _ _), FIs.of (encode_lt _ _)⟩

/-- singles that can be read -/
def RdF (w : World) (v : Value) (xs : List Nat) : Prop := xs.length ≤ 9223372036854775807 ∧ ∃ A cap, v = .slice A xs.length cap ∧ ∀ j (h : j < xs.length), ∃ ad, A = some ad ∧ w.cell? (ad.add j) = some (.float .f32 xs[j])
/-- whole numbers that can be read -/
def RdI (w : World) (v : Value) (xs : List Int) : Prop := xs.length ≤ 9223372036854775807 ∧ ∃ A cap, v = .slice A xs.length cap ∧ ∀ j (h : j < xs.length), ∃ ad, A = some ad ∧ w.cell? (ad.add j) = some (.int .i64 xs[j])
/-- rows of singles that can be read -/
def RdG (w : World) (v : Value) (xss : List (List Nat)) : Prop := xss.length ≤ 9223372036854775807 ∧ ∃ A cap, v = .slice A xss.length cap ∧ ∀ j (h : j < xss.length), ∃ ad u, A = some ad ∧ w.cell? (ad.add j) = some u ∧ RdF w u xss[j]
/-- a polar that can be read -/
def RdP (w : World) (v : Value) (ws : List Nat) (an : List Int) (ss : List (List Nat)) : Prop := ∃ a b c, v = .agg #[a, b, c] ∧ RdF w a ws ∧ RdI w b an ∧ RdG w c ss

theorem RdF.below {w w' : World} {v : Value} {xs : List Nat} (h : RdF w v xs) (hB : Below w.heap.size w w') : RdF w' v xs := by
  obtain ⟨hl, A, cap, hv, hc⟩ := h
  refine ⟨hl, A, cap, hv, fun j hj => ?_⟩
  obtain ⟨b, hA, hb⟩ := hc j hj
  exact ⟨b, hA, (hB.cell (World.block_lt_of_cell? w _ hb)).trans hb⟩
theorem RdI.below {w w' : World} {v : Value} {xs : List Int} (h : RdI w v xs) (hB : Below w.heap.size w w') : RdI w' v xs := by
  obtain ⟨hl, A, cap, hv, hc⟩ := h
  refine ⟨hl, A, cap, hv, fun j hj => ?_⟩
  obtain ⟨b, hA, hb⟩ := hc j hj
  exact ⟨b, hA, (hB.cell (World.block_lt_of_cell? w _ hb)).trans hb⟩
theorem RdG.below {w w' : World} {v : Value} {xs : List (List Nat)} (h : RdG w v xs) (hB : Below w.heap.size w w') : RdG w' v xs := by
  obtain ⟨hl, A, cap, hv, hc⟩ := h
  refine ⟨hl, A, cap, hv, fun j hj => ?_⟩
  obtain ⟨b, u, hA, hb, hr⟩ := hc j hj
  exact ⟨b, u, hA, (hB.cell (World.block_lt_of_cell? w _ hb)).trans hb, hr.below hB⟩
theorem RdP.below {w w' : World} {v : Value} {ws : List Nat} {an : List Int} {ss : List (List Nat)} (h : RdP w v ws an ss) (hB : Below w.heap.size w w') : RdP w' v ws an ss := by
  obtain ⟨a, b, c, hv, h1, h2, h3⟩ := h
  exact ⟨a, b, c, hv, h1.below hB, h2.below hB, h3.below hB⟩
/-- what the size of a polar says -/
def Small (ws : List Nat) (an : List Int) (ss : List (List Nat)) : Prop := ws.length ≤ 1048576 ∧ an.length ≤ 1048576 ∧ ss.length ≤ 1048576 ∧ ∀ r ∈ ss, r.length ≤ 1048576

theorem szF {w : World} {v : Value} {xs : List Nat} (n : Int) (h0 : 0 ≤ n) (h1 : n ≤ 1048576) (h : RdF w v xs) :
    Calls Try.prog 30 #[v, .int .i64 n] w fun e w' => e = .returned (.int .i64 (if n - xs.length < 0 then -1 else n - xs.length)) ∧ w = w' := by
  obtain ⟨hl, A, cap, rfl, _⟩ := h
  by_cases hc : n - xs.length < 0
  · rw [if_pos hc]
    go_enter Try.func30, Try.ntmps30
    go_wp2
    go_ret
    exact ⟨rfl, rfl⟩
  · rw [if_neg hc]
    go_enter Try.func30, Try.ntmps30
    go_wp2
    go_ret
    exact ⟨rfl, rfl⟩
theorem szI {w : World} {v : Value} {xs : List Int} (n : Int) (h0 : 0 ≤ n) (h1 : n ≤ 1048576) (h : RdI w v xs) :
    Calls Try.prog 31 #[v, .int .i64 n] w fun e w' => e = .returned (.int .i64 (if n - xs.length < 0 then -1 else n - xs.length)) ∧ w = w' := by
  obtain ⟨hl, A, cap, rfl, _⟩ := h
  by_cases hc : n - xs.length < 0
  · rw [if_pos hc]
    go_enter Try.func31, Try.ntmps31
    go_wp2
    go_ret
    exact ⟨rfl, rfl⟩
  · rw [if_neg hc]
    go_enter Try.func31, Try.ntmps31
    go_wp2
    go_ret
    exact ⟨rfl, rfl⟩
set_option maxHeartbeats 1000000 in
set_option maxRecDepth 100000 in
theorem szG {w : World} {v : Value} {xss : List (List Nat)} (n : Int) (h0 : 0 ≤ n) (h1 : n ≤ 1048576) (h : RdG w v xss) :
    Calls Try.prog 32 #[v, .int .i64 n] w fun e w' => ∃ r, e = .returned (.int .i64 r) ∧ (r < 0 ∨ (xss.length ≤ 1048576 ∧ ∀ x ∈ xss, x.length ≤ 1048576)) ∧ w = w' := by
  obtain ⟨hl, A, cap, rfl, hc⟩ := h
  by_cases hb : n - xss.length < 0
  · clear hc
    go_enter Try.func32, Try.ntmps32
    go_wp2
    go_ret
    exact ⟨_, rfl, .inl (by decide), rfl⟩
  · have HC := hid hc
    clear hc
    go_enter Try.func32, Try.ntmps32
    go_wp2
    go_loopw [1, 5] (fun nv iv wr => ∃ (i : Nat) (m : Int), iv = .int .i64 i ∧ nv = .int .i64 m ∧ 0 ≤ m ∧ m ≤ 1048576 ∧ i ≤ xss.length ∧ Hid (∀ j (h : j < xss.length), j < i → xss[j].length ≤ 1048576) ∧ w = wr) (fun _ iv _ => 1048577 - (intOf iv).toNat)
    case atStart => exact ⟨0, _, rfl, rfl, by omega, by omega, by omega, fun j _ h => by omega, rfl⟩
    case round =>
      obtain ⟨i, m, rfl, rfl, m0, m1, hi, HL, rfl⟩ := hrel
      by_cases hlt : i < xss.length
      · obtain ⟨ad, u, rfl, hu, hr⟩ := HC.out i hlt
        have hrr := hr
        obtain ⟨hl2, A2, c2, rfl, hrc⟩ := hr
        have HR := hid hrr
        clear hrr hrc
        obtain ⟨x, hxx⟩ : ∃ x, xss[i] = x := ⟨_, rfl⟩
        rw [hxx] at hu HR hl2
        by_cases hc : m - x.length < 0
        · go_wp2_with (go_at_call 30; refine (szF m m0 m1 HR.out).mono ?_; rintro e w1 ⟨rfl, rfl⟩; rw [if_pos hc])
          go_ret
          exact ⟨_, rfl, .inl (by decide), rfl⟩
        · have HLn := hid (show ∀ j (h : j < xss.length), j < i + 1 → xss[j].length ≤ 1048576 from fun j hj hji => by
            by_cases h : j < i
            · exact HL.out j hj h
            · obtain rfl : j = i := by omega
              rw [hxx]; omega)
          go_wp2_with (go_at_call 30; refine (szF m m0 m1 HR.out).mono ?_; rintro e w1 ⟨rfl, rfl⟩; rw [if_neg hc])
          go_roundw
          case rel => exact ⟨i + 1, m - x.length, by go_num, by go_num, by omega, by omega, by omega, HLn.out, trivial⟩
          case measure => simp [intOf]; omega
      · obtain rfl : i = xss.length := by omega
        go_wp2
        go_ret
        refine ⟨_, rfl, .inr ⟨by omega, fun x hx => ?_⟩, rfl⟩
        obtain ⟨j, hj, rfl⟩ := List.getElem_of_mem hx
        exact HL.out j hj hj
end Go.Proofs.Ytgjfpclpnobggaa
