/- Hexadecimal text read back: the first side (lines of XHd, for the door seat). -/
import Derived.Test.YtcafecpiijmkoaaDoorHg
namespace Go.Proofs.YtcafecpiijmkoaaDoor
open Go.RowKit

def vl (c : Nat) : Int := if 48 ≤ c ∧ c ≤ 57 then (c : Int) - 48 else if 97 ≤ c ∧ c ≤ 102 then (c : Int) - 87 else -1

theorem digI (c : Nat) (h : c < 256) (w : World) :
    Calls Tryd.prog 43 #[.int .u8 c] w fun e w' => e = .returned (.int .i64 (vl c)) ∧ w' = w := by
  by_cases h1 : 48 ≤ c
  · by_cases h2 : c ≤ 57
    · have hv : vl c = (c : Int) - 48 := if_pos ⟨h1, h2⟩
      go_enter Tryd.func43, Tryd.ntmps43
      go_wp2
      go_ret
      exact ⟨by first | rfl | (rw [hv]; rfl), rfl⟩
    · by_cases h3 : 97 ≤ c
      · by_cases h4 : c ≤ 102
        · have hv : vl c = (c : Int) - 87 := by rw [vl, if_neg (by omega), if_pos ⟨h3, h4⟩]
          go_enter Tryd.func43, Tryd.ntmps43
          go_wp2
          go_ret
          exact ⟨by rw [hv]; show Ending.returned (Value.int IntKind.i64 _) = _; congr 2; omega, rfl⟩
        · have hv : vl c = -1 := by rw [vl, if_neg (by omega), if_neg (by omega)]
          go_enter Tryd.func43, Tryd.ntmps43
          go_wp2
          go_ret
          exact ⟨by first | rfl | (rw [hv]; rfl), rfl⟩
      · have hv : vl c = -1 := by rw [vl, if_neg (by omega), if_neg (by omega)]
        go_enter Tryd.func43, Tryd.ntmps43
        go_wp2
        go_ret
        exact ⟨by first | rfl | (rw [hv]; rfl), rfl⟩
  · have hv : vl c = -1 := by rw [vl, if_neg (by omega), if_neg (by omega)]
    go_enter Tryd.func43, Tryd.ntmps43
    go_wp2
    go_ret
    exact ⟨by first | rfl | (rw [hv]; rfl), rfl⟩

theorem vl_bd (c : Nat) : -1 ≤ vl c ∧ vl c ≤ 15 := by unfold vl; split <;> (try split) <;> omega
def at' (s : ByteArray) (i : Nat) : Nat := (s.data.toList.getD i 0).toNat
theorem at_eq (s : ByteArray) (i : Nat) (h : i < s.size) : at' s i = s[i].toNat := by
  have hl : i < s.data.toList.length := by simpa using h
  rw [at', List.getD_eq_getElem?_getD, List.getElem?_eq_getElem hl]
  simp; rfl
def good (s : ByteArray) (t : Nat) : Prop := 0 ≤ vl (at' s (2 * t)) ∧ 0 ≤ vl (at' s (2 * t + 1))
def bt (s : ByteArray) (t : Nat) : Nat := (vl (at' s (2 * t)) * 16 + vl (at' s (2 * t + 1))).toNat
def decB (s : ByteArray) (n : Nat) : List UInt8 := (List.range n).map fun t => UInt8.ofNat (bt s t)
theorem decB_succ (s : ByteArray) (n : Nat) : decB s (n + 1) = decB s n ++ [UInt8.ofNat (bt s n)] := by simp [decB, List.range_succ]
theorem decB_len (s : ByteArray) (n : Nat) : (decB s n).length = n := by simp [decB]
theorem bt_byte (s : ByteArray) (t : Nat) : (UInt8.ofNat (bt s t)).toNat = bt s t := by
  have h1 := vl_bd (at' s (2 * t))
  have h2 := vl_bd (at' s (2 * t + 1))
  have : bt s t < 256 := by unfold bt; omega
  simp; omega
theorem dec_step (s : ByteArray) (n : Nat) : Lib.byteCells (decB s (n + 1)) = Lib.byteCells (decB s n) ++ [.int .u8 (bt s n : Nat)] := by
  rw [decB_succ]
  simp only [Lib.byteCells, List.map_append, List.map_cons, List.map_nil, bt_byte]
def DecOk (s : ByteArray) : Prop := s.size % 2 = 0 ∧ s.size ≤ 40000 ∧ ∀ t, 2 * t + 1 < s.size → good s t
def DR (s : ByteArray) (T : ByteArray) (ok : Bool) : Prop := (DecOk s ∧ ok = true ∧ T = ⟨(decB s (s.size / 2)).toArray⟩) ∨ (¬ DecOk s ∧ ok = false ∧ T = ⟨#[]⟩)
theorem DR.same {s T U : ByteArray} {a b : Bool} (h : DR s T a) (g : DR s U b) : T = U ∧ a = b := by
  rcases h with ⟨h, rfl, rfl⟩ | ⟨h, rfl, rfl⟩ <;> rcases g with ⟨g, rfl, rfl⟩ | ⟨g, rfl, rfl⟩
  · exact ⟨rfl, rfl⟩
  · exact absurd h g
  · exact absurd g h
  · exact ⟨rfl, rfl⟩

theorem one_u8 (p : Int) : ∀ u ∈ [Value.int .u8 p], u.oneCell' = true := by simp [Value.oneCell']
theorem len_ok {j : Nat} (h : j ≤ 20000) : j + 1 ≤ maxLen := by unfold maxLen; omega
theorem byte_ok {j : Nat} (h : j ≤ 20000) : (j + 1) * 1 ≤ 140737488355328 := by omega
theorem size_ok {B : Nat} {w : World} (h : B ≤ w.heap.size) (o : Obj) : B ≤ (w.alloc o).heap.size := by simp; omega

theorem digIq (c : Nat) (h : c < 256) (w : World) :
    Calls Tryd.prog 43 #[.int .u8 c] w fun e w' => e = .returned (.int .i64 (vl c)) ∧ ∃ m, w' = w.drewN m := (digI c h w).mono fun _ _ ⟨he, hw⟩ => ⟨he, 0, hw⟩
set_option maxHeartbeats 600000 in
set_option maxRecDepth 100000 in
theorem iDecode (s : ByteArray) (hs : s.size ≤ 9223372036854775807) (w : World) :
    Calls Tryd.prog 17 #[.string s] w fun e w' => ∃ T ok, e = .returned (.tuple #[.string T, .bool ok]) ∧ DR s T ok ∧ Below w.heap.size w w' := by
  have hmf : ∀ (fn : Fn) (first cap : Array Value) (w : World), (Instr.makeFunc fn first cap).run Tryd.prog w = .ok (.func fn first cap) w := fun _ _ _ _ => rfl
  by_cases h1 : s.size % 2 = 0
  · by_cases h2 : s.size ≤ 40000
    · obtain ⟨n, hn⟩ : ∃ n, s.size = 2 * n := ⟨s.size / 2, by omega⟩
      go_enter Tryd.func17, Tryd.ntmps17
      go_wp2
      go_loopw [6] (fun i wr => ∃ p j : Nat, Hid (p = 2 * j) ∧ p ≤ s.size ∧ p % 2 = 0 ∧ i = .int .i64 p ∧ Hid (∀ t, t < j → good s t) ∧ Hid (Lib.IsBuilder 46 5 w.heap.size w.heap.size (Lib.byteCells (decB s j)) wr) ∧ Hid (Below w.heap.size w wr)) (fun i _ => 40002 - (intOf i).toNat)
      case atStart => exact ⟨0, 0, rfl, by omega, rfl, rfl, fun t ht => by omega, Lib.fresh_isBuilder _ _ _, (Below.refl _ _).alloc (Nat.le_refl _) _⟩
      case round =>
        obtain ⟨p, j, HP, hp, hp2, rfl, HG, HI, HB⟩ := hrel
        by_cases hlt : p < s.size
        · have hlt1 : p + 1 < s.size := by omega
          obtain ⟨C, hC⟩ : ∃ C : Nat, s[p].toNat = C := ⟨_, rfl⟩
          obtain ⟨D, hD⟩ : ∃ D : Nat, s[p + 1].toNat = D := ⟨_, rfl⟩
          have hC2 : C < 256 := by rw [← hC]; exact s[p].toNat_lt
          have hD2 : D < 256 := by rw [← hD]; exact s[p + 1].toNat_lt
          have q1 : (p : Int) + 1 < (s.size : Int) := by omega
          have q2 : (p : Int) < (s.size : Int) := by omega
          go_wp2
          go_quiet (first | (go_at_call_of 43 C; refine Calls.quiet_of (digIq C hC2 _)) | (go_at_call_of 43 D; refine Calls.quiet_of (digIq D hD2 _)))
          by_cases g1 : vl C < 0
          · have hno := hid (show ¬ DecOk s from fun h => by
              have := (h.2.2 j (by rw [← HP.out]; omega)).1
              rw [← HP.out, at_eq s p hlt, hC] at this; omega)
            go_wp2
            go_ret2
            refine ⟨⟨#[]⟩, false, ?_, .inr ⟨hno.out, rfl, rfl⟩, below_drewN HB.out _⟩
            rfl
          · by_cases g2 : vl D < 0
            · have hno := hid (show ¬ DecOk s from fun h => by
                have := (h.2.2 j (by rw [← HP.out]; omega)).2
                rw [← HP.out, at_eq s (p + 1) hlt1, hD] at this; omega)
              go_wp2
              go_ret2
              exact ⟨_, .inl ⟨rfl, .inr ⟨hno.out, rfl, rfl⟩, below_drewN HB.out _⟩⟩
            · obtain ⟨x, hx⟩ : ∃ x : Nat, vl C = x := ⟨(vl C).toNat, by omega⟩
              obtain ⟨y, hy⟩ : ∃ y : Nat, vl D = y := ⟨(vl D).toNat, by omega⟩
              have hx2 : x ≤ 15 := by have := vl_bd C; omega
              have hy2 : y ≤ 15 := by have := vl_bd D; omega
              have hgood := hid (show good s j from by
                constructor
                · rw [← HP.out, at_eq s p hlt, hC]; omega
                · rw [← HP.out, at_eq s (p + 1) hlt1, hD]; omega)
              have hbt := hid (show bt s j = x * 16 + y from by
                unfold bt; rw [← HP.out, at_eq s p hlt, hC, at_eq s (p + 1) hlt1, hD, hx, hy]; omega)
              rw [hx, hy]
              have hor : Go.bits .or .i64 ((x : Int) * 16) (y : Int) = (x : Int) * 16 + y := by
                have := (bits_nat .i64 8 (by decide) (fun n h0 h2 => IntWalk.i64_in n (by omega)) (x * 16) y (by omega) (by omega)).2
                have e := (Nat.two_pow_add_eq_or_of_lt (i := 4) (b := y) (by omega) x)
                rw [show (x : Int) * 16 = ((x * 16 : Nat) : Int) by push_cast; rfl, this, show x * 16 = 2 ^ 4 * x by omega, ← e]
                push_cast; omega
              have hlen : (Lib.byteCells (decB s j)).length ≤ 40000 := by rw [Lib.byteCells_length, decB_len]; have := HP.out; omega
              obtain ⟨w1, hw1⟩ : ∃ w1, w1 = wr.drewN nq := ⟨_, rfl⟩
              rw [← hw1]
              have HI1 := hid (show Lib.IsBuilder 46 5 w.heap.size w.heap.size (Lib.byteCells (decB s j)) w1 from by subst hw1; exact HI.out)
              have HB1 := hid (show Below w.heap.size w w1 from by subst hw1; exact below_drewN HB.out nq)
              clear hw1 g1 g2 hx hy
              go_wp2_with fail
              refine (writeByte _ _ _ _ _ HI1.out (by omega) HB1.out.size).mono ?_
              rintro e w2 ⟨rfl, hI2, hB2⟩
              have HI2 := hid hI2
              have HB2 := hid (HB1.out.trans hB2)
              clear hI2 hB2
              go_wp2
              go_roundw
              case rel =>
                refine ⟨p + 2, j + 1, (show p + 2 = 2 * (j + 1) by have := HP.out; omega), by omega, by omega, by go_num, (fun t ht => ?_), ?_, HB2.out⟩
                · by_cases he : t = j
                  · subst he; exact hgood.out
                  · exact HG.out t (by omega)
                · show Lib.IsBuilder _ _ _ _ _ _
                  rw [dec_step, hbt.out]
                  have := HI2.out
                  push_cast
                  exact .inr this
              case measure => (simp [intOf]; try omega)
        · obtain rfl : p = s.size := by omega
          have hj2 : s.size / 2 = j := by have := HP.out; omega
          have hok := hid (show DecOk s from ⟨h1, h2, fun t ht => HG.out t (by omega)⟩)
          have HJ := hid hj2
          clear hj2
          go_wp2_with fail
          refine (builderString _ _ _ _ HI.out HB.out.size).mono ?_
          rintro e w1 ⟨rfl, hB1⟩
          have HB1 := hid (HB.out.trans hB1)
          clear hB1
          go_wp2
          go_ret2
          refine ⟨_, _, rfl, .inl ⟨hok.out, rfl, ?_⟩, HB1.out⟩
          rw [HJ.out]
    · have hno := hid (show ¬ DecOk s from fun h => h2 h.2.1)
      go_enter Tryd.func17, Tryd.ntmps17
      go_wp2
      go_ret2
      exact ⟨_, _, rfl, .inr ⟨hno.out, rfl, rfl⟩, Below.refl _ _⟩
  · have hno := hid (show ¬ DecOk s from fun h => h1 h.1)
    go_enter Tryd.func17, Tryd.ntmps17
    go_wp2
    go_ret2
    exact ⟨_, _, rfl, .inr ⟨hno.out, rfl, rfl⟩, Below.refl _ _⟩

end Go.Proofs.YtcafecpiijmkoaaDoor
