/- SplitFields of both sides. -/
import Derived.Test.YtcafecpiijmkoaaDoorSp
import Derived.Test.YtcafecpiijmkoaaDoorHx
import Derived.Maps.AppendAt
namespace Go.Proofs.YtcafecpiijmkoaaDoor
open Go.RowKit

def GoodLine (s : ByteArray) : Prop := s.size ≤ 600 ∧ ∀ j (h : j < s.size), 32 ≤ s[j].toNat ∧ s[j].toNat ≤ 126
def toLs (Ls : List ByteArray) : List (List UInt8) := Ls.map (·.data.toList)
def SF (s : ByteArray) (Ls : List ByteArray) (ok : Bool) : Prop := ((GoodLine s ∧ (fl s.data.toList).length ≤ 24) ∧ ok = true ∧ toLs Ls = fl s.data.toList) ∨ (¬ (GoodLine s ∧ (fl s.data.toList).length ≤ 24) ∧ ok = false ∧ Ls = [])
/-- the texts Ls at v, in memory made since base -/
def Txts (base : Nat) (w : World) (v : Value) (Ls : List ByteArray) : Prop := w.ownsRow base 9 1 v Ls.length (Ls.map Value.string)
def SFe (base : Nat) (s : ByteArray) (e : Ending) (w' : World) : Prop := ∃ v ok Ls, e = .returned (.tuple #[v, .bool ok]) ∧ SF s Ls ok ∧ Txts base w' v Ls
theorem toLs_inj {A B : List ByteArray} (h : toLs A = toLs B) : A = B := by
  induction A generalizing B with
  | nil => cases B with
    | nil => rfl
    | cons b B => simp [toLs] at h
  | cons a A ih => cases B with
    | nil => simp [toLs] at h
    | cons b B =>
      simp only [toLs, List.map_cons, List.cons.injEq] at h
      rw [ih h.2]
      congr 1
      apply ByteArray.ext
      exact Array.toList_inj.1 h.1
theorem SF.same {s : ByteArray} {A B : List ByteArray} {a b : Bool} (h : SF s A a) (g : SF s B b) : A = B ∧ a = b := by
  rcases h with ⟨h, rfl, e⟩ | ⟨h, rfl, rfl⟩ <;> rcases g with ⟨g, rfl, f⟩ | ⟨g, rfl, rfl⟩
  · exact ⟨toLs_inj (e.trans f.symm), rfl⟩
  · exact absurd h g
  · exact absurd g h
  · exact ⟨rfl, rfl⟩
theorem sfe {base : Nat} {s : ByteArray} {w' : World} {v : Value} {ok : Bool} {Ls : List ByteArray} (h : SF s Ls ok) (t : Txts base w' v Ls) : SFe base s (.returned (.tuple #[v, .bool ok])) w' := ⟨v, ok, Ls, rfl, h, t⟩
theorem info_str : (Tryd.prog.info? 9).map (fun i => (i.zero, i.size, i.bytes)) = some (some (.string ⟨#[]⟩), 1, 16) := by kernel_rfl
theorem txts_nil (base : Nat) (w : World) : Txts base w (.slice none 0 0) [] := ⟨rfl, .inl ⟨rfl, rfl⟩⟩
theorem txts_lit {base : Nat} (w : World) (h : base ≤ w.heap.size) : Txts base (w.alloc (.cells #[] 9)) (.slice (some ⟨w.heap.size, 0, none⟩) 0 0) [] :=
  World.ownsRow_lit (e := 9) (size := 1) (base := base) w #[] 0 h (by decide) (by rfl)

theorem get_at' {t : ByteArray} {j : Nat} (h : j < t.size) : t.data.toList[j]? = some t[j] := by
  have hl : j < t.data.toList.length := by simpa using h
  rw [List.getElem?_eq_getElem hl]; simp; rfl
theorem txts_slice {base : Nat} {w : World} {v : Value} {Ls : List ByteArray} (h : Txts base w v Ls) : ∃ A cap, v = .slice A Ls.length cap := by
  rcases h.2 with ⟨rfl, h0⟩ | ⟨g, cap, cur, rfl, _⟩
  · exact ⟨none, 0, by rw [h0]⟩
  · exact ⟨_, cap, rfl⟩
theorem ch_next {s : ByteArray} {i C : Nat} (hlt : i < s.size) (hC : s[i].toNat = C) (h1 : 32 ≤ C) (h2 : C ≤ 126) (h : ∀ j (h : j < s.size), j < i → 32 ≤ s[j].toNat ∧ s[j].toNat ≤ 126) : ∀ j (h : j < s.size), j < i + 1 → 32 ≤ s[j].toNat ∧ s[j].toNat ≤ 126 := by
  intro j hj hji
  by_cases h3 : j < i
  · exact h j hj h3
  · obtain rfl : j = i := by omega
    omega
theorem u8_of {x : UInt8} {C : Nat} (h : x.toNat = C) : (C = 32 → x = 32) ∧ (C ≠ 32 → x ≠ 32) := by
  refine ⟨fun hC => UInt8.toNat_inj.1 (by rw [h, hC]; rfl), fun hC e => hC ?_⟩
  rw [← h, e]; rfl
/-- where the second side stands -/
def Stands (s : ByteArray) (Ls : List ByteArray) (b i : Nat) : Prop :=
  (i ≤ s.size ∧ fl s.data.toList = toLs Ls ++ flA ((s.data.toList.take i).drop b) (s.data.toList.drop i)) ∨ (i = s.size + 1 ∧ fl s.data.toList = toLs Ls)
theorem stands_char {s : ByteArray} {Ls : List ByteArray} {b i C : Nat} (h : Stands s Ls b i) (hb : b ≤ i) (hlt : i < s.size) (hC : s[i].toNat = C) (hn : C ≠ 32) : Stands s Ls b (i + 1) := by
  rcases h with ⟨_, h⟩ | ⟨h, _⟩
  · exact .inl ⟨hlt, fl_char hb (get_at' hlt) ((u8_of hC).2 hn) h⟩
  · omega
theorem stands_add {s : ByteArray} {Ls : List ByteArray} {b i : Nat} (hb : b ≤ i) (hi : i ≤ s.size) : toLs Ls ++ (if (s.data.toList.take i).drop b = [] then [] else [(s.data.toList.take i).drop b]) = if b < i then toLs (Ls ++ [s.extract b i]) else toLs Ls := by
  have hp := part_nil (l := s.data.toList) hb (by simpa using hi)
  by_cases h : b < i
  · rw [if_pos h, if_neg (by rw [hp]; omega), toLs, toLs, List.map_append, List.map_singleton, extract_list]
  · rw [if_neg h, if_pos (by rw [hp]; omega), List.append_nil]
theorem stands_space {s : ByteArray} {Ls : List ByteArray} {b i C : Nat} (h : Stands s Ls b i) (hb : b ≤ i) (hlt : i < s.size) (hC : s[i].toNat = C) (hn : C = 32) : (b < i → Stands s (Ls ++ [s.extract b i]) (i + 1) (i + 1)) ∧ (¬ b < i → Stands s Ls (i + 1) (i + 1)) := by
  rcases h with ⟨_, h⟩ | ⟨h, _⟩
  · have h2 := fl_space ((get_at' hlt).trans (congrArg some ((u8_of hC).1 hn))) h
    rw [stands_add hb (by omega)] at h2
    refine ⟨fun hbi => .inl ⟨hlt, ?_⟩, fun hbi => .inl ⟨hlt, ?_⟩⟩
    · rw [if_pos hbi] at h2; exact h2
    · rw [if_neg hbi] at h2; exact h2
  · omega
theorem stands_end {s : ByteArray} {Ls : List ByteArray} {b : Nat} (h : Stands s Ls b s.size) (hb : b ≤ s.size) : (b < s.size → Stands s (Ls ++ [s.extract b s.size]) (s.size + 1) (s.size + 1)) ∧ (¬ b < s.size → Stands s Ls (s.size + 1) (s.size + 1)) := by
  rcases h with ⟨_, h⟩ | ⟨h, _⟩
  · have hl : s.data.toList.length = s.size := by simp
    rw [← hl] at h
    have h2 := fl_end h
    rw [hl, stands_add hb (by omega)] at h2
    refine ⟨fun hbi => .inr ⟨rfl, ?_⟩, fun hbi => .inr ⟨rfl, ?_⟩⟩
    · rw [if_pos hbi] at h2; exact h2
    · rw [if_neg hbi] at h2; exact h2
  · omega
theorem stands_out {s : ByteArray} {Ls : List ByteArray} {b : Nat} (h : Stands s Ls b (s.size + 1)) (hc : ∀ j (h : j < s.size), j < s.size + 1 → 32 ≤ s[j].toNat ∧ s[j].toNat ≤ 126) (hl : s.size ≤ 600) : (Ls.length ≤ 24 → SF s Ls true) ∧ (24 < Ls.length → SF s [] false) := by
  rcases h with ⟨h, _⟩ | ⟨_, h⟩
  · omega
  · have hlen : (fl s.data.toList).length = Ls.length := by rw [h, toLs, List.length_map]
    exact ⟨fun h2 => .inl ⟨⟨⟨hl, fun j hj => hc j hj (by omega)⟩, by omega⟩, rfl, h.symm⟩, fun h2 => .inr ⟨fun h3 => by omega, rfl, rfl⟩⟩
theorem sf_bad {s : ByteArray} {i C : Nat} (hlt : i < s.size) (hC : s[i].toNat = C) (h : C < 32 ∨ 126 < C) : SF s [] false :=
  .inr ⟨fun h3 => by have := h3.1.2 i hlt; omega, rfl, rfl⟩

set_option maxHeartbeats 4000000 in
set_option maxRecDepth 100000 in
theorem sSplit {W w : World} (s : ByteArray) (hs : s.size ≤ 4000000000000000000) (hB : Below W.heap.size W w) :
    Calls Tryd.prog 23 #[.string s] w fun e w' => SFe W.heap.size s e w' ∧ Below W.heap.size W w' := by
  obtain ⟨i0, hi, hz0, hz1, hz2⟩ := info_parts info_str
  have hsz := hB.size
  have HB := hid hB
  clear hB
  by_cases hl : s.size > 600
  · go_enter Tryd.func23, Tryd.ntmps23
    go_wp2
    go_ret2
    exact ⟨sfe (.inr ⟨fun h => by have := h.1.1; omega, rfl, rfl⟩) (txts_lit w hsz), HB.out.alloc hsz _⟩
  · go_enter Tryd.func23, Tryd.ntmps23
    go_wp2
    go_loopw [4, 5, 6] (fun v bv iv wr => ∃ (b i : Nat) (Ls : List ByteArray), bv = .int .i64 b ∧ iv = .int .i64 i ∧ i ≤ s.size + 1 ∧ b ≤ i ∧ Ls.length ≤ i ∧ Hid (∀ j (h : j < s.size), j < i → 32 ≤ s[j].toNat ∧ s[j].toNat ≤ 126) ∧ Hid (Stands s Ls b i) ∧ Hid (Txts W.heap.size wr v Ls) ∧ Hid (Below W.heap.size W wr)) (fun _ _ iv _ => 602 - (intOf iv).toNat)
    case atStart => exact ⟨0, 0, [], rfl, rfl, by omega, by omega, by simp, fun j _ h => by omega, .inl ⟨by omega, rfl⟩, txts_lit w hsz, HB.out.alloc hsz _⟩
    case round =>
      obtain ⟨b, i, Ls, rfl, rfl, hi1, hb1, hL1, HC, HS, HO, HB1⟩ := hrel
      have hsz1 := HB1.out.size
      by_cases hle : i ≤ s.size
      · by_cases hlt : i < s.size
        · obtain ⟨C, hC⟩ : ∃ C : Nat, s[i].toNat = C := ⟨_, rfl⟩
          have hC2 : C < 256 := by rw [← hC]; exact s[i].toNat_lt
          by_cases h1 : C < 32
          · have HK := hid (sf_bad hlt hC (.inl h1))
            go_wp2
            go_ret2
            exact ⟨sfe HK.out (txts_lit wr hsz1), HB1.out.alloc hsz1 _⟩
          · by_cases h2 : 126 < C
            · have HK := hid (sf_bad hlt hC (.inr h2))
              go_wp2
              go_ret2
              exact ⟨sfe HK.out (txts_lit wr hsz1), HB1.out.alloc hsz1 _⟩
            · have HCn := hid (ch_next hlt hC (by omega) (by omega) HC.out)
              by_cases h3 : C = 32
              · have HSn := hid (stands_space HS.out hb1 hlt hC h3)
                by_cases hbi : b < i
                · go_wp2_with (at_builtin; refine wpList_append_own _ rfl _ _ 30 rfl W.heap.size 9 i0 (.string ⟨#[]⟩) 1 16 Tryd.underlying30 hi hz0 hz1 hz2 rfl (by decide) _ _ _ rfl (World.ownsRow.alloc HO.out _) ⟨wr.heap.size, 0, none⟩ 1 1 [.string (s.extract b i)] rfl rfl ?c1 ?c2 ?c3 ?c4 ?c5 ?_)
                  case c1 => exact cell_one_new _ _ _
                  case c2 => simp [Value.oneCell']
                  case c3 => unfold maxLen; omega
                  case c4 => omega
                  case c5 => simp; omega
                  intro v' w3 hown3 hgr3 _
                  have H3 := hid hown3
                  have HB3 := hid ((HB1.out.alloc hsz1 _).grown hgr3 (by simp; omega) (fun b hb => (World.ownsRow.lt HO.out b hb).1))
                  clear hown3 hgr3
                  go_wp2
                  go_roundw
                  case rel => exact ⟨i + 1, i + 1, Ls ++ [s.extract b i], by go_num, by go_num, by omega, by omega, by simp; omega, HCn.out, HSn.out.1 hbi, by show World.ownsRow _ _ _ _ _ _ _; rw [List.map_append, List.length_append]; exact H3.out, HB3.out⟩
                  case measure => simp [intOf]; omega
                · go_wp2
                  go_roundw
                  case rel => exact ⟨i + 1, i + 1, Ls, by go_num, by go_num, by omega, by omega, by omega, HCn.out, HSn.out.2 hbi, HO.out, HB1.out⟩
                  case measure => simp [intOf]; omega
              · have HSn := hid (stands_char HS.out hb1 hlt hC h3)
                have hne : ((C : Int) != 32) = true := bne_iff_ne.2 (by omega)
                go_wp2
                go_roundw
                case rel => exact ⟨b, i + 1, Ls, rfl, by go_num, by omega, by omega, by omega, HCn.out, HSn.out, HO.out, HB1.out⟩
                case measure => simp [intOf]; omega
        · obtain rfl : i = s.size := by omega
          have HSn := hid (stands_end HS.out hb1)
          by_cases hbi : b < s.size
          · go_wp2_with (at_builtin; refine wpList_append_own _ rfl _ _ 30 rfl W.heap.size 9 i0 (.string ⟨#[]⟩) 1 16 Tryd.underlying30 hi hz0 hz1 hz2 rfl (by decide) _ _ _ rfl (World.ownsRow.alloc HO.out _) ⟨wr.heap.size, 0, none⟩ 1 1 [.string (s.extract b s.size)] rfl rfl ?c1 ?c2 ?c3 ?c4 ?c5 ?_)
            case c1 => exact cell_one_new _ _ _
            case c2 => simp [Value.oneCell']
            case c3 => unfold maxLen; omega
            case c4 => omega
            case c5 => simp; omega
            intro v' w3 hown3 hgr3 _
            have H3 := hid hown3
            have HB3 := hid ((HB1.out.alloc hsz1 _).grown hgr3 (by simp; omega) (fun b hb => (World.ownsRow.lt HO.out b hb).1))
            clear hown3 hgr3
            go_wp2
            go_roundw
            case rel => exact ⟨s.size + 1, s.size + 1, Ls ++ [s.extract b s.size], by go_num, by go_num, by omega, by omega, by simp; omega, fun j hj _ => HC.out j hj hj, HSn.out.1 hbi, by show World.ownsRow _ _ _ _ _ _ _; rw [List.map_append, List.length_append]; exact H3.out, HB3.out⟩
            case measure => simp [intOf]; omega
          · go_wp2
            go_roundw
            case rel => exact ⟨s.size + 1, s.size + 1, Ls, by go_num, by go_num, by omega, by omega, by omega, fun j hj _ => HC.out j hj hj, HSn.out.2 hbi, HO.out, HB1.out⟩
            case measure => simp [intOf]; omega
      · obtain rfl : i = s.size + 1 := by omega
        have HK := hid (stands_out HS.out HC.out (by omega))
        obtain ⟨A, cap, rfl⟩ := txts_slice HO.out
        by_cases h24 : 24 < Ls.length
        · go_wp2
          go_ret2
          exact ⟨sfe (HK.out.2 h24) (txts_lit wr hsz1), HB1.out.alloc hsz1 _⟩
        · go_wp2
          go_ret2
          exact ⟨sfe (HK.out.1 (by omega)) HO.out, HB1.out⟩
end Go.Proofs.YtcafecpiijmkoaaDoor
