/- SplitFields of the first side. -/
import Derived.Test.YtcafecpiijmkoaaDoorSq
import Derived.Test.YtcafecpiijmkoaaDoorShelf
namespace Go.Proofs.YtcafecpiijmkoaaDoor
open Go.RowKit

theorem own_base {b b' : Nat} {w : World} {v : Value} {Ls : List ByteArray} (h : Txts b w v Ls) (hb : b' ≤ b) : Txts b' w v Ls := by
  obtain ⟨h1, h2⟩ := h
  refine ⟨h1, ?_⟩
  rcases h2 with h2 | ⟨g, cap, cur, hv, hg, rest⟩
  · exact .inl h2
  · exact .inr ⟨g, cap, cur, hv, Nat.le_trans hb hg, rest⟩
theorem parts_fl (s : ByteArray) : toLs ((Lib.splitB ⟨#[32]⟩ 0 (Lib.countB s ⟨#[32]⟩) s).filter (fun x => !x.data.toList.isEmpty)) = fl s.data.toList := by
  have h1 := Lib.splitB_data ⟨#[32]⟩ 0 (Lib.countB s ⟨#[32]⟩) s
  have h2 := split_fields (Lib.countB s ⟨#[32]⟩) s.data.toList (by show s.data.toList.count 32 ≤ Lib.count s.data.toList [32]; rw [Lib.count_one]; exact Nat.le_refl _)
  rw [← h2, show ([32] : List UInt8) = (⟨#[32]⟩ : ByteArray).data.toList from rfl, ← h1, toLs, List.filter_map]
  rfl
theorem sf_out {s : ByteArray} {P Ls : List ByteArray} (hf : toLs (P.filter (fun x => !x.data.toList.isEmpty)) = fl s.data.toList) (hL : Ls = P.filter (fun x => !x.data.toList.isEmpty)) (hc : ∀ j (h : j < s.size), j < s.size → 32 ≤ s[j].toNat ∧ s[j].toNat ≤ 126) (hl : s.size ≤ 600) : (Ls.length ≤ 24 → SF s Ls true) ∧ (24 < Ls.length → SF s [] false) := by
  subst hL
  have hlen : (fl s.data.toList).length = (P.filter (fun x => !x.data.toList.isEmpty)).length := by rw [← hf, toLs, List.length_map]
  exact ⟨fun h2 => .inl ⟨⟨⟨hl, fun j hj => hc j hj hj⟩, by omega⟩, rfl, hf⟩, fun h2 => .inr ⟨fun h3 => by omega, rfl, rfl⟩⟩

theorem flt_skip {P : List ByteArray} {k : Nat} (h : k < P.length) (he : P[k].data.toList.isEmpty = true) : (P.take (k + 1)).filter (fun x => !x.data.toList.isEmpty) = (P.take k).filter (fun x => !x.data.toList.isEmpty) := by
  rw [List.take_succ_eq_append_getElem h, List.filter_append, List.filter_cons_of_neg (by simp only [he]; decide)]
  simp
theorem flt_snoc {P : List ByteArray} {k : Nat} (h : k < P.length) (he : ¬ P[k].data.toList.isEmpty = true) : (P.take (k + 1)).filter (fun x => !x.data.toList.isEmpty) = (P.take k).filter (fun x => !x.data.toList.isEmpty) ++ [P[k]] := by
  rw [List.take_succ_eq_append_getElem h, List.filter_append, List.filter_cons_of_pos (by simp only [Bool.not_eq_true'] at he ⊢; simpa using he)]
  simp

set_option maxHeartbeats 4000000 in
set_option maxRecDepth 100000 in
theorem iSplit {W w : World} (s : ByteArray) (hs : s.size ≤ 4000000000000000000) (m : Int) (hm : W.cell? ⟨0, 0, none⟩ = some (.int .i64 m)) (hB : Below W.heap.size W w) :
    Calls Tryd.prog 22 #[.string s] w fun e w' => SFe w.heap.size s e w' ∧ Below W.heap.size W w' := by
  obtain ⟨i0, hi, hz0, hz1, hz2⟩ := info_parts info_str
  have hsz := hB.size
  have HB := hid hB
  have HM := hid (hB.cell (p := ⟨0, 0, none⟩) (World.block_lt_of_cell? W _ hm) |>.trans hm)
  clear hB hm
  by_cases hl : s.size > 600
  · go_enter Tryd.func22, Tryd.ntmps22
    go_wp2
    go_ret2
    exact ⟨sfe (.inr ⟨fun h => by have := h.1.1; omega, rfl, rfl⟩) (txts_nil _ _), HB.out⟩
  · go_enter Tryd.func22, Tryd.ntmps22
    go_wp2
    go_loopw [4] (fun iv wr => ∃ i : Nat, iv = .int .i64 i ∧ i ≤ s.size ∧ Hid (∀ j (h : j < s.size), j < i → 32 ≤ s[j].toNat ∧ s[j].toNat ≤ 126) ∧ w = wr) (fun iv _ => 602 - (intOf iv).toNat)
    case atStart => exact ⟨0, rfl, by omega, fun j _ h => by omega, rfl⟩
    case round =>
      obtain ⟨i, rfl, hi1, HC, rfl⟩ := hrel
      by_cases hlt : i < s.size
      · obtain ⟨C, hC⟩ : ∃ C : Nat, s[i].toNat = C := ⟨_, rfl⟩
        have hC2 : C < 256 := by rw [← hC]; exact s[i].toNat_lt
        by_cases h1 : C < 32
        · have HK := hid (sf_bad hlt hC (.inl h1))
          go_wp2
          go_ret2
          exact ⟨sfe HK.out (txts_nil _ _), HB.out⟩
        · by_cases h2 : 126 < C
          · have HK := hid (sf_bad hlt hC (.inr h2))
            go_wp2
            go_ret2
            exact ⟨sfe HK.out (txts_nil _ _), HB.out⟩
          · have HCn := hid (ch_next hlt hC (by omega) (by omega) HC.out)
            go_wp2
            go_roundw
            case rel => exact ⟨i + 1, by go_num, by omega, HCn.out, trivial⟩
            case measure => simp [intOf]; omega
      · obtain rfl : i = s.size := by omega
        go_wp2_with (go_at_call 47; refine (Tryd.strings_Split s ⟨#[32]⟩ m _ (by omega) HM.out (by decide)).mono ?_; rintro e w1 ⟨rfl, rfl⟩)
        have hfl := parts_fl s
        have hPl := Lib.splitB_all ⟨#[32]⟩ (by decide) 0 _ s rfl
        have hcle : Lib.countB s ⟨#[32]⟩ ≤ s.size := Lib.countB_le ⟨#[32]⟩ (by decide) s.size s (Nat.le_refl _)
        generalize Lib.countB s ⟨#[32]⟩ = c at hfl hPl hcle ⊢
        generalize Lib.splitB ⟨#[32]⟩ 0 c s = P at hfl hPl ⊢
        have HF := hid hfl
        clear hfl
        have hb0 := heap_alloc_new w (.cells (P.map Value.string).toArray 9)
        have HBl := hid hb0
        clear hb0
        go_loopw [5, 30] (fun v kv w2 => ∃ (k : Nat) (Ls : List ByteArray), kv = .int .i64 k ∧ k ≤ c + 1 ∧ Ls.length ≤ k ∧ Hid (Ls = (P.take k).filter (fun x => !x.data.toList.isEmpty)) ∧ Hid (Txts (w.heap.size + 1) w2 v Ls) ∧ Hid (w2.heap[w.heap.size]? = some (.cells (P.map Value.string).toArray 9 (0, 0))) ∧ Hid (Below W.heap.size W w2)) (fun _ kv _ => 602 - (intOf kv).toNat)
        case atStart => exact ⟨0, [], rfl, by omega, by simp, rfl, txts_nil _ _, HBl.out, HB.out.alloc hsz _⟩
        case round =>
          obtain ⟨k, Ls, rfl, hk1, hL1, HLs, HO, HP, HB1⟩ := hrel
          have hgl := lt_of_block HP.out
          by_cases hlt : k < c + 1
          · have hkP : k < P.length := by omega
            have hcell : wr.cell? ⟨w.heap.size, k, none⟩ = some (.string P[k]) := by rw [block_cell HP.out k]; simp [List.getElem?_eq_getElem hkP]
            by_cases he : P[k].data.toList.isEmpty = true
            · have hE : P[k].toList.isEmpty = true := by rw [Go.ByteArray.toList_eq]; exact he
              have HLn := hid ((flt_skip hkP he).trans HLs.out.symm)
              clear he
              go_wp2
              go_roundw
              case rel => exact ⟨k + 1, Ls, by go_num, by omega, by omega, HLn.out.symm, HO.out, HP.out, HB1.out⟩
              case measure => simp [intOf]; omega
            · have hE : P[k].toList.isEmpty = false := by rw [Go.ByteArray.toList_eq]; simpa using he
              have HLn := hid ((flt_snoc hkP he).trans (congrArg (· ++ [P[k]]) HLs.out.symm))
              clear he
              have hown := fun o => World.ownsRow.alloc HO.out o
              obtain ⟨x, hx⟩ : ∃ x, P[k] = x := ⟨_, rfl⟩
              rw [hx] at hcell hE HLn
              clear hx
              go_wp2_with (at_builtin; refine wpList_append_own _ rfl _ _ 30 rfl (w.heap.size + 1) 9 i0 (.string ⟨#[]⟩) 1 16 Tryd.underlying30 hi hz0 hz1 hz2 rfl (by decide) _ _ _ rfl (hown _) ⟨wr.heap.size, 0, none⟩ 1 1 [.string x] rfl rfl ?c1 ?c2 ?c3 ?c4 ?c5 ?_)
              case c1 => exact cell_one_new _ _ _
              case c2 => simp [Value.oneCell']
              case c3 => unfold maxLen; omega
              case c4 => omega
              case c5 => simp; omega
              intro v' w3 hown3 hgr3 _
              have H3 := hid hown3
              have HB3 := hid ((HB1.out.alloc HB1.out.size _).grown hgr3 (by have := HB1.out.size; simp; omega) (fun b hb => by have := (World.ownsRow.lt HO.out b hb).1; omega))
              have HP3 := hid ((hgr3.block w.heap.size (by simp; omega) (fun e => by have := (World.ownsRow.lt HO.out _ e.symm).1; omega)).trans ((Below.heap_alloc _ _ _ hgl).trans HP.out))
              clear hown3 hgr3 hown
              go_wp2
              go_roundw
              case rel => exact ⟨k + 1, Ls ++ [x], by go_num, by omega, by simp; omega, HLn.out.symm, by show World.ownsRow _ _ _ _ _ _ _; rw [List.map_append, List.length_append]; exact H3.out, HP3.out, HB3.out⟩
              case measure => simp [intOf]; omega
          · obtain rfl : k = c + 1 := by omega
            have hfin := HLs.out
            rw [List.take_of_length_le (by omega)] at hfin
            have HK := hid (sf_out HF.out hfin HC.out (by omega))
            clear hfin
            obtain ⟨A, cap, rfl⟩ := txts_slice HO.out
            by_cases h24 : 24 < Ls.length
            · go_wp2
              go_ret2
              exact ⟨sfe (HK.out.2 h24) (txts_nil _ _), HB1.out⟩
            · go_wp2
              go_ret2
              exact ⟨sfe (HK.out.1 (by omega)) (own_base HO.out (by omega)), HB1.out⟩
end Go.Proofs.YtcafecpiijmkoaaDoor
