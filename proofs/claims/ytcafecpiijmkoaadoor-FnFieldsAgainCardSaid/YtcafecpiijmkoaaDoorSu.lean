/- The fields of the fields joined, with no program in sight; the draw of FnFieldsAgain. -/
import Derived.Test.YtcafecpiijmkoaaDoorSq
import Derived.Test.YtcafecpiijmkoaaDoorFy
namespace Go.Proofs.YtcafecpiijmkoaaDoor
open Go.RowKit

theorem flA_mem (r : List UInt8) : ∀ (cur : List UInt8), (∀ c ∈ cur, c ≠ 32) → ∀ f ∈ flA cur r, f ≠ [] ∧ ∀ c ∈ f, c ≠ 32 ∧ (c ∈ cur ∨ c ∈ r) := by
  induction r with
  | nil =>
    intro cur hc f hf
    rw [flA] at hf
    by_cases h : cur = []
    · rw [if_pos h] at hf; cases hf
    · rw [if_neg h, List.mem_singleton] at hf
      subst hf
      exact ⟨h, fun c hcc => ⟨hc c hcc, .inl hcc⟩⟩
  | cons x r ih =>
    intro cur hc f hf
    rw [flA] at hf
    by_cases hx : x = 32
    · rw [if_pos hx] at hf
      have h0 : ∀ f ∈ flA [] r, f ≠ [] ∧ ∀ c ∈ f, c ≠ 32 ∧ (c ∈ cur ∨ c ∈ x :: r) := fun f hf => by
        have := ih [] (fun _ h => by cases h) f hf
        refine ⟨this.1, fun c hcc => ⟨(this.2 c hcc).1, .inr ?_⟩⟩
        rcases (this.2 c hcc).2 with h | h
        · cases h
        · exact List.mem_cons_of_mem _ h
      by_cases h : cur = []
      · rw [if_pos h] at hf; exact h0 f hf
      · rw [if_neg h, List.mem_cons] at hf
        rcases hf with rfl | hf
        · exact ⟨h, fun c hcc => ⟨hc c hcc, .inl hcc⟩⟩
        · exact h0 f hf
    · rw [if_neg hx] at hf
      have := ih (cur ++ [x]) (fun c hcc => by
        rcases List.mem_append.1 hcc with h | h
        · exact hc c h
        · rw [List.mem_singleton.1 h]; exact hx) f hf
      refine ⟨this.1, fun c hcc => ⟨(this.2 c hcc).1, ?_⟩⟩
      rcases (this.2 c hcc).2 with h | h
      · rcases List.mem_append.1 h with h | h
        · exact .inl h
        · exact .inr (by rw [List.mem_singleton.1 h]; exact List.mem_cons_self)
      · exact .inr (List.mem_cons_of_mem _ h)
/-- the fields joined, a space behind each -/
def joinL : List (List UInt8) → List UInt8
  | [] => []
  | f :: r => f ++ 32 :: joinL r
theorem joinL_append (a b : List (List UInt8)) : joinL (a ++ b) = joinL a ++ joinL b := by
  induction a with
  | nil => rfl
  | cons f r ih => simp [joinL, ih]
theorem fl_join (F : List (List UInt8)) (h : ∀ f ∈ F, f ≠ [] ∧ ∀ c ∈ f, c ≠ 32) : fl (joinL F) = F := by
  induction F with
  | nil => rfl
  | cons f r ih =>
    obtain ⟨h1, h2⟩ := h f List.mem_cons_self
    rw [joinL, fl, flA_hit f (joinL r) [] h2, List.nil_append, if_neg h1]
    rw [show flA [] (joinL r) = fl (joinL r) from rfl, ih fun g hg => h g (List.mem_cons_of_mem _ hg)]
    rfl
theorem good_list {s : ByteArray} : GoodLine s ↔ s.size ≤ 600 ∧ ∀ c ∈ s.data.toList, 32 ≤ c.toNat ∧ c.toNat ≤ 126 := by
  constructor
  · rintro ⟨h1, h2⟩
    refine ⟨h1, fun c hc => ?_⟩
    obtain ⟨j, hj⟩ := List.getElem?_of_mem hc
    have hl : j < s.data.toList.length := by
      by_cases h : j < s.data.toList.length
      · exact h
      · rw [List.getElem?_eq_none (by omega)] at hj; cases hj
    have hl2 : j < s.size := by simpa using hl
    rw [get_at' hl2] at hj
    rw [← Option.some.inj hj]
    exact h2 j hl2
  · rintro ⟨h1, h2⟩
    exact ⟨h1, fun j hj => h2 _ (List.mem_of_getElem? (get_at' hj))⟩
/-- the fields of a good line, joined, if that is no longer than a line may be -/
theorem fields_again {l s : ByteArray} {Ls : List ByteArray} (h : SF l Ls true) (hs : s.data.toList = joinL (toLs Ls)) (h600 : s.size ≤ 600) : SF s Ls true := by
  rcases h with ⟨⟨hg, h24⟩, _, he⟩ | ⟨_, hf, _⟩
  · have hm : ∀ f ∈ toLs Ls, f ≠ [] ∧ ∀ c ∈ f, c ≠ 32 ∧ (c ∈ ([] : List UInt8) ∨ c ∈ l.data.toList) := by
      rw [he]; exact flA_mem l.data.toList [] (fun _ h => by cases h)
    have hfl : fl s.data.toList = toLs Ls := by
      rw [hs]; exact fl_join _ fun f hf => ⟨(hm f hf).1, fun c hc => ((hm f hf).2 c hc).1⟩
    refine .inl ⟨⟨good_list.2 ⟨h600, ?_⟩, by rw [hfl, he]; exact h24⟩, rfl, hfl.symm⟩
    rw [hs]
    have hall : ∀ F : List (List UInt8), (∀ f ∈ F, ∀ c ∈ f, 32 ≤ c.toNat ∧ c.toNat ≤ 126) → ∀ c ∈ joinL F, 32 ≤ c.toNat ∧ c.toNat ≤ 126 := by
      intro F
      induction F with
      | nil => intro _ c hc; cases hc
      | cons f r ih =>
        intro hF c hc
        rw [joinL, List.mem_append, List.mem_cons] at hc
        rcases hc with hc | rfl | hc
        · exact hF f List.mem_cons_self c hc
        · decide
        · exact ih (fun g hg => hF g (List.mem_cons_of_mem _ hg)) c hc
    refine hall _ fun f hf c hc => ?_
    rcases ((hm f hf).2 c hc).2 with h | h
    · cases h
    · exact (good_list.1 hg).2 c h
  · cases hf
end Go.Proofs.YtcafecpiijmkoaaDoor
