/- A polar that came in, opened. -/
import Derived.Test.YtgjfpclpnobggaaPa
import Derived.ProofKit
import Derived.OpenShut
import Derived.ChangeSlices
import Derived.Deep.Slices
import Derived.Deep.Strs
namespace Go.Proofs.Ytgjfpclpnobggaa
open Go.ChangeShapes Go.WideShapes Go.ChangeAt Go.RowKit Go.Deep

section
variable {H : Type} {enc : TypeId × Value → H} {W : World} {sp : Nat → Bool} {held : Bool} {n : Nat}
theorem trod_float {P : Program} {t : TypeId} {k : FloatKind} {cs : List Value} {x : DataW H × List MemPlace} {base : Nat} (ht : P.underlying t = some (.float k)) (h : DataW.trod enc P W base sp held n t cs = some x) : ∃ b, cs = [.float k b] := by
  cases n with
  | zero => simp [DataW.trod] at h
  | succ n =>
    unfold DataW.trod at h
    rw [ht] at h
    split at h <;> simp_all
theorem cells_one' {a : Addr} {cs : List Value} {base : Nat} (h : W.cells? base a 1 = some cs) : ∃ c, cs = [c] ∧ W.cell? a = some c := by
  cases hc : W.cell? a with
  | none => simp [World.cells?, hc, Addr.add] at h
  | some c =>
    simp [World.cells?, hc, Addr.add] at h
    exact ⟨c, h.2.symm, rfl⟩
theorem rdf_open {cs : List Value} {y : DataW H × List MemPlace} (h : DataW.trod enc Try.prog W 0 sp held n 22 cs = some y) : ∃ c xs, cs = [c] ∧ RdF W c xs := by
  have hc1 : Try.prog.cellsOf 36 = 1 := by kernel_rfl
  rcases open_slice Try.underlying22 h with ⟨rfl, _⟩ | ⟨a, len, cap, m, n', D, Pl, rfl, _, hl, hm, hmm, _, hel⟩
  · exact ⟨_, [], rfl, by simp, none, 0, rfl, fun j hj => by simp at hj⟩
  · refine ⟨_, (List.range len).map (fun j => match W.cell? (a.add j) with | some (.float .f32 b) => b | _ => 0), rfl, ?_, ?_⟩
    · unfold maxLen at hm; simp; omega
    · refine ⟨some a, cap, by simp, fun j hj => ⟨a, rfl, ?_⟩⟩
      have hj' : j < len := by simpa using hj
      obtain ⟨cs', h1, h2⟩ := hel j (by rw [hmm]; split <;> omega)
      rw [hc1, Nat.mul_one] at h1
      obtain ⟨c, rfl, hc⟩ := cells_one' h1
      obtain ⟨b, hb⟩ := trod_float Try.underlying36 h2
      obtain rfl : c = .float .f32 b := by simpa using hb
      simp [hc]
theorem rdi_open {cs : List Value} {y : DataW H × List MemPlace} (h : DataW.trod enc Try.prog W 0 sp held n 23 cs = some y) : ∃ c xs, cs = [c] ∧ RdI W c xs := by
  rcases open_ints Try.underlying23 Try.underlying3 (by kernel_rfl) h with ⟨rfl, _⟩ | ⟨a, len, cap, zs, rfl, _, hl, hm, hz, _, hc, _⟩
  · exact ⟨_, [], rfl, by simp, none, 0, rfl, fun j hj => by simp at hj⟩
  · have hzl : len ≤ zs.length := by rw [hz]; split <;> omega
    refine ⟨_, zs.take len, rfl, ?_, some a, cap, by simp [List.length_take]; omega, fun j hj => ⟨a, rfl, ?_⟩⟩
    · unfold maxLen at hm; simp; omega
    · have hj' : j < len := by rw [List.length_take] at hj; omega
      rw [hc j (by omega)]
      simp [List.getElem_take, List.getD_eq_getElem?_getD, List.getElem?_eq_getElem (show j < zs.length by omega)]
theorem rdg_open {cs : List Value} {y : DataW H × List MemPlace} (h : DataW.trod enc Try.prog W 0 sp held n 24 cs = some y) : ∃ c xs, cs = [c] ∧ RdG W c xs := by
  have hc1 : Try.prog.cellsOf 22 = 1 := by kernel_rfl
  rcases open_slice Try.underlying24 h with ⟨rfl, _⟩ | ⟨a, len, cap, m, n', D, Pl, rfl, _, hl, hm, hmm, _, hel⟩
  · exact ⟨_, [], rfl, by simp, none, 0, rfl, fun j hj => by simp at hj⟩
  · have hex : ∀ j, j < len → ∃ xs, ∃ u, W.cell? (a.add j) = some u ∧ RdF W u xs := fun j hj => by
      obtain ⟨cs', h1, h2⟩ := hel j (by rw [hmm]; split <;> omega)
      rw [hc1, Nat.mul_one] at h1
      obtain ⟨c, rfl, hc⟩ := cells_one' h1
      obtain ⟨c', xs, he, hr⟩ := rdf_open h2
      obtain rfl : c = c' := by simpa using he
      exact ⟨xs, c, hc, hr⟩
    classical
    refine ⟨_, (List.range len).map (fun j => if hj : j < len then (hex j hj).choose else []), rfl, ?_, some a, cap, by simp, fun j hj => ?_⟩
    · unfold maxLen at hm; simp; omega
    · have hj' : j < len := by simpa using hj
      obtain ⟨u, hu, hr⟩ := (hex j hj').choose_spec
      refine ⟨a, u, rfl, hu, ?_⟩
      simpa [hj'] using hr
theorem rdp_open {cs : List Value} {y : DataW H × List MemPlace} (h : DataW.trod enc Try.prog W 0 sp held n 26 cs = some y) : ∃ ws an ss, RdP W (.agg cs.toArray) ws an ss := by
  obtain ⟨y0, y1, y2, n', _, hl, h0, h1, h2⟩ := trod_struct3 Try.underlying26 h
  have e1 : Try.prog.cellsOf 22 = 1 := by kernel_rfl
  have e2 : Try.prog.cellsOf 23 = 1 := by kernel_rfl
  have e3 : Try.prog.cellsOf 24 = 1 := by kernel_rfl
  have e4 : Try.prog.cellsOf 26 = 3 := by kernel_rfl
  rw [e4] at hl
  match cs, hl with
  | [a, b, c], _ =>
    obtain ⟨a', ws, ha, hw⟩ := rdf_open (cs := [a]) (by simpa [e1] using h0)
    obtain ⟨b', an, hb, hi⟩ := rdi_open (cs := [b]) (by simpa [e2] using h1)
    obtain ⟨c', ss, hc, hg⟩ := rdg_open (cs := [c]) (by simpa [e3] using h2)
    obtain rfl : a = a' := by simpa using ha
    obtain rfl : b = b' := by simpa using hb
    obtain rfl : c = c' := by simpa using hc
    exact ⟨ws, an, ss, a, b, c, rfl, hw, hi, hg⟩
end
end Go.Proofs.Ytgjfpclpnobggaa
