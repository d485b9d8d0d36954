/- A polar made of memory of its own, its rows apart; slices.Clone. -/
import Derived.Test.YtgjfpclpnobggaaKf
import Derived.Test.YtgjfpclpnobggaaQf
namespace Go.Proofs.Ytgjfpclpnobggaa
open Go.Shelf Go.RowKit

theorem below_none {w w' : World} (h : Below w.heap.size w w') : w.grownBy w' none := ⟨h.os, h.tape, h.output, h.size, fun i hi _ => h.block i hi⟩
theorem ne_none (v : Value) : v.ownBlock = none ∨ v.ownBlock ≠ none := by cases v.ownBlock <;> simp
theorem own_max {w : World} {base n : Nat} {e : TypeId} {v : Value} {xs : List Value} (h : w.ownsRow base e 1 v n xs) : n ≤ 9223372036854775807 := by
  rcases h.2 with ⟨_, rfl⟩ | ⟨g, cap, cur, _, _, _, h1, h2, _⟩
  · omega
  · unfold maxLen at h2; omega

structure MP (B : Nat) (w : World) (v1 v2 v3 : Value) (F : List Nat) (Z : List Int) (R : List Value) (S : List (List Nat)) : Prop where
  o1 : w.ownsRow B 36 1 v1 F.length (fcells F)
  o2 : w.ownsRow B 3 1 v2 Z.length (icells Z)
  o3 : w.ownsRow B 22 1 v3 R.length R
  rl : S.length = R.length
  ro : ∀ (j : Nat) (r : Value) (s : List Nat), R[j]? = some r → S[j]? = some s → w.ownsRow B 36 1 r s.length (fcells s)
  a1 : ∀ r ∈ R, apart r v1
  ar : ∀ (i j : Nat) (r r' : Value), R[i]? = some r → R[j]? = some r' → i ≠ j → apart r r'
section
variable {B : Nat} {w w' : World} {v1 v2 v3 : Value} {F : List Nat} {Z : List Int} {R : List Value} {S : List (List Nat)}
theorem MP.row (h : MP B w v1 v2 v3 F Z R S) {r : Value} (hr : r ∈ R) : ∃ s : List Nat, w.ownsRow B 36 1 r s.length (fcells s) := by
  obtain ⟨j, hj, rfl⟩ := List.getElem_of_mem hr
  have hj' : j < S.length := by rw [h.rl]; exact hj
  exact ⟨S[j], h.ro j _ _ (List.getElem?_eq_getElem hj) (List.getElem?_eq_getElem hj')⟩
theorem MP.turn {r : Option Nat} (h : MP B w v1 v2 v3 F Z R S) (k : w.grownBy w' r) (n1 : v1.ownBlock = none ∨ v1.ownBlock ≠ r) (n2 : v2.ownBlock = none ∨ v2.ownBlock ≠ r) (n3 : v3.ownBlock = none ∨ v3.ownBlock ≠ r) (nr : ∀ x ∈ R, x.ownBlock = none ∨ x.ownBlock ≠ r) : MP B w' v1 v2 v3 F Z R S :=
  ⟨h.o1.kept k n1, h.o2.kept k n2, h.o3.kept k n3, h.rl, fun j r s hr hs => (h.ro j r s hr hs).kept k (nr r (List.mem_of_getElem? hr)), h.a1, h.ar⟩
theorem MP.below (h : MP B w v1 v2 v3 F Z R S) (hB : Below w.heap.size w w') : MP B w' v1 v2 v3 F Z R S :=
  h.turn (below_none hB) (ne_none _) (ne_none _) (ne_none _) (fun _ _ => ne_none _)
theorem MP.app3 {v3' x : Value} {s : List Nat} (h : MP B w v1 v2 v3 F Z R S) (k : w.grownBy w' v3.ownBlock) (ho : w'.ownsRow B 22 1 v3' (R.length + 1) (R ++ [x])) (hx : w.ownsRow B 36 1 x s.length (fcells s)) (ax : apart x v1) (xr : ∀ r ∈ R, apart x r ∧ apart r x) : MP B w' v1 v2 v3' F Z (R ++ [x]) (S ++ [s]) where
  o1 := h.o1.kept k (own_ne h.o1 h.o3 (by decide))
  o2 := h.o2.kept k (own_ne h.o2 h.o3 (by decide))
  o3 := by rw [List.length_append]; exact ho
  rl := by simp [h.rl]
  ro := fun j r q hr hs => by
    have hl := h.rl
    by_cases hj : j < R.length
    · rw [List.getElem?_append_left hj] at hr
      rw [List.getElem?_append_left (by omega)] at hs
      have := h.ro j r q hr hs
      exact this.kept k (own_ne this h.o3 (by decide))
    · rw [List.getElem?_append_right (by omega)] at hr
      rw [List.getElem?_append_right (by omega)] at hs
      have e : j = R.length := by
        obtain ⟨hl2, _⟩ := List.getElem?_eq_some_iff.1 hr
        simp at hl2; omega
      subst e
      rw [Nat.sub_self] at hr
      rw [show R.length - S.length = 0 by omega] at hs
      simp at hr hs
      subst hr; subst hs
      exact hx.kept k (own_ne hx h.o3 (by decide))
  a1 := fun r hr => by
    rcases List.mem_append.1 hr with h1 | h1
    · exact h.a1 r h1
    · rw [List.mem_singleton] at h1; subst h1; exact ax
  ar := fun i j r r' hr hr' hne => by
    have key : ∀ {i : Nat} {r : Value}, (R ++ [x])[i]? = some r → (i < R.length ∧ R[i]? = some r) ∨ (i = R.length ∧ r = x) := fun {i r} hr => by
      by_cases hi : i < R.length
      · rw [List.getElem?_append_left hi] at hr; exact .inl ⟨hi, hr⟩
      · rw [List.getElem?_append_right (by omega)] at hr
        obtain ⟨hl2, he⟩ := List.getElem?_eq_some_iff.1 hr
        simp at hl2 he
        exact .inr ⟨by omega, he.symm⟩
    rcases key hr with ⟨h1, h2⟩ | ⟨h1, rfl⟩ <;> rcases key hr' with ⟨h3, h4⟩ | ⟨h3, rfl⟩
    · exact h.ar i j r r' h2 h4 hne
    · exact (xr r (List.mem_of_getElem? h2)).2
    · exact (xr r' (List.mem_of_getElem? h4)).1
    · omega
theorem MP.cell {br c i j x : Nat} {s : List Nat} (h : MP B w v1 v2 v3 F Z R S) (hr : R[i]? = some (.slice (some ⟨br, 0, none⟩) s.length c)) (hs : S[i]? = some s) (hj : j < s.length) : MP B (w.setCell ⟨br, j, none⟩ (.float .f32 x)) v1 v2 v3 F Z R (S.set i (s.set j x)) := by
  have ho := h.ro i _ _ hr hs
  have hmem := List.mem_of_getElem? hr
  have k := grown_set w br j (.float .f32 x)
  have hn1 : v1.ownBlock ≠ some br := by
    rcases h.a1 _ hmem with hn | hn
    · cases hn
    · exact fun e => hn e.symm
  refine ⟨h.o1.kept k (.inr hn1), h.o2.kept k (own_ne h.o2 ho (by decide)), h.o3.kept k (own_ne h.o3 ho (by decide)), by rw [List.length_set]; exact h.rl, fun j' r q hr' hs' => ?_, h.a1, h.ar⟩
  by_cases e : i = j'
  · subst e
    rw [hr] at hr'
    obtain rfl := Option.some.inj hr'
    have hi : i < S.length := (List.getElem?_eq_some_iff.1 hs).1
    rw [List.getElem?_set_self hi] at hs'
    obtain rfl := Option.some.inj hs'
    rw [List.length_set, ← fcells_set]
    exact (own_set ho hj).1
  · rw [List.getElem?_set_ne e] at hs'
    exact (h.ro j' r q hr' hs').kept k (h.ar j' i r _ hr' hr (Ne.symm e))
theorem MP.rd (h : MP B w v1 v2 v3 F Z R S) : RdP w (.agg #[v1, v2, v3]) F Z S := by
  have hl := h.rl
  refine ⟨v1, v2, v3, rfl, own_rdf h.o1 (own_max h.o1), own_rdi h.o2 (own_max h.o2), ?_⟩
  obtain ⟨A3, c3, rfl⟩ := own_shape h.o3
  refine ⟨by rw [hl]; exact own_max h.o3, A3, c3, by rw [hl], fun j hj => ?_⟩
  obtain ⟨ad, hA, hc⟩ := own_cells h.o3 j (by omega)
  have ho := h.ro j _ _ (List.getElem?_eq_getElem (by omega)) (List.getElem?_eq_getElem hj)
  exact ⟨ad, _, hA, hc, own_rdf ho (own_max ho)⟩
end

theorem equalIn_nil {P : Program} (d : Nat) (t e : TypeId) (a : Option Addr) (l c : Nat) (h : P.underlying t = some (.slice e)) (w : World) : (Op.equalIn (d + 1) t (.slice a l c) (.slice none 0 0)).run P w = .ok a.isNone w := by
  cases a <;> simp [Op.equalIn, run_underlying h]
theorem eql_slice_nil {P : Program} (t e : TypeId) (a : Option Addr) (l c : Nat) (h : P.underlying t = some (.slice e)) (w : World) : (binOp .eql t (.slice a l c) (.slice none 0 0)).run P w = .ok (.bool a.isNone) w := by
  have e2 : (Op.equal t (.slice a l c) (.slice none 0 0)).run P w = .ok a.isNone w := equalIn_nil 9999 t e a l c h w
  simp only [binOp]
  simp [e2]
theorem own_new {w0 w : World} {g : Nat} {e : TypeId} {v : Value} {n : Nat} {xs : List Value} (h : w.ownsRow g e 1 v n xs) (hb : w0.heap.size ≤ g) : w.ownsRow w0.heap.size e 1 v n xs := own_base h hb

set_option maxHeartbeats 1000000 in
set_option maxRecDepth 100000 in
theorem cloneF {w : World} {v : Value} {xs : List Nat} (h0 : 0 < xs.length) (h1 : xs.length ≤ 1000000) (h : RdF w v xs) :
    Calls Try.prog 73 #[v] w fun e w' => ∃ v', e = .returned v' ∧ (w'.ownsRow w.heap.size 36 1 v' xs.length (fcells xs) ∧ Below w.heap.size w w') := by
  obtain ⟨_, A, cap, rfl, hc⟩ := h
  obtain ⟨ad, rfl, _⟩ := hc 0 h0
  have HC := hid (show ∀ j u, (fcells xs)[j]? = some u → (w.alloc (.cells #[] 36)).cell? (ad.add j) = some u from fun j u hj => by
    have hl : j < xs.length := by have := (List.getElem?_eq_some_iff.1 hj).1; simpa [fcells] using this
    obtain ⟨ad', e, hcj⟩ := hc j hl
    obtain rfl := Option.some.inj e
    have : u = .float .f32 xs[j] := by simpa [fcells, List.getElem?_eq_getElem hl] using hj.symm
    subst this
    exact (((Below.refl w.heap.size w).alloc (Nat.le_refl _) _).cell (World.block_lt_of_cell? w _ hcj)).trans hcj)
  have H1 := hid (show ∀ u ∈ fcells xs, u.oneCell' = true from fun u hu => by
    obtain ⟨b, _, rfl⟩ := List.mem_map.1 hu
    rfl)
  have HO := hid (World.ownsRow_lit (e := 36) (size := 1) (base := w.heap.size) w #[] 0 (Nat.le_refl _) (by decide) (by rfl))
  have hl : (fcells xs).length = xs.length * 1 := by simp [fcells]
  have HL := hid hl
  have b1 : 0 + xs.length ≤ maxLen := by unfold maxLen; omega
  have b2 : (0 + xs.length) * 4 ≤ 140737488355328 := by omega
  clear hc hl
  have hnil := eql_slice_nil 22 36 (some ad) xs.length cap Try.underlying22
  obtain ⟨i0, hi0, hi1, hi2, hi3⟩ := info_parts info_f32
  go_enter Try.func73, Try.ntmps73
  go_wp2_with (at_builtin; (refine wpList_append_own_at _ rfl _ _ 22 rfl w.heap.size 36 i0 (.float .f32 0) 1 4 Try.underlying22 hi0 hi1 hi2 hi3 rfl (by decide) _ _ _ rfl HO.out ad xs.length cap (fcells xs) rfl HL.out HC.out H1.out b1 b2 (by simp) ?_; intro v3 w3 hown3 hgr3 _ _; have HA := hid hown3; have HG := hid hgr3; clear hown3 hgr3))
  go_ret
  refine ⟨_, rfl, ?_, ?_⟩
  · have := HA.out
    simpa using this
  · exact ((Below.refl w.heap.size w).alloc (Nat.le_refl _) _).grown HG.out (by simp) (fun b hb => by cases hb; simp)
set_option maxHeartbeats 1000000 in
set_option maxRecDepth 100000 in
theorem cloneI {w : World} {v : Value} {xs : List Int} (h0 : 0 < xs.length) (h1 : xs.length ≤ 1000000) (h : RdI w v xs) :
    Calls Try.prog 74 #[v] w fun e w' => ∃ v', e = .returned v' ∧ (w'.ownsRow w.heap.size 3 1 v' xs.length (icells xs) ∧ Below w.heap.size w w') := by
  obtain ⟨_, A, cap, rfl, hc⟩ := h
  obtain ⟨ad, rfl, _⟩ := hc 0 h0
  have HC := hid (show ∀ j u, (icells xs)[j]? = some u → (w.alloc (.cells #[] 3)).cell? (ad.add j) = some u from fun j u hj => by
    have hl : j < xs.length := by have := (List.getElem?_eq_some_iff.1 hj).1; simpa [icells] using this
    obtain ⟨ad', e, hcj⟩ := hc j hl
    obtain rfl := Option.some.inj e
    have : u = .int .i64 xs[j] := by simpa [icells, List.getElem?_eq_getElem hl] using hj.symm
    subst this
    exact (((Below.refl w.heap.size w).alloc (Nat.le_refl _) _).cell (World.block_lt_of_cell? w _ hcj)).trans hcj)
  have H1 := hid (show ∀ u ∈ icells xs, u.oneCell' = true from fun u hu => by
    obtain ⟨b, _, rfl⟩ := List.mem_map.1 hu
    rfl)
  have HO := hid (World.ownsRow_lit (e := 3) (size := 1) (base := w.heap.size) w #[] 0 (Nat.le_refl _) (by decide) (by rfl))
  have hl : (icells xs).length = xs.length * 1 := by simp [icells]
  have HL := hid hl
  have b1 : 0 + xs.length ≤ maxLen := by unfold maxLen; omega
  have b2 : (0 + xs.length) * 8 ≤ 140737488355328 := by omega
  clear hc hl
  have hnil := eql_slice_nil 23 3 (some ad) xs.length cap Try.underlying23
  obtain ⟨i0, hi0, hi1, hi2, hi3⟩ := info_parts info_int
  go_enter Try.func74, Try.ntmps74
  go_wp2_with (at_builtin; (refine wpList_append_own_at _ rfl _ _ 23 rfl w.heap.size 3 i0 (.int .i64 0) 1 8 Try.underlying23 hi0 hi1 hi2 hi3 rfl (by decide) _ _ _ rfl HO.out ad xs.length cap (icells xs) rfl HL.out HC.out H1.out b1 b2 (by simp) ?_; intro v3 w3 hown3 hgr3 _ _; have HA := hid hown3; have HG := hid hgr3; clear hown3 hgr3))
  go_ret
  refine ⟨_, rfl, ?_, ?_⟩
  · have := HA.out
    simpa using this
  · exact ((Below.refl w.heap.size w).alloc (Nat.le_refl _) _).grown HG.out (by simp) (fun b hb => by cases hb; simp)
end Go.Proofs.Ytgjfpclpnobggaa
