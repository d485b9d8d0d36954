/- A polar that is owned: stores into its parts; what can be read of it at the end. -/
import Derived.Test.YtgjfpclpnobggaaKd
namespace Go.Proofs.Ytgjfpclpnobggaa
open Go.Shelf Go.RowKit

theorem own_set {w : World} {base : Nat} {e : TypeId} {b n c j : Nat} {xs : List Value} {u : Value} (h : w.ownsRow base e 1 (.slice (some ⟨b, 0, none⟩) n c) n xs) (hj : j < n) :
    (w.setCell ⟨b, j, none⟩ u).ownsRow base e 1 (.slice (some ⟨b, 0, none⟩) n c) n (xs.set j u) ∧ w.cell? ⟨b, j, none⟩ = xs[j]? ∧ w.frozen? ⟨b, j, none⟩ = false ∧ j < xs.length := by
  have hl := h.1
  have hc := h.cellAt j (by omega)
  rcases h.2 with ⟨h', _⟩ | ⟨g, cap, cur, h', hb, hg, hn, hcap, hs, ht⟩
  · cases h'
  · injection h' with h1 h2 h3
    injection h1 with h1
    injection h1 with h1
    subst h1; subst h3
    refine ⟨⟨by simpa using hl, .inr ⟨b, c, cur.setIfInBounds j u, rfl, hb, block_set hg j u, hn, hcap, by simpa using hs, ?_⟩⟩, hc, block_free hg j, by omega⟩
    rw [Array.toList_setIfInBounds, List.take_set, ht]
theorem fcells_set (F : List Nat) (j x : Nat) : (fcells F).set j (.float .f32 x) = fcells (F.set j x) := by simp [fcells, List.map_set]
theorem icells_set (Z : List Int) (j : Nat) (x : Int) : (icells Z).set j (.int .i64 x) = icells (Z.set j x) := by simp [icells, List.map_set]

section
variable {w0 W w : World} {g bp rs : Nat} {t1 t2 t3 v1 v2 v3 : Value} {F : List Nat} {Z : List Int} {R : List Value} {m b c j : Nat}
theorem PS.wind {x : Nat} (h : PS w0 W w g bp rs t1 t2 t3 (.slice (some ⟨b, 0, none⟩) F.length c) v2 v3 F Z R m) (hj : j < F.length) :
    PS w0 W (w.setCell ⟨b, j, none⟩ (.float .f32 x)) g bp rs t1 t2 t3 (.slice (some ⟨b, 0, none⟩) F.length c) v2 v3 (F.set j x) Z R m where
  cur := h.cur.keptO (grown_set _ _ _ _) (cur_ne_own h.cur h.o1 (by decide)) (fun b' hb => Nat.le_trans h.wb (h.o1.lt b' hb).1)
  wb := h.wb
  gr := grown_up h.gr (grown_set _ _ _ _) (fun b' hb => (h.o1.lt b' hb).1)
  tri := h.tri.setO (fun e => tri_ne_own h.tri h.o1 (by decide) (by rw [e]; rfl))
  bge := h.bge
  res := h.res.setO (fun e => tri_ne_own h.res h.o1 (by decide) (by rw [e]; rfl))
  rge := h.rge
  rne := h.rne
  o1 := by
    rw [List.length_set, ← fcells_set]
    exact (own_set h.o1 hj).1
  o2 := h.o2.kept (grown_set _ _ _ _) (own_ne h.o2 h.o1 (by decide))
  o3 := h.o3.kept (grown_set _ _ _ _) (own_ne h.o3 h.o1 (by decide))
  ro := fun r hr => by
    obtain ⟨xs, hl, hx, hn⟩ := h.ro r hr
    exact ⟨xs, hl, hx.kept (grown_set _ _ _ _) hn, hn⟩
theorem PS.angle {x : Int} (h : PS w0 W w g bp rs t1 t2 t3 v1 (.slice (some ⟨b, 0, none⟩) Z.length c) v3 F Z R m) (hj : j < Z.length) :
    PS w0 W (w.setCell ⟨b, j, none⟩ (.int .i64 x)) g bp rs t1 t2 t3 v1 (.slice (some ⟨b, 0, none⟩) Z.length c) v3 F (Z.set j x) R m where
  cur := h.cur.keptO (grown_set _ _ _ _) (cur_ne_own h.cur h.o2 (by decide)) (fun b' hb => Nat.le_trans h.wb (h.o2.lt b' hb).1)
  wb := h.wb
  gr := grown_up h.gr (grown_set _ _ _ _) (fun b' hb => (h.o2.lt b' hb).1)
  tri := h.tri.setO (fun e => tri_ne_own h.tri h.o2 (by decide) (by rw [e]; rfl))
  bge := h.bge
  res := h.res.setO (fun e => tri_ne_own h.res h.o2 (by decide) (by rw [e]; rfl))
  rge := h.rge
  rne := h.rne
  o1 := h.o1.kept (grown_set _ _ _ _) (own_ne h.o1 h.o2 (by decide))
  o2 := by
    rw [List.length_set, ← icells_set]
    exact (own_set h.o2 hj).1
  o3 := h.o3.kept (grown_set _ _ _ _) (own_ne h.o3 h.o2 (by decide))
  ro := fun r hr => by
    obtain ⟨xs, hl, hx, hn⟩ := h.ro r hr
    exact ⟨xs, hl, hx.kept (grown_set _ _ _ _) (own_ne hx h.o2 (by decide)), hn⟩
theorem PS.speed {x : Nat} (h : PS w0 W w g bp rs t1 t2 t3 v1 v2 v3 F Z R m) (hr : RowO w0 w v1 m (.slice (some ⟨b, 0, none⟩) m c)) (hj : j < m) :
    PS w0 W (w.setCell ⟨b, j, none⟩ (.float .f32 x)) g bp rs t1 t2 t3 v1 v2 v3 F Z R m := by
  obtain ⟨xs, hl, ho, hn⟩ := hr
  have hn1 : v1.ownBlock ≠ some b := by
    rcases hn with hn | hn
    · cases hn
    · exact fun e => hn e.symm
  exact {
    cur := h.cur.keptO (grown_set _ _ _ _) (cur_ne_own h.cur ho (by decide)) (fun b' hb => Nat.le_trans h.wb (ho.lt b' hb).1)
    wb := h.wb
    gr := grown_up h.gr (grown_set _ _ _ _) (fun b' hb => (ho.lt b' hb).1)
    tri := h.tri.setO (fun e => tri_ne_own h.tri ho (by decide) (by rw [e]; rfl))
    bge := h.bge
    res := h.res.setO (fun e => tri_ne_own h.res ho (by decide) (by rw [e]; rfl))
    rge := h.rge
    rne := h.rne
    o1 := h.o1.kept (grown_set _ _ _ _) (.inr hn1)
    o2 := h.o2.kept (grown_set _ _ _ _) (own_ne h.o2 ho (by decide))
    o3 := h.o3.kept (grown_set _ _ _ _) (own_ne h.o3 ho (by decide))
    ro := fun r hr => by
      obtain ⟨ys, hl, hx, hn⟩ := h.ro r hr
      by_cases hb : r.ownBlock = some b
      · have hx0 := hx
        rcases hx.2 with ⟨rfl, _⟩ | ⟨g', cap, cur, rfl, _⟩
        · cases hb
        · obtain rfl : g' = b := by simpa [Value.ownBlock] using hb
          refine ⟨ys.set j x, by simpa using hl, ?_, hn⟩
          rw [← fcells_set]
          exact (own_set hx0 hj).1
      · exact ⟨ys, hl, hx.kept (grown_set _ _ _ _) (.inr hb), hn⟩ }
end

/-- singles that can be read out of blocks that are not in N -/
def DepF (N : Nat → Prop) (w : World) (v : Value) (xs : List Nat) : Prop := RdF w v xs ∧ ∀ a n c, v = .slice (some a) n c → ¬ N a.block
def DepI (N : Nat → Prop) (w : World) (v : Value) (xs : List Int) : Prop := RdI w v xs ∧ ∀ a n c, v = .slice (some a) n c → ¬ N a.block
def DepG (N : Nat → Prop) (w : World) (v : Value) (xss : List (List Nat)) : Prop := xss.length ≤ 9223372036854775807 ∧ ∃ A cap, v = .slice A xss.length cap ∧ (∀ a, A = some a → ¬ N a.block) ∧ ∀ j (h : j < xss.length), ∃ ad u, A = some ad ∧ w.cell? (ad.add j) = some u ∧ DepF N w u xss[j]
def Alike (N : Nat → Prop) (w w' : World) : Prop := ∀ b, b < w.heap.size → ¬ N b → w'.heap[b]? = w.heap[b]?
theorem add_block (a : Addr) (j : Nat) : (a.add j).block = a.block := by unfold Addr.add; split <;> rfl
theorem Alike.cell {N : Nat → Prop} {w w' : World} (h : Alike N w w') {ad : Addr} {j : Nat} {u : Value} (hc : w.cell? (ad.add j) = some u) (hn : ¬ N ad.block) : w'.cell? (ad.add j) = some u := by
  rw [← hc]
  refine World.cell?_of_block (h _ (World.block_lt_of_cell? w _ hc) ?_)
  rw [add_block]; exact hn
theorem DepF.alike {N : Nat → Prop} {w w' : World} {v : Value} {xs : List Nat} (h : DepF N w v xs) (hA : Alike N w w') : DepF N w' v xs := by
  obtain ⟨⟨hl, A, cap, rfl, hc⟩, hn⟩ := h
  refine ⟨⟨hl, A, cap, rfl, fun j hj => ?_⟩, hn⟩
  obtain ⟨ad, rfl, hcj⟩ := hc j hj
  exact ⟨ad, rfl, hA.cell hcj (hn _ _ _ rfl)⟩
theorem DepI.alike {N : Nat → Prop} {w w' : World} {v : Value} {xs : List Int} (h : DepI N w v xs) (hA : Alike N w w') : DepI N w' v xs := by
  obtain ⟨⟨hl, A, cap, rfl, hc⟩, hn⟩ := h
  refine ⟨⟨hl, A, cap, rfl, fun j hj => ?_⟩, hn⟩
  obtain ⟨ad, rfl, hcj⟩ := hc j hj
  exact ⟨ad, rfl, hA.cell hcj (hn _ _ _ rfl)⟩
theorem DepG.alike {N : Nat → Prop} {w w' : World} {v : Value} {xss : List (List Nat)} (h : DepG N w v xss) (hA : Alike N w w') : DepG N w' v xss := by
  obtain ⟨hl, A, cap, rfl, hn, hc⟩ := h
  refine ⟨hl, A, cap, rfl, hn, fun j hj => ?_⟩
  obtain ⟨ad, u, rfl, hcj, hd⟩ := hc j hj
  exact ⟨ad, u, rfl, hA.cell hcj (hn _ rfl), hd.alike hA⟩
theorem DepF.weak {N N' : Nat → Prop} {w : World} {v : Value} {xs : List Nat} (h : DepF N w v xs) (hN : ∀ b, N' b → N b) : DepF N' w v xs := ⟨h.1, fun a n c e hn => h.2 a n c e (hN _ hn)⟩
theorem DepG.weak {N N' : Nat → Prop} {w : World} {v : Value} {xss : List (List Nat)} (h : DepG N w v xss) (hN : ∀ b, N' b → N b) : DepG N' w v xss := by
  obtain ⟨hl, A, cap, rfl, hn, hc⟩ := h
  refine ⟨hl, A, cap, rfl, fun a e ha => hn a e (hN _ ha), fun j hj => ?_⟩
  obtain ⟨ad, u, rfl, hcj, hd⟩ := hc j hj
  exact ⟨ad, u, rfl, hcj, hd.weak hN⟩
theorem DepG.rd {N : Nat → Prop} {w : World} {v : Value} {xss : List (List Nat)} (h : DepG N w v xss) : RdG w v xss := by
  obtain ⟨hl, A, cap, rfl, hn, hc⟩ := h
  refine ⟨hl, A, cap, rfl, fun j hj => ?_⟩
  obtain ⟨ad, u, rfl, hcj, hd⟩ := hc j hj
  exact ⟨ad, u, rfl, hcj, hd.1⟩
/-- a polar that can be read out of blocks that are not in N, not great -/
def DepP (N : Nat → Prop) (w : World) (a b c : Value) : Prop := ∃ ws an ss, DepF N w a ws ∧ DepI N w b an ∧ DepG N w c ss ∧ ws.length ≤ 100 ∧ an.length ≤ 100 ∧ ss.length ≤ 100 ∧ ∀ r ∈ ss, r.length ≤ 100
theorem DepP.alike {N : Nat → Prop} {w w' : World} {a b c : Value} (h : DepP N w a b c) (hA : Alike N w w') : DepP N w' a b c := by
  obtain ⟨ws, an, ss, h1, h2, h3, h4⟩ := h
  exact ⟨ws, an, ss, h1.alike hA, h2.alike hA, h3.alike hA, h4⟩
theorem DepP.weak {N N' : Nat → Prop} {w : World} {a b c : Value} (h : DepP N w a b c) (hN : ∀ b, N' b → N b) : DepP N' w a b c := by
  obtain ⟨ws, an, ss, h1, h2, h3, h4⟩ := h
  exact ⟨ws, an, ss, h1.weak hN, ⟨h2.1, fun a n c e hn => h2.2 a n c e (hN _ hn)⟩, h3.weak hN, h4⟩
theorem DepP.rd {N : Nat → Prop} {w : World} {a b c : Value} (h : DepP N w a b c) : ∃ ws an ss, RdP w (.agg #[a, b, c]) ws an ss ∧ Small ws an ss := by
  obtain ⟨ws, an, ss, h1, h2, h3, h4, h5, h6, h7⟩ := h
  exact ⟨ws, an, ss, ⟨a, b, c, rfl, h1.1, h2.1, h3.rd⟩, by omega, by omega, by omega, fun r hr => by have := h7 r hr; omega⟩

theorem own_rdf {w : World} {base : Nat} {e : TypeId} {v : Value} {xs : List Nat} {n : Nat} (h : w.ownsRow base e 1 v n (fcells xs)) (hl : xs.length ≤ 9223372036854775807) : RdF w v xs := by
  have hn : xs.length = n := by have := h.1; simpa [fcells] using this
  have h0 := h
  rcases h.2 with ⟨rfl, rfl⟩ | ⟨g, cap, cur, rfl, _⟩
  · exact ⟨hl, none, 0, by rw [hn], fun j hj => by omega⟩
  · refine ⟨hl, some ⟨g, 0, none⟩, cap, by rw [hn], fun j hj => ⟨_, rfl, ?_⟩⟩
    rw [add_flat, h0.cellAt j (by omega)]
    simp [fcells, List.getElem?_eq_getElem hj]
theorem own_rdi {w : World} {base : Nat} {e : TypeId} {v : Value} {xs : List Int} {n : Nat} (h : w.ownsRow base e 1 v n (icells xs)) (hl : xs.length ≤ 9223372036854775807) : RdI w v xs := by
  have hn : xs.length = n := by have := h.1; simpa [icells] using this
  have h0 := h
  rcases h.2 with ⟨rfl, rfl⟩ | ⟨g, cap, cur, rfl, _⟩
  · exact ⟨hl, none, 0, by rw [hn], fun j hj => by omega⟩
  · refine ⟨hl, some ⟨g, 0, none⟩, cap, by rw [hn], fun j hj => ⟨_, rfl, ?_⟩⟩
    rw [add_flat, h0.cellAt j (by omega)]
    simp [icells, List.getElem?_eq_getElem hj]
theorem own_far {v : Value} {N : Nat → Prop} (h : ∀ b, v.ownBlock = some b → ¬ N b) : ∀ a n c, v = .slice (some a) n c → ¬ N a.block := fun a n c e => h _ (by rw [e]; rfl)
theorem rows_list {P : Value → List Nat → Prop} {n : Nat} : ∀ R : List Value, (∀ r ∈ R, ∃ xs, xs.length ≤ n ∧ P r xs) → ∃ ss : List (List Nat), ss.length = R.length ∧ (∀ r ∈ ss, r.length ≤ n) ∧ ∀ j (h : j < R.length) (h' : j < ss.length), P R[j] ss[j]
  | [], _ => ⟨[], rfl, (fun r hr => by cases hr), fun j h => absurd h (Nat.not_lt_zero j)⟩
  | r :: R, h => by
    obtain ⟨ss, h1, h2, h3⟩ := rows_list R (fun x hx => h x (List.mem_cons_of_mem _ hx))
    obtain ⟨xs, hx, hp⟩ := h r List.mem_cons_self
    refine ⟨xs :: ss, by simp [h1], fun y hy => ?_, fun j hj hj' => ?_⟩
    · rcases List.mem_cons.1 hy with rfl | hy
      · exact hx
      · exact h2 y hy
    · match j with
      | 0 => exact hp
      | j + 1 => exact h3 j (by simpa using hj) (by simpa using hj')
/-- rows out of a list of slices -/
theorem depg_of {N : Nat → Prop} {w : World} {A : Option Addr} {cap n : Nat} {R : List Value} (hl : R.length ≤ 100) (hn : ∀ a, A = some a → ¬ N a.block) (hc : ∀ j (h : j < R.length), ∃ ad, A = some ad ∧ w.cell? (ad.add j) = some R[j]) (hr : ∀ r ∈ R, ∃ xs : List Nat, xs.length ≤ n ∧ DepF N w r xs) :
    ∃ ss, ss.length = R.length ∧ (∀ r ∈ ss, r.length ≤ n) ∧ DepG N w (.slice A R.length cap) ss := by
  obtain ⟨ss, h1, h2, h3⟩ := rows_list R hr
  refine ⟨ss, h1, h2, by omega, A, cap, by rw [h1], hn, fun j hj => ?_⟩
  obtain ⟨ad, hA, hcj⟩ := hc j (by omega)
  exact ⟨ad, _, hA, hcj, h3 j (by omega) hj⟩
theorem own_cells {w : World} {base : Nat} {e : TypeId} {A : Option Addr} {c n : Nat} {R : List Value} (h : w.ownsRow base e 1 (.slice A n c) n R) : ∀ j (hj : j < R.length), ∃ ad, A = some ad ∧ w.cell? (ad.add j) = some R[j] := by
  intro j hj
  have hl := h.1
  have h0 := h
  rcases h.2 with ⟨h', h''⟩ | ⟨g, cap, cur, h', _⟩
  · omega
  · injection h' with h1 h2 h3
    subst h1; subst h3
    refine ⟨_, rfl, ?_⟩
    rw [add_flat, h0.cellAt j (by omega)]
    simp [List.getElem?_eq_getElem hj]

/-- at the end: the cells of the polar, of the result, and what can be read -/
structure PF (w0 W w : World) (g bp rs : Nat) (a b c : Value) : Prop where
  cur : Cur W w g
  wb : W.heap.size ≤ w0.heap.size
  gr : w0.grownBy w (some g)
  tri : Tri w bp a b c
  res : Tri w rs (.slice none 0 0) (.slice none 0 0) (.slice none 0 0)
  rge : w0.heap.size ≤ rs
  rne : rs ≠ bp
  dep : DepP (fun b => b = g ∨ b = rs ∨ b < w0.heap.size) w a b c
section
variable {w0 W w : World} {g bp rs : Nat} {t1 t2 t3 v1 v2 v3 : Value} {F : List Nat} {Z : List Int} {R : List Value} {m : Nat}
theorem PS.farI (h : PS w0 W w g bp rs t1 t2 t3 v1 v2 v3 F Z R m) {e : TypeId} {n : Nat} {v : Value} {xs : List Value} (ho : w.ownsRow w0.heap.size e 1 v n xs) (h1 : e ≠ 81) (h2 : e ≠ 29) : ∀ b, v.ownBlock = some b → ¬ (b = g ∨ b = rs ∨ b < w0.heap.size) := fun b hb hn => by
  rcases hn with rfl | rfl | hn
  · exact cur_ne_own h.cur ho h1 hb
  · exact tri_ne_own h.res ho h2 hb
  · have := (ho.lt b hb).1; omega
theorem PS.rowF (h : PS w0 W w g bp rs t1 t2 t3 v1 v2 v3 F Z R m) (hm : m ≤ 100) : ∀ r ∈ R, ∃ xs : List Nat, xs.length ≤ 100 ∧ DepF (fun b => b = g ∨ b = rs ∨ b < w0.heap.size) w r xs := fun r hr => by
  obtain ⟨xs, hl, ho, _⟩ := h.ro r hr
  exact ⟨xs, by omega, own_rdf ho (by omega), own_far (h.farI ho (by decide) (by decide))⟩
theorem PS.parts (h : PS w0 W w g bp rs t1 t2 t3 v1 v2 v3 F Z R m) (hF : F.length ≤ 100) (hZ : Z.length ≤ 100) : DepF (fun b => b = g ∨ b = rs ∨ b < w0.heap.size) w v1 F ∧ DepI (fun b => b = g ∨ b = rs ∨ b < w0.heap.size) w v2 Z :=
  ⟨⟨own_rdf h.o1 (by omega), own_far (h.farI h.o1 (by decide) (by decide))⟩, own_rdi h.o2 (by omega), own_far (h.farI h.o2 (by decide) (by decide))⟩
theorem PS.pf (h : PS w0 W w g bp rs v1 v2 v3 v1 v2 v3 F Z R m) (hF : F.length ≤ 100) (hZ : Z.length ≤ 100) (hR : R.length ≤ 100) (hm : m ≤ 100) : PF w0 W w g bp rs v1 v2 v3 where
  cur := h.cur
  wb := h.wb
  gr := h.gr
  tri := h.tri
  res := h.res
  rge := h.rge
  rne := h.rne
  dep := by
    obtain ⟨A3, c3, rfl⟩ := own_shape h.o3
    obtain ⟨ss, s1, s2, s3⟩ := depg_of (cap := c3) hR (A := A3) (N := fun b => b = g ∨ b = rs ∨ b < w0.heap.size) (fun a e => own_far (h.farI h.o3 (by decide) (by decide)) a R.length c3 (by rw [e])) (own_cells h.o3) (h.rowF hm)
    exact ⟨F, Z, ss, (h.parts hF hZ).1, (h.parts hF hZ).2, s3, hF, hZ, by omega, s2⟩
end
/-- a polar, whatever it is, made by a draw -/
def AnyMade (w0 W w : World) (g : Nat) (e : Ending) : Prop := ∃ a b c, e = .returned (.agg #[a, b, c]) ∧ DepP (fun b => b = g ∨ b < w0.heap.size) w a b c ∧ Cur W w g ∧ w0.grownBy w (some g)
theorem alike_cells {N : Nat → Prop} {w : World} {rs i : Nat} {u : Value} (h : N rs) : Alike N w (w.setCell ⟨rs, i, none⟩ u) := fun b _ hn => Below.heap_setCell _ _ _ _ (fun e => hn (by rw [e]; exact h))
theorem Alike.trans {N : Nat → Prop} {w w' w'' : World} (h : Alike N w w') (k : Alike N w' w'') (hs : w.heap.size ≤ w'.heap.size) : Alike N w w'' := fun b hb hn => (k b (by omega) hn).trans (h b hb hn)
theorem PF.made {w0 W w : World} {g bp rs : Nat} {a b c : Value} (h : PF w0 W w g bp rs a b c) : AnyMade w0 W (((w.setCell ⟨rs, 0, none⟩ a).setCell ⟨rs, 1, none⟩ b).setCell ⟨rs, 2, none⟩ c) g (.returned (.agg #[a, b, c])) := by
  have hcur : ∀ {w : World} {i : Nat} {u x y z : Value}, Cur W w g → w0.grownBy w (some g) → Tri w rs x y z → Cur W (w.setCell ⟨rs, i, none⟩ u) g ∧ w0.grownBy (w.setCell ⟨rs, i, none⟩ u) (some g) := fun hc hg ht =>
    ⟨hc.keptO (grown_set _ _ _ _) (fun e => tri_ne_cur ht hc (by cases e; rfl)) (fun b' hb => by cases hb; exact Nat.le_trans h.wb h.rge), grown_up hg (grown_set _ _ _ _) (fun b' hb => by cases hb; exact h.rge)⟩
  obtain ⟨c1, g1⟩ := hcur (i := 0) (u := a) h.cur h.gr h.res
  obtain ⟨c2, g2⟩ := hcur (i := 1) (u := b) c1 g1 h.res.set0
  obtain ⟨c3, g3⟩ := hcur (i := 2) (u := c) c2 g2 h.res.set0.set1
  refine ⟨a, b, c, rfl, ?_, c3, g3⟩
  have hN : (fun b => b = g ∨ b = rs ∨ b < w0.heap.size) rs := .inr (.inl rfl)
  exact (((h.dep.alike (alike_cells hN)).alike (alike_cells hN)).alike (alike_cells hN)).weak (fun b hb => by rcases hb with hb | hb; exact .inl hb; exact .inr (.inr hb))
end Go.Proofs.Ytgjfpclpnobggaa
