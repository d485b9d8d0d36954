/- A polar that is being made: what is owned, and how it grows. -/
import Derived.Test.YtgjfpclpnobggaaKb
import Derived.Test.YtgjfpclpnobggaaPb
import Derived.Maps.AppendAt
namespace Go.Proofs.Ytgjfpclpnobggaa
open Go.RowKit

/-- a cursor is no row of another type -/
theorem cur_ne_own {W w : World} {g : Nat} (h : Cur W w g) {base : Nat} {e : TypeId} {size n : Nat} {v : Value} {xs : List Value} (ho : w.ownsRow base e size v n xs) (he : e ≠ 81) : v.ownBlock ≠ some g := by
  obtain ⟨A, m, c, i, h0, hb, _⟩ := h
  rcases ho.2 with ⟨rfl, _⟩ | ⟨g', cap, cur, rfl, _, hg', _⟩
  · simp [Value.ownBlock]
  · intro heq
    simp only [Value.ownBlock, Option.some.injEq] at heq
    subst heq
    rw [hb] at hg'
    injection hg' with hg'
    injection hg' with _ ht
    exact he ht.symm
theorem Cur.keptO {W w w' : World} {g : Nat} {r : Option Nat} (h : Cur W w g) (k : w.grownBy w' r) (hne : r ≠ some g) (hr : ∀ b, r = some b → W.heap.size ≤ b) : Cur W w' g := by
  obtain ⟨A, n, c, i, h0, hb, hg, h1, h2, hr', hB⟩ := h
  exact ⟨A, n, c, i, h0, (k.block g (lt_of_block hb) (fun e => hne e.symm)).trans hb, hg, h1, h2, hr', hB.grown k hB.size hr⟩
/-- rows of two types are apart -/
theorem own_ne {w : World} {b1 b2 s1 s2 n1 n2 : Nat} {e1 e2 : TypeId} {v1 v2 : Value} {x1 x2 : List Value} (h1 : w.ownsRow b1 e1 s1 v1 n1 x1) (h2 : w.ownsRow b2 e2 s2 v2 n2 x2) (he : e1 ≠ e2) : v1.ownBlock = none ∨ v1.ownBlock ≠ v2.ownBlock := by
  rcases h1.2 with ⟨rfl, _⟩ | ⟨g, cap, cur, rfl, _, hg, _⟩
  · exact .inl rfl
  · right
    rcases h2.2 with ⟨rfl, _⟩ | ⟨g', cap', cur', rfl, _, hg', _⟩
    · simp [Value.ownBlock]
    · intro heq
      simp only [Value.ownBlock, Option.some.injEq] at heq
      subst heq
      rw [hg] at hg'
      injection hg' with hg'
      injection hg' with _ ht
      exact he ht
theorem tri_ne_own {w : World} {bp : Nat} {x y z : Value} (h : Tri w bp x y z) {base : Nat} {e : TypeId} {size n : Nat} {v : Value} {xs : List Value} (ho : w.ownsRow base e size v n xs) (he : e ≠ 29) : v.ownBlock ≠ some bp := by
  rcases ho.2 with ⟨rfl, _⟩ | ⟨g', cap, cur, rfl, _, hg', _⟩
  · simp [Value.ownBlock]
  · intro heq
    simp only [Value.ownBlock, Option.some.injEq] at heq
    subst heq
    unfold Tri at h
    rw [h] at hg'
    injection hg' with hg'
    injection hg' with _ ht
    exact he ht.symm
theorem tri_ne_cur {W w : World} {g bp : Nat} {x y z : Value} (h : Tri w bp x y z) (hC : Cur W w g) : bp ≠ g := by
  obtain ⟨A, m, c, i, h0, hb, _⟩ := hC
  rintro rfl
  unfold Tri at h
  rw [h] at hb
  injection hb with hb
  injection hb with _ ht
  exact absurd ht (by decide)

/-- what grows only above a mark, but for the cursor -/
theorem grown_up {w1 w2 w3 : World} {g : Nat} {r : Option Nat} (h : w1.grownBy w2 (some g)) (k : w2.grownBy w3 r) (hr : ∀ b, r = some b → w1.heap.size ≤ b) : w1.grownBy w3 (some g) :=
  ⟨k.os.trans h.os, k.tape.trans h.tape, k.output.trans h.output, Nat.le_trans h.size k.size, fun i hi hne =>
    (k.block i (Nat.lt_of_lt_of_le hi h.size) (fun e => by have := hr i e.symm; omega)).trans (h.block i hi hne)⟩
theorem grown_up' {w1 w2 w3 : World} {g : Nat} {r : Option Nat} (h : w1.grownBy w2 (some g)) (k : w2.grownBy w3 r) (hr : ∀ b, r = some b → b = g ∨ w1.heap.size ≤ b) : w1.grownBy w3 (some g) :=
  ⟨k.os.trans h.os, k.tape.trans h.tape, k.output.trans h.output, Nat.le_trans h.size k.size, fun i hi hne =>
    (k.block i (Nat.lt_of_lt_of_le hi h.size) (fun e => by rcases hr i e.symm with rfl | h2; exact hne rfl; omega)).trans (h.block i hi hne)⟩
/-- a row of m singles, apart from the winds -/
def RowO (w0 w : World) (v1 : Value) (m : Nat) (r : Value) : Prop := ∃ xs, xs.length = m ∧ w.ownsRow w0.heap.size 36 1 r m (fcells xs) ∧ (r.ownBlock = none ∨ r.ownBlock ≠ v1.ownBlock)
structure PS (w0 W w : World) (g bp rs : Nat) (t1 t2 t3 v1 v2 v3 : Value) (F : List Nat) (Z : List Int) (R : List Value) (m : Nat) : Prop where
  cur : Cur W w g
  wb : W.heap.size ≤ w0.heap.size
  gr : w0.grownBy w (some g)
  tri : Tri w bp t1 t2 t3
  bge : w0.heap.size ≤ bp
  res : Tri w rs (.slice none 0 0) (.slice none 0 0) (.slice none 0 0)
  rge : w0.heap.size ≤ rs
  rne : rs ≠ bp
  o1 : w.ownsRow w0.heap.size 36 1 v1 F.length (fcells F)
  o2 : w.ownsRow w0.heap.size 3 1 v2 Z.length (icells Z)
  o3 : w.ownsRow w0.heap.size 22 1 v3 R.length R
  ro : ∀ r ∈ R, RowO w0 w v1 m r

section
variable {w0 W w w' : World} {g bp rs : Nat} {t1 t2 t3 v1 v2 v3 : Value} {F : List Nat} {Z : List Int} {R : List Value} {m : Nat}
/-- a turn of one block that is none of the owned ones -/
theorem PS.turn {r : Option Nat} (h : PS w0 W w g bp rs t1 t2 t3 v1 v2 v3 F Z R m) (k : w.grownBy w' r) (hc : Cur W w' g) (hup : ∀ b, r = some b → b = g ∨ w0.heap.size ≤ b) (hbp : r ≠ some bp) (hrs : r ≠ some rs) (n1 : v1.ownBlock = none ∨ v1.ownBlock ≠ r) (n2 : v2.ownBlock = none ∨ v2.ownBlock ≠ r) (n3 : v3.ownBlock = none ∨ v3.ownBlock ≠ r)
    (nr : ∀ x ∈ R, x.ownBlock = none ∨ x.ownBlock ≠ r) : PS w0 W w' g bp rs t1 t2 t3 v1 v2 v3 F Z R m where
  cur := hc
  wb := h.wb
  gr := grown_up' h.gr k hup
  tri := (k.block bp (lt_of_block h.tri) (Ne.symm hbp)).trans h.tri
  bge := h.bge
  res := (k.block rs (lt_of_block h.res) (Ne.symm hrs)).trans h.res
  rge := h.rge
  rne := h.rne
  o1 := h.o1.kept k n1
  o2 := h.o2.kept k n2
  o3 := h.o3.kept k n3
  ro := fun x hx => by
    obtain ⟨xs, hl, ho, hn⟩ := h.ro x hx
    exact ⟨xs, hl, ho.kept k (nr x hx), hn⟩
theorem PS.grown (h : PS w0 W w g bp rs t1 t2 t3 v1 v2 v3 F Z R m) (k : w.grownBy w' (some g)) (hc : Cur W w' g) : PS w0 W w' g bp rs t1 t2 t3 v1 v2 v3 F Z R m :=
  h.turn k hc (fun b hb => by cases hb; exact .inl rfl) (fun e => tri_ne_cur h.tri h.cur (by cases e; rfl)) (fun e => tri_ne_cur h.res h.cur (by cases e; rfl)) (.inr (cur_ne_own h.cur h.o1 (by decide))) (.inr (cur_ne_own h.cur h.o2 (by decide))) (.inr (cur_ne_own h.cur h.o3 (by decide)))
    (fun x hx => by
      obtain ⟨xs, _, ho, _⟩ := h.ro x hx
      exact .inr (cur_ne_own h.cur ho (by decide)))
theorem PS.alloc (h : PS w0 W w g bp rs t1 t2 t3 v1 v2 v3 F Z R m) (o : Obj) : PS w0 W (w.alloc o) g bp rs t1 t2 t3 v1 v2 v3 F Z R m :=
  h.grown (grown_alloc _ _ _) (h.cur.alloc o)
theorem PS.drewN (h : PS w0 W w g bp rs t1 t2 t3 v1 v2 v3 F Z R m) (n : Nat) : PS w0 W (w.drewN n) g bp rs t1 t2 t3 v1 v2 v3 F Z R m :=
  h.grown (grown_drewN _ _ _) (h.cur.drewN n)
theorem PS.cg (h : PS w0 W w g bp rs t1 t2 t3 v1 v2 v3 F Z R m) (k : CG w W w' g) : PS w0 W w' g bp rs t1 t2 t3 v1 v2 v3 F Z R m := h.grown k.2 k.1
theorem PS.app1 {v1' : Value} {x : Nat} (h : PS w0 W w g bp rs t1 t2 t3 v1 v2 v3 F Z R m) (k : w.grownBy w' v1.ownBlock) (ho : w'.ownsRow w0.heap.size 36 1 v1' (F.length + 1) (fcells F ++ [.float .f32 x])) (hat : v1'.ownBlock = v1.ownBlock ∨ v1'.ownBlock = some w.heap.size) :
    PS w0 W w' g bp rs t1 t2 t3 v1' v2 v3 (F ++ [x]) Z R m where
  cur := h.cur.keptO k (cur_ne_own h.cur h.o1 (by decide)) (fun b hb => Nat.le_trans h.wb (h.o1.lt b hb).1)
  wb := h.wb
  gr := grown_up h.gr k (fun b hb => (h.o1.lt b hb).1)
  tri := (k.block bp (lt_of_block h.tri) (Ne.symm (tri_ne_own h.tri h.o1 (by decide)))).trans h.tri
  bge := h.bge
  res := (k.block rs (lt_of_block h.res) (Ne.symm (tri_ne_own h.res h.o1 (by decide)))).trans h.res
  rge := h.rge
  rne := h.rne
  o1 := by
    rw [List.length_append, show fcells (F ++ [x]) = fcells F ++ [.float .f32 x] by simp [fcells]]
    exact ho
  o2 := h.o2.kept k (own_ne h.o2 h.o1 (by decide))
  o3 := h.o3.kept k (own_ne h.o3 h.o1 (by decide))
  ro := fun r hr => by
    obtain ⟨xs, hl, hx, hn⟩ := h.ro r hr
    refine ⟨xs, hl, hx.kept k hn, ?_⟩
    rcases hn with hn | hn
    · exact .inl hn
    · rcases hat with e | e
      · rw [e]; exact .inr hn
      · cases hb : r.ownBlock with
        | none => exact .inl rfl
        | some b =>
          right
          rw [e]
          have := (hx.lt b hb).2
          intro e2
          cases e2
          omega
theorem PS.app2 {v2' : Value} {x : Int} (h : PS w0 W w g bp rs t1 t2 t3 v1 v2 v3 F Z R m) (k : w.grownBy w' v2.ownBlock) (ho : w'.ownsRow w0.heap.size 3 1 v2' (Z.length + 1) (icells Z ++ [.int .i64 x])) :
    PS w0 W w' g bp rs t1 t2 t3 v1 v2' v3 F (Z ++ [x]) R m where
  cur := h.cur.keptO k (cur_ne_own h.cur h.o2 (by decide)) (fun b hb => Nat.le_trans h.wb (h.o2.lt b hb).1)
  wb := h.wb
  gr := grown_up h.gr k (fun b hb => (h.o2.lt b hb).1)
  tri := (k.block bp (lt_of_block h.tri) (Ne.symm (tri_ne_own h.tri h.o2 (by decide)))).trans h.tri
  bge := h.bge
  res := (k.block rs (lt_of_block h.res) (Ne.symm (tri_ne_own h.res h.o2 (by decide)))).trans h.res
  rge := h.rge
  rne := h.rne
  o1 := h.o1.kept k (own_ne h.o1 h.o2 (by decide))
  o2 := by
    rw [List.length_append, show icells (Z ++ [x]) = icells Z ++ [.int .i64 x] by simp [icells]]
    exact ho
  o3 := h.o3.kept k (own_ne h.o3 h.o2 (by decide))
  ro := fun r hr => by
    obtain ⟨xs, hl, hx, hn⟩ := h.ro r hr
    exact ⟨xs, hl, hx.kept k (own_ne hx h.o2 (by decide)), hn⟩
theorem PS.app3 {v3' x : Value} (h : PS w0 W w g bp rs t1 t2 t3 v1 v2 v3 F Z R m) (hx : RowO w0 w v1 m x) (k : w.grownBy w' v3.ownBlock) (ho : w'.ownsRow w0.heap.size 22 1 v3' (R.length + 1) (R ++ [x])) :
    PS w0 W w' g bp rs t1 t2 t3 v1 v2 v3' F Z (R ++ [x]) m where
  cur := h.cur.keptO k (cur_ne_own h.cur h.o3 (by decide)) (fun b hb => Nat.le_trans h.wb (h.o3.lt b hb).1)
  wb := h.wb
  gr := grown_up h.gr k (fun b hb => (h.o3.lt b hb).1)
  tri := (k.block bp (lt_of_block h.tri) (Ne.symm (tri_ne_own h.tri h.o3 (by decide)))).trans h.tri
  bge := h.bge
  res := (k.block rs (lt_of_block h.res) (Ne.symm (tri_ne_own h.res h.o3 (by decide)))).trans h.res
  rge := h.rge
  rne := h.rne
  o1 := h.o1.kept k (own_ne h.o1 h.o3 (by decide))
  o2 := h.o2.kept k (own_ne h.o2 h.o3 (by decide))
  o3 := by
    rw [List.length_append]
    exact ho
  ro := fun r hr => by
    have all : RowO w0 w v1 m r := by
      rcases List.mem_append.1 hr with h1 | h1
      · exact h.ro r h1
      · rw [List.mem_singleton] at h1; subst h1; exact hx
    obtain ⟨xs, hl, ho, hn⟩ := all
    exact ⟨xs, hl, ho.kept k (own_ne ho h.o3 (by decide)), hn⟩
theorem grown_bp (w : World) (bp i : Nat) (u : Value) : w.grownBy (w.setCell ⟨bp, i, none⟩ u) (some bp) := grown_set w bp i u
theorem PS.setAll (h : PS w0 W w g bp rs t1 t2 t3 v1 v2 v3 F Z R m) {i : Nat} {u s1 s2 s3 : Value} (ht : Tri (w.setCell ⟨bp, i, none⟩ u) bp s1 s2 s3) : PS w0 W (w.setCell ⟨bp, i, none⟩ u) g bp rs s1 s2 s3 v1 v2 v3 F Z R m where
  cur := h.cur.keptO (grown_bp w bp i u) (fun e => tri_ne_cur h.tri h.cur (by cases e; rfl)) (fun b hb => by cases hb; exact Nat.le_trans h.wb h.bge)
  wb := h.wb
  gr := grown_up h.gr (grown_bp w bp i u) (fun b hb => by cases hb; exact h.bge)
  tri := ht
  bge := h.bge
  res := ((grown_bp w bp i u).block rs (lt_of_block h.res) (fun e => h.rne (by cases e; rfl))).trans h.res
  rge := h.rge
  rne := h.rne
  o1 := h.o1.kept (grown_bp w bp i u) (.inr (tri_ne_own h.tri h.o1 (by decide)))
  o2 := h.o2.kept (grown_bp w bp i u) (.inr (tri_ne_own h.tri h.o2 (by decide)))
  o3 := h.o3.kept (grown_bp w bp i u) (.inr (tri_ne_own h.tri h.o3 (by decide)))
  ro := fun r hr => by
    obtain ⟨xs, hl, hx, hn⟩ := h.ro r hr
    exact ⟨xs, hl, hx.kept (grown_bp w bp i u) (.inr (tri_ne_own h.tri hx (by decide))), hn⟩
theorem PS.set0 (h : PS w0 W w g bp rs t1 t2 t3 v1 v2 v3 F Z R m) (u : Value) : PS w0 W (w.setCell ⟨bp, 0, none⟩ u) g bp rs u t2 t3 v1 v2 v3 F Z R m := h.setAll h.tri.set0
theorem PS.set1 (h : PS w0 W w g bp rs t1 t2 t3 v1 v2 v3 F Z R m) (u : Value) : PS w0 W (w.setCell ⟨bp, 1, none⟩ u) g bp rs t1 u t3 v1 v2 v3 F Z R m := h.setAll h.tri.set1
theorem PS.set2 (h : PS w0 W w g bp rs t1 t2 t3 v1 v2 v3 F Z R m) (u : Value) : PS w0 W (w.setCell ⟨bp, 2, none⟩ u) g bp rs t1 t2 u v1 v2 v3 F Z R m := h.setAll h.tri.set2
end
theorem own_shape {w : World} {base : Nat} {e : TypeId} {v : Value} {n : Nat} {xs : List Value} (h : w.ownsRow base e 1 v n xs) : ∃ A c, v = .slice A n c := by
  rcases h.2 with ⟨rfl, rfl⟩ | ⟨g, cap, cur, rfl, _⟩
  · exact ⟨_, _, rfl⟩
  · exact ⟨_, _, rfl⟩
end Go.Proofs.Ytgjfpclpnobggaa
