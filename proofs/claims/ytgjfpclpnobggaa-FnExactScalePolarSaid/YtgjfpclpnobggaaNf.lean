/- Marks: rows and polars. -/
import Derived.Test.YtgjfpclpnobggaaNe
namespace Go.Proofs.Ytgjfpclpnobggaa
open Go.Shelf Go.RowKit

/-- what marking leaves as it was -/
structure Mk (B hi : Nat) (w w' : World) : Prop where
  bel : Below B w w'
  tri : ∀ g x y z, Tri w g x y z → Tri w' g x y z
  up : ∀ b, hi ≤ b → b < w.heap.size → w'.heap[b]? = w.heap[b]?
theorem Mk.refl (B hi : Nat) (w : World) : Mk B hi w w := ⟨Below.refl _ _, fun _ _ _ _ h => h, fun _ _ _ => rfl⟩
theorem Mk.trans {B hi : Nat} {a b c : World} (h : Mk B hi a b) (k : Mk B hi b c) : Mk B hi a c :=
  ⟨h.bel.trans k.bel, fun g x y z t => k.tri g x y z (h.tri g x y z t), fun q h1 h2 => (k.up q h1 (Nat.lt_of_lt_of_le h2 h.bel.size)).trans (h.up q h1 h2)⟩
theorem Mk.of_below {B hi : Nat} {w w' : World} (h : Below w.heap.size w w') (hB : B ≤ w.heap.size) : Mk B hi w w' :=
  ⟨h.mono hB, fun _ _ _ _ t => t.keep h, fun b _ hb => h.block b hb⟩
theorem Mk.own {B hi n : Nat} {w w' : World} {e : TypeId} {v : Value} {xs : List Value} (k : w.grownBy w' v.ownBlock) (ho : w.ownsRow B e 1 v n xs) (he : e ≠ 29) (hlt : ∀ b, v.ownBlock = some b → b < hi) (hB : B ≤ w.heap.size) : Mk B hi w w' :=
  ⟨(Below.refl B w).grown k hB (fun b hb => (ho.lt b hb).1), fun g x y z t => tri_over k ho he t, fun b h1 h2 => k.block b h2 (fun e => by have := hlt b e.symm; omega)⟩
/-- where a polar's parts lie -/
def MPlt (hi : Nat) (v1 v2 : Value) (R : List Value) : Prop := (∀ b, v1.ownBlock = some b → b < hi) ∧ (∀ b, v2.ownBlock = some b → b < hi) ∧ ∀ r ∈ R, ∀ b, r.ownBlock = some b → b < hi
theorem MP.lt {B : Nat} {w : World} {v1 v2 v3 : Value} {F : List Nat} {Z : List Int} {R : List Value} {S : List (List Nat)} (h : MP B w v1 v2 v3 F Z R S) : MPlt w.heap.size v1 v2 R :=
  ⟨fun b hb => (h.o1.lt b hb).2, fun b hb => (h.o2.lt b hb).2, fun r hr b hb => by
    obtain ⟨s, hs⟩ := h.row hr
    exact (hs.lt b hb).2⟩
theorem own_same {w w' : World} {B n : Nat} {e : TypeId} {v : Value} {xs : List Value} (h : w.ownsRow B e 1 v n xs) (hs : ∀ b, B ≤ b → b < w.heap.size → w'.heap[b]? = w.heap[b]?) : w'.ownsRow B e 1 v n xs := by
  refine ⟨h.1, ?_⟩
  rcases h.2 with hn | ⟨g, cap, cur, hv, hb, hg, rest⟩
  · exact .inl hn
  · exact .inr ⟨g, cap, cur, hv, hb, (hs g hb (lt_of_block hg)).trans hg, rest⟩
theorem MP.same {B : Nat} {w w' : World} {v1 v2 v3 : Value} {F : List Nat} {Z : List Int} {R : List Value} {S : List (List Nat)} (h : MP B w v1 v2 v3 F Z R S) (hs : ∀ b, B ≤ b → b < w.heap.size → w'.heap[b]? = w.heap[b]?) : MP B w' v1 v2 v3 F Z R S :=
  ⟨own_same h.o1 hs, own_same h.o2 hs, own_same h.o3 hs, h.rl, fun j r s hr hq => own_same (h.ro j r s hr hq) hs, h.a1, h.ar⟩
section
variable {B : Nat} {w w' : World} {v1 v2 v3 : Value} {F F' : List Nat} {Z Z' : List Int} {R : List Value} {S : List (List Nat)}
theorem MP.winds (h : MP B w v1 v2 v3 F Z R S) (k : w.grownBy w' v1.ownBlock) (ho : w'.ownsRow B 36 1 v1 F'.length (fcells F')) : MP B w' v1 v2 v3 F' Z R S :=
  ⟨ho, h.o2.kept k (own_ne h.o2 h.o1 (by decide)), h.o3.kept k (own_ne h.o3 h.o1 (by decide)), h.rl, fun j r s hr hq => (h.ro j r s hr hq).kept k (h.a1 r (List.mem_of_getElem? hr)), h.a1, h.ar⟩
theorem MP.angles (h : MP B w v1 v2 v3 F Z R S) (k : w.grownBy w' v2.ownBlock) (ho : w'.ownsRow B 3 1 v2 Z'.length (icells Z')) : MP B w' v1 v2 v3 F Z' R S :=
  ⟨h.o1.kept k (own_ne h.o1 h.o2 (by decide)), ho, h.o3.kept k (own_ne h.o3 h.o2 (by decide)), h.rl, fun j r s hr hq => (h.ro j r s hr hq).kept k (own_ne (h.ro j r s hr hq) h.o2 (by decide)), h.a1, h.ar⟩
theorem MP.rowturn {i : Nat} {r : Value} {s s' : List Nat} (h : MP B w v1 v2 v3 F Z R S) (hr : R[i]? = some r) (hs : S[i]? = some s) (k : w.grownBy w' r.ownBlock) (ho : w'.ownsRow B 36 1 r s'.length (fcells s')) : MP B w' v1 v2 v3 F Z R (S.set i s') := by
  have h0 := h.ro i r s hr hs
  have hmem := List.mem_of_getElem? hr
  have hn1 : v1.ownBlock = none ∨ v1.ownBlock ≠ r.ownBlock := by
    rcases h.a1 r hmem with hn | hn
    · rw [hn]; cases v1.ownBlock <;> simp
    · exact .inr (Ne.symm hn)
  refine ⟨h.o1.kept k hn1, h.o2.kept k (own_ne h.o2 h0 (by decide)), h.o3.kept k (own_ne h.o3 h0 (by decide)), by rw [List.length_set]; exact h.rl, fun j r' q hr' hs' => ?_, h.a1, h.ar⟩
  by_cases e : i = j
  · subst e
    rw [hr] at hr'
    obtain rfl := Option.some.inj hr'
    rw [List.getElem?_set_self (List.getElem?_eq_some_iff.1 hs).1] at hs'
    obtain rfl := Option.some.inj hs'
    exact ho
  · rw [List.getElem?_set_ne e] at hs'
    exact (h.ro j r' q hr' hs').kept k (h.ar j i r' r hr' hr (Ne.symm e))
end
theorem markS_set (k : Int) (S : List (List Nat)) (i : Nat) (h : i < S.length) : (mkS k (S.take i) ++ S.drop i).set i (mkF (k + (tot (S.take i) : Nat)) S[i].length) = mkS k (S.take (i + 1)) ++ S.drop (i + 1) := by
  rw [List.take_succ_eq_append_getElem h, mkS_app]
  exact set_mid _ _ _ _ (by rw [mkS_len, List.length_take]; omega) h
theorem mid_get {k : Int} {S : List (List Nat)} {i : Nat} (h : i < S.length) : (mkS k (S.take i) ++ S.drop i)[i]? = some S[i] := by
  have hl : (mkS k (S.take i)).length = i := by rw [mkS_len, List.length_take]; omega
  rw [List.getElem?_append_right (by omega), hl, Nat.sub_self, List.drop_eq_getElem_cons h]
  rfl

set_option maxHeartbeats 1000000 in
set_option maxRecDepth 100000 in
theorem markGC {w : World} {B hi : Nat} {v1 v2 v3 : Value} {F : List Nat} {Z : List Int} {R : List Value} {S : List (List Nat)} (k : Int) (hk0 : 0 ≤ k) (hk : k ≤ 4194304) (hB : B ≤ w.heap.size) (hlt : MPlt hi v1 v2 R) (hn : S.length ≤ 1048576) (hn2 : ∀ s ∈ S, s.length ≤ 1048576) (h : MP B w v1 v2 v3 F Z R S) :
    Calls Try.prog 57 #[v3, .int .i64 k] w fun e w' => e = .returned (.int .i64 (k + (tot S : Nat))) ∧ MP B w' v1 v2 v3 F Z R (mkS k S) ∧ Mk B hi w w' := by
  have htot := tot_le hn2
  have htake := tot_take_le S
  have HT := hid htake
  obtain ⟨A3, c3, e3⟩ := own_shape h.o3
  subst e3
  have HM := hid h
  have HL := hid hlt
  have HN := hid hn2
  have HRl := hid h.rl
  have hRS : R.length ≤ 1048576 := by have := h.rl; omega
  have htb : tot S ≤ 1099511627776 := by
    have : S.length * 1048576 ≤ 1048576 * 1048576 := Nat.mul_le_mul_right _ hn
    omega
  clear h hlt hn2 htake htot
  go_enter Try.func57, Try.ntmps57
  go_wp2
  go_loopw [1, 5] (fun kv iv wr => ∃ i : Nat, iv = .int .i64 i ∧ kv = .int .i64 (k + (tot (S.take i) : Nat)) ∧ i ≤ R.length ∧ Hid (MP B wr v1 v2 (.slice A3 R.length c3) F Z R (mkS k (S.take i) ++ S.drop i)) ∧ Hid (Mk B hi w wr)) (fun _ iv _ => 1048577 - (intOf iv).toNat)
  case atStart => exact ⟨0, rfl, by simp [tot], by omega, hid (by simpa [mkS] using HM.out), Mk.refl _ _ _⟩
  case round =>
    obtain ⟨i, rfl, rfl, hi, HW, HK⟩ := hrel
    have ht := HT.out i
    by_cases hlt : i < R.length
    · have hiS : i < S.length := by have := HRl.out; omega
      obtain ⟨ad, rfl, hc⟩ := own_cells HW.out.o3 i hlt
      have HR := hid (show R[i]? = some R[i] from List.getElem?_eq_getElem hlt)
      have HSi := hid (mid_get (k := k) hiS)
      have ho := HW.out.ro i _ _ HR.out HSi.out
      have hsl := HN.out S[i] (List.getElem_mem hiS)
      have HO := hid ho
      have HE := hid (markS_set k S i hiS)
      have HTa := hid (show tot (S.take (i + 1)) = tot (S.take i) + S[i].length by rw [List.take_succ_eq_append_getElem hiS, tot_app])
      have hrl := HL.out.2.2 R[i] (List.getElem_mem hlt)
      have HRL := hid hrl
      have HBw := hid (Nat.le_trans hB HK.out.bel.size)
      obtain ⟨r, hr⟩ : ∃ r, R[i] = r := ⟨_, rfl⟩
      rw [hr] at hc HR HO HRL
      obtain ⟨s, hs⟩ : ∃ s, S[i] = s := ⟨_, rfl⟩
      rw [hs] at HSi HO HE HTa hsl
      obtain ⟨t, htt⟩ : ∃ t, tot (S.take i) = t := ⟨_, rfl⟩
      rw [htt] at HE HTa ht ⊢
      obtain ⟨Ar, cr, rfl⟩ := own_shape HO.out
      clear ho hrl hr hs htt
      go_wp2_with fail
      refine (markFC (k + (t : Int)) (by omega) (by omega) hsl HO.out).mono ?_
      rintro e w1 ⟨rfl, ho1, hg1⟩
      have HM1 := hid (HW.out.rowturn (s' := mkF (k + (t : Int)) s.length) HR.out HSi.out hg1 (by rw [mkF_len]; exact ho1))
      have HK1 := hid (HK.out.trans (Mk.own hg1 HO.out (by decide) HRL.out HBw.out))
      clear ho1 hg1
      go_wp2
      go_roundw
      case rel => exact ⟨i + 1, by go_num, by rw [HTa.out]; go_num, by omega, hid (by rw [← HE.out]; exact HM1.out), HK1.out⟩
      case measure => (simp [intOf]; try omega)
    · obtain rfl : i = R.length := by omega
      have hSR := HRl.out
      have HF := hid (show S.take R.length = S ∧ S.drop R.length = [] from ⟨List.take_of_length_le (by omega), List.drop_eq_nil_of_le (by omega)⟩)
      clear hSR
      have HTq := hid (show tot (S.take R.length) = tot S by rw [HF.out.1])
      go_wp2
      go_ret
      refine ⟨?_, ?_, HK.out⟩
      · rw [HTq.out]; rfl
      · have := HW.out
        rw [HF.out.1, HF.out.2, List.append_nil] at this
        exact this

set_option maxHeartbeats 1000000 in
set_option maxRecDepth 100000 in
theorem heldGC {w : World} {v : Value} {S : List (List Nat)} (k : Int) (hk0 : 0 ≤ k) (hk : k ≤ 4194304) (hn : S.length ≤ 1048576) (hn2 : ∀ s ∈ S, s.length ≤ 1048576) (h : RdG w v (mkS k S)) :
    Calls Try.prog 60 #[v, .int .i64 k] w fun e w' => e = .returned (.int .i64 (k + (tot S : Nat))) ∧ w = w' := by
  have htot := tot_le hn2
  have htake := tot_take_le S
  have HT := hid htake
  obtain ⟨_, A, c, rfl, hc⟩ := h
  rw [mkS_len] at *
  have HC := hid hc
  have HN := hid hn2
  have htb : tot S ≤ 1099511627776 := by
    have : S.length * 1048576 ≤ 1048576 * 1048576 := Nat.mul_le_mul_right _ hn
    omega
  clear hc hn2 htake htot
  go_enter Try.func60, Try.ntmps60
  go_wp2
  go_loopw [1, 5] (fun kv iv wr => ∃ i : Nat, iv = .int .i64 i ∧ kv = .int .i64 (k + (tot (S.take i) : Nat)) ∧ i ≤ S.length ∧ w = wr) (fun _ iv _ => 1048577 - (intOf iv).toNat)
  case atStart => exact ⟨0, rfl, by simp [tot], by omega, rfl⟩
  case round =>
    obtain ⟨i, rfl, rfl, hi, rfl⟩ := hrel
    have ht := HT.out i
    by_cases hlt : i < S.length
    · obtain ⟨ad, u, rfl, hcu, hru⟩ := HC.out i (by rw [mkS_len]; exact hlt)
      have e1 : (mkS k S)[i]'(by rw [mkS_len]; exact hlt) = mkF (k + (tot (S.take i) : Nat)) S[i].length := by
        have h1 := @mid_get k S i hlt
        have e2 : mkS k S = mkS k (S.take (i + 1)) ++ (mkS k S).drop (i + 1) := by
          have key : ∀ (A B : List (List Nat)) (k : Int), mkS k (A ++ B) = mkS k A ++ mkS (k + (tot A : Nat)) B := by
            intro A
            induction A with
            | nil => intro B k; simp [mkS, tot]
            | cons a A ih =>
              intro B k
              simp only [List.cons_append, mkS, ih, tot]
              rw [show k + (a.length : Int) + (tot A : Nat) = k + ((a.length + tot A : Nat) : Int) by push_cast; omega]
          have h2 := key (S.take (i + 1)) (S.drop (i + 1)) k
          rw [List.take_append_drop] at h2
          rw [h2, List.drop_append]
          simp [mkS_len, List.length_take, show min (i + 1) S.length = i + 1 by omega]
        rw [List.take_succ_eq_append_getElem hlt, mkS_app] at e2
        have hl : (mkS k (S.take i)).length = i := by rw [mkS_len, List.length_take]; omega
        have h3 : (mkS k S)[i]? = some (mkF (k + (tot (S.take i) : Nat)) S[i].length) := by
          rw [e2, List.append_assoc, List.getElem?_append_right (by omega), hl, Nat.sub_self]; rfl
        rw [List.getElem?_eq_getElem (by rw [mkS_len]; exact hlt)] at h3
        exact Option.some.inj h3
      rw [e1] at hru
      have HR := hid hru
      have hsl := HN.out S[i] (List.getElem_mem hlt)
      have HTa := hid (show tot (S.take (i + 1)) = tot (S.take i) + S[i].length by rw [List.take_succ_eq_append_getElem hlt, tot_app])
      obtain ⟨_, Au, cu, rfl, _⟩ := hru
      rw [mkF_len] at hcu HR
      obtain ⟨s, hs⟩ : ∃ s, S[i] = s := ⟨_, rfl⟩
      rw [hs] at hcu HR HTa hsl
      obtain ⟨t, htt⟩ : ∃ t, tot (S.take i) = t := ⟨_, rfl⟩
      rw [htt] at HR HTa ht ⊢
      clear e1 hs htt
      have hkt : 0 ≤ k + (t : Int) := by omega
      have hneg : decide (k + (t : Int) + (s.length : Int) < 0) = false := decide_eq_false (by omega)
      go_wp2_with fail
      refine (heldFC (k + (t : Int)) (by omega) (by omega) hsl HR.out).mono ?_
      rintro e w1 ⟨rfl, rfl⟩
      go_wp2
      go_roundw
      case rel => exact ⟨i + 1, by go_num, by rw [HTa.out]; go_num, by omega, trivial⟩
      case measure => (simp [intOf]; try omega)
    · obtain rfl : i = S.length := by omega
      have HTq := hid (show tot (S.take S.length) = tot S by rw [List.take_length])
      go_wp2
      go_ret
      refine ⟨?_, rfl⟩
      rw [HTq.out]; rfl

set_option maxHeartbeats 1000000 in
set_option maxRecDepth 100000 in
theorem markPC {w : World} {B hi : Nat} {v1 v2 v3 : Value} {F : List Nat} {Z : List Int} {R : List Value} {S : List (List Nat)} (hB : B ≤ w.heap.size) (hlt : MPlt hi v1 v2 R) (hS : Small F Z S) (h : MP B w v1 v2 v3 F Z R S) :
    Calls Try.prog 24 #[.agg #[v1, v2, v3], .int .i64 1] w fun e w' => e = .returned (.int .i64 (1 + (F.length : Int) + Z.length + (tot S : Nat))) ∧ MP B w' v1 v2 v3 (mkF 1 F.length) (mkI (1 + (F.length : Int)) Z.length) R (mkS (1 + (F.length : Int) + Z.length) S) ∧ Mk B hi w w' := by
  obtain ⟨s1, s2, s3, s4⟩ := hS
  have HN := hid s4
  have HL := hid hlt
  obtain ⟨A1, c1, e1⟩ := own_shape h.o1
  obtain ⟨A2, c2, e2⟩ := own_shape h.o2
  obtain ⟨A3, c3, e3⟩ := own_shape h.o3
  subst e1; subst e2; subst e3
  have hb0 := (Below.refl w.heap.size w).alloc (Nat.le_refl _) (.cells #[.slice A1 F.length c1, .slice A2 Z.length c2, .slice A3 R.length c3] 29)
  have hT : Tri _ _ _ _ _ := heap_alloc_new w (.cells #[.slice A1 F.length c1, .slice A2 Z.length c2, .slice A3 R.length c3] 29)
  have HM := hid (h.below hb0)
  have HT := hid hT
  have HK := hid (Mk.of_below (hi := hi) hb0 hB)
  clear h hlt s4 hb0 hT
  obtain ⟨⟨x1, x2, x3⟩, _⟩ := HT.out.facts
  go_enter Try.func24, Try.ntmps24
  go_wp2_with fail
  generalize w.alloc (.cells #[.slice A1 F.length c1, .slice A2 Z.length c2, .slice A3 R.length c3] 29) = w0 at HM HT HK x1 x2 x3 ⊢
  generalize w.heap.size = g at HT x1 x2 x3 ⊢
  refine (markFC 1 (by omega) (by omega) s1 HM.out.o1).mono ?_
  rintro e w1 ⟨rfl, ho1, hg1⟩
  have HM1 := hid (HM.out.winds (F' := mkF 1 F.length) hg1 (by rw [mkF_len]; exact ho1))
  have hk1 := Mk.own (hi := hi) hg1 HM.out.o1 (by decide) HL.out.1 (Nat.le_trans hB HK.out.bel.size)
  have HT1 := hid (hk1.tri _ _ _ _ HT.out)
  have HK1 := hid (HK.out.trans hk1)
  clear ho1 hg1 hk1 x1 x2 x3 HM HT HK
  obtain ⟨⟨x1, x2, x3⟩, _⟩ := HT1.out.facts
  go_wp2_with fail
  refine (markIC (1 + (F.length : Int)) (by omega) (by omega) s2 HM1.out.o2).mono ?_
  rintro e w2 ⟨rfl, ho2, hg2⟩
  have HM2 := hid (HM1.out.angles (Z' := mkI (1 + (F.length : Int)) Z.length) hg2 (by rw [mkI_len]; exact ho2))
  have hk2 := Mk.own (hi := hi) hg2 HM1.out.o2 (by decide) HL.out.2.1 (Nat.le_trans hB HK1.out.bel.size)
  have HT2 := hid (hk2.tri _ _ _ _ HT1.out)
  have HK2 := hid (HK1.out.trans hk2)
  clear ho2 hg2 hk2 x1 x2 x3 HM1 HT1 HK1
  obtain ⟨⟨x1, x2, x3⟩, _⟩ := HT2.out.facts
  go_wp2_with fail
  refine (markGC (hi := hi) (1 + (F.length : Int) + Z.length) (by omega) (by omega) (Nat.le_trans hB HK2.out.bel.size) HL.out s3 HN.out HM2.out).mono ?_
  rintro e w3 ⟨rfl, hm3, hk3⟩
  have HM3 := hid hm3
  have HK3 := hid (HK2.out.trans hk3)
  clear hm3 hk3
  go_wp2
  go_ret
  exact ⟨rfl, HM3.out, HK3.out⟩

set_option maxHeartbeats 1000000 in
set_option maxRecDepth 100000 in
theorem heldPC {w : World} {v : Value} {n1 n2 : Nat} {S : List (List Nat)} (s1 : n1 ≤ 1048576) (s2 : n2 ≤ 1048576) (s3 : S.length ≤ 1048576) (s4 : ∀ s ∈ S, s.length ≤ 1048576) (h : RdP w v (mkF 1 n1) (mkI (1 + (n1 : Int)) n2) (mkS (1 + (n1 : Int) + n2) S)) :
    Calls Try.prog 25 #[v, .int .i64 1] w fun e w' => e = .returned (.int .i64 (1 + (n1 : Int) + n2 + (tot S : Nat))) ∧ Below w.heap.size w w' := by
  obtain ⟨a, b, c, rfl, h1, h2, h3⟩ := h
  have hb0 := (Below.refl w.heap.size w).alloc (Nat.le_refl _) (.cells #[a, b, c] 29)
  have hT : Tri _ _ _ _ _ := heap_alloc_new w (.cells #[a, b, c] 29)
  have H1 := hid (h1.below hb0)
  have H2 := hid (h2.below hb0)
  have H3 := hid (h3.below hb0)
  have HT := hid hT
  have HB := hid hb0
  have HN := hid s4
  clear h1 h2 h3 hb0 hT s4
  obtain ⟨⟨x1, x2, x3⟩, _⟩ := HT.out.facts
  have n0 : decide (1 + (n1 : Int) < 0) = false := decide_eq_false (by omega)
  have n0' : decide (1 + (n1 : Int) + (n2 : Int) < 0) = false := decide_eq_false (by omega)
  have n0'' : decide (1 + (n1 : Int) + (n2 : Int) + (tot S : Nat) < 0) = false := decide_eq_false (by omega)
  go_enter Try.func25, Try.ntmps25
  go_wp2_with fail
  refine (heldFC 1 (by omega) (by omega) s1 H1.out).mono ?_
  rintro e w1 ⟨rfl, rfl⟩
  go_wp2_with fail
  refine (heldIC (1 + (n1 : Int)) (by omega) (by omega) s2 H2.out).mono ?_
  rintro e w1 ⟨rfl, rfl⟩
  go_wp2_with fail
  refine (heldGC (1 + (n1 : Int) + n2) (by omega) (by omega) s3 HN.out H3.out).mono ?_
  rintro e w1 ⟨rfl, rfl⟩
  go_wp2
  go_ret
  exact ⟨rfl, HB.out⟩
end Go.Proofs.Ytgjfpclpnobggaa
