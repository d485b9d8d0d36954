/- The draw of a polar with a factor. -/
import Derived.Test.YtgjfpclpnobggaaKg
import Derived.Test.YtgjfpclpnobggaaMb
namespace Go.Proofs.Ytgjfpclpnobggaa
open Go.Shelf Go.RowKit

theorem part_e {W w : World} {g : Nat} (h : Cur W w g) : Calls Try.prog 51 #[.pointer (some ⟨g, 0, none⟩)] w fun e w' => ∃ v, e = .returned v ∧ ((∃ r, v = .float .f32 r) ∧ CG w W w' g) :=
  (part_g (CG.start h)).mono fun _ _ ⟨r, he, _, hc⟩ => ⟨_, he, ⟨r, rfl⟩, hc⟩
theorem PF.drewD {w0 W w : World} {g bp rs : Nat} {a b c : Value} (h : PF w0 W w g bp rs a b c) : PF w0 W w.drew g bp rs a b c := h.drew
theorem PG.drew {w0 W w : World} {g rs : Nat} {a b c : Value} (h : PG w0 W w g rs a b c) : PG w0 W w.drew g rs a b c :=
  ⟨h.cur.drewN 1, h.wb, grown_trans h.gr (grown_drewN _ 1 _), h.res, h.rge, h.dep.alike (fun _ _ _ => rfl)⟩

set_option maxHeartbeats 4000000 in
set_option maxRecDepth 100000 in
theorem dScale {W w : World} {A : Option Addr} {n : Nat} (c : Nat) (hr : RdB W A n) (hB : Below W.heap.size W w) :
    Calls Try.prog 20 #[.slice A n c] w fun e w' => ∃ v k, e = .returned (.tuple #[v, .float .f32 k]) ∧ Drawn W w' v := by
  have HB := hid hB
  have HB1 := hid (hB.alloc hB.size (.cells #[.slice none 0 0, .slice none 0 0, .slice none 0 0] 29))
  have HR := hid hr
  clear hr hB
  have hent1 : ∀ args w, (callFunc 50 args).run Try.prog w = .ok (.enter 50 args) w := enters_of Try.func50 (by kernel_rfl) rfl
  have hent2 : ∀ args w, (callFunc 51 args).run Try.prog w = .ok (.enter 51 args) w := enters_of Try.func51 (by kernel_rfl) rfl
  go_enter Try.func20, Try.ntmps20
  go_wp2_with fail
  refine (new_any W _ _ _ _ HR.out HB1.out).mono ?_
  rintro e w2 ⟨g, rfl, hC2, hb2⟩
  have HC2 := hid hC2
  have HB2 := hid hb2
  clear hC2 hb2
  go_wp2_with fail
  refine (any_g HC2.out).mono ?_
  rintro e w3 ⟨a, b, c', rfl, hd, hC3, hg3⟩
  have hD := draw_start HB.out HC2.out HB2.out hd hC3 hg3
  obtain ⟨⟨D1, n1, m1, rfl⟩, ⟨D2, n2, m2, rfl⟩, D3, n3, m3, rfl⟩ := hD.dep.shape
  have HF := hid hD.pf
  clear hD hd hC3 hg3 HC2 HB2 HB HB1
  go_wp2_with fail
  generalize w3.alloc (.cells #[.slice D1 n1 m1, .slice D2 n2 m2, .slice D3 n3 m3] 29) = w4 at HF ⊢
  generalize w3.heap.size = bp at HF ⊢
  generalize w.heap.size = rs at HF ⊢
  refine (below_any W _ g _ (by omega) HF.out.cur).mono ?_
  rintro e w5 ⟨t, rfl, ⟨t0, t1⟩, hC5, hG5⟩
  have HF5 := hid (HF.out.cg ⟨hC5, hG5⟩)
  replace t1 := t1 (by omega)
  clear hC5 hG5 HF
  obtain ⟨⟨x1, x2, x3⟩, _⟩ := HF5.out.tri.facts
  obtain ⟨⟨p1, p2, p3⟩, q1, q2, q3⟩ := HF5.out.res.facts
  have hsw : t = 0 ∨ t = 1 ∨ 1 < t := by omega
  rcases hsw with rfl | rfl | hsw
  · have HG := hid HF5.out.stored
    go_wp2
    obtain ⟨⟨e1, e2, e3⟩, _⟩ := HG.out.res.facts
    (try simp only [Exit.inBlock, Exit.then])
    refine bodyPost_ret_by (v := .tuple #[.agg #[.slice D1 n1 m1, .slice D2 n2 m2, .slice D3 n3 m3], .float .f32 1065353216]) ?_ rfl ?_
    · simp [go_sem, results, loadVar, e1, e2, e3]
      done
    exact ⟨_, _, rfl, HG.out.drawn⟩
  · go_wp2_with fail
    go_region_law (refine step_callE2 rfl 50 (.tmp 18) (.const (.int .i64 20)) 63 3 rfl hent1 _ _ rfl rfl _ (single_e 20 (by omega) (HF5.out.cur.drewN 1)) ?_; intro v7 w7 hv7; obtain ⟨⟨r7, hv7⟩, hc7⟩ := hv7; subst hv7; have HF7 := hid (HF5.out.drew.cg hc7); obtain ⟨⟨z1, z2, z3⟩, _⟩ := HF7.out.tri.facts; obtain ⟨⟨s1, s2, s3⟩, u1, u2, u3⟩ := HF7.out.res.facts)
    all_goals
      have HG := hid HF7.out.stored
      clear x1 x2 x3 p1 p2 p3 q1 q2 q3 z1 z2 z3 s1 s2 s3 u1 u2 u3
      go_wp2
      obtain ⟨⟨e1, e2, e3⟩, _⟩ := HG.out.res.facts
      (try simp only [Exit.inBlock, Exit.then])
      refine bodyPost_ret_by (v := .tuple #[.agg #[.slice D1 n1 m1, .slice D2 n2 m2, .slice D3 n3 m3], .float .f32 r7]) ?_ rfl ?_
      · simp [go_sem, results, loadVar, e1, e2, e3]
        done
      exact ⟨_, _, rfl, HG.out.drawn⟩
  · have n0 : (t == 0) = false := beq_eq_false_iff_ne.2 (by omega)
    have n1' : (t == 1) = false := beq_eq_false_iff_ne.2 (by omega)
    go_wp2_with fail
    go_region_law (refine step_callE rfl 51 (.tmp 21) 63 rfl hent2 _ rfl _ (part_e (HF5.out.cur.drewN 1)) ?_; intro v7 w7 hv7; obtain ⟨⟨r7, hv7⟩, hc7⟩ := hv7; subst hv7; have HF7 := hid (HF5.out.drew.cg hc7); obtain ⟨⟨z1, z2, z3⟩, _⟩ := HF7.out.tri.facts; obtain ⟨⟨s1, s2, s3⟩, u1, u2, u3⟩ := HF7.out.res.facts)
    all_goals
      have HG := hid HF7.out.stored
      clear x1 x2 x3 p1 p2 p3 q1 q2 q3 z1 z2 z3 s1 s2 s3 u1 u2 u3
      go_wp2
      obtain ⟨⟨e1, e2, e3⟩, _⟩ := HG.out.res.facts
      (try simp only [Exit.inBlock, Exit.then])
      refine bodyPost_ret_by (v := .tuple #[.agg #[.slice D1 n1 m1, .slice D2 n2 m2, .slice D3 n3 m3], .float .f32 r7]) ?_ rfl ?_
      · simp [go_sem, results, loadVar, e1, e2, e3]
        done
      exact ⟨_, _, rfl, HG.out.drawn⟩
end Go.Proofs.Ytgjfpclpnobggaa
