/- The law ReportAudits returns true: the walk. No conditions but the laid tables. -/
import Derived.Test.YtgnnjkmlnfdngaaDoorAb
import Derived.Test.YtgnnjkmlnfdngaaDoorAc
import Derived.Test.YtgnnjkmlnfdngaaDoorW
import Derived.Test.YtgnnjkmlnfdngaaDoorY3
set_option linter.unusedVariables false
set_option linter.unusedSimpArgs false
namespace Go.Proofs.YtgnnjkmlnfdngaaDoor
open Go Go.RowKit Go.Sort

theorem SlP.chg {S : Nat → Prop} {w w' : World} {u : Value} {ps : List Prob} (h : SlP w u ps) (k : Chg S w w') (hs : ∀ j, own u j → ¬ S j) : SlP w' u ps := by
  rcases h with h | ⟨g, o, c, rfl, h1, h2⟩
  · exact .inl h
  · have hg : ¬ S g := hs _ ((own_slice ..).2 rfl)
    exact .inr ⟨g, o, c, rfl, h1, fun j p hp => ⟨k.cell hg (h2 j p hp).1, k.cell hg (h2 j p hp).2.1, k.cell hg (h2 j p hp).2.2⟩⟩
theorem problemsL_le (ps : List Prob) (h : ∀ p ∈ ps, InI p.1 ∧ InI p.2.2) : (problemsL ps).length ≤ 20 ∧ ∀ p ∈ problemsL ps, InI p.1 ∧ p.2.1.length ≤ 30 ∧ InI p.2.2 := by
  unfold problemsL
  refine ⟨by rw [List.length_map, List.length_take]; omega, fun p hp => ?_⟩
  obtain ⟨q, hq, rfl⟩ := List.mem_map.1 hp
  have := h q (List.mem_of_mem_take hq)
  exact ⟨this.1, by unfold shortP shortL; simp; omega, this.2⟩
theorem box_cells {w : World} {b : Nat} {x0 x1 x2 x3 : Value} (h : w.heap[b]? = some (.cells #[x0, x1, x2, x3] 31 (0, 0))) : w.cell? ⟨b, 0, none⟩ = some x0 ∧ w.cell? ⟨b, 1, none⟩ = some x1 ∧ w.cell? ⟨b, 2, none⟩ = some x2 ∧ w.cell? ⟨b, 3, none⟩ = some x3 := by
  refine ⟨?_, ?_, ?_, ?_⟩ <;> rw [cell_of_row w b _ _ _ _ h] <;> rfl

set_option maxHeartbeats 8000000 in
set_option maxRecDepth 100000 in
theorem audits4 (w : World) (hL : Lay w) (c m l : Value) (cs ms : List Prob) (ls : List (List UInt8)) (mg : Int) (hc : SlP w c cs) (hm : SlP w m ms) (hl : Sl w l (ls.map tv))
    (ic : ∀ p ∈ cs, InI p.1 ∧ InI p.2.2) (im : ∀ p ∈ ms, InI p.1 ∧ InI p.2.2) (ig : InI mg) :
    Calls Tryd.prog 4 #[.agg #[c, m, l, .int .i64 mg]] w fun e w' => e = .returned (.bool true) ∧ Chg NoB w w' := by
  obtain ⟨ca, cn, cc, rfl, -⟩ := hc.form'
  obtain ⟨ma, mn, mc, rfl, -⟩ := hm.form'
  obtain ⟨la, ln, lc, rfl, -⟩ := hl.form'
  obtain ⟨wA, hwA⟩ : ∃ wA, w.alloc (.cells #[.slice ca cn cc, .slice ma mn mc, .slice la ln lc, .int .i64 mg] 31) = wA := ⟨_, rfl⟩
  have kA : Chg NoB w wA := by rw [← hwA]; exact (Chg.refl _ _).alloc _
  have sA : wA.heap.size = w.heap.size + 1 := by rw [← hwA]; simp
  have hA : wA.heap[w.heap.size]? = some (.cells #[.slice ca cn cc, .slice ma mn mc, .slice la ln lc, .int .i64 mg] 31 (0, 0)) := by rw [← hwA]; exact heap_alloc_new w _
  have hwA' := Hid.mk' hwA
  have hL' := Hid.mk' hL
  have hc' := Hid.mk' hc
  have hm' := Hid.mk' hm
  have hl' := Hid.mk' hl
  have kA' := Hid.mk' kA
  have sA' := Hid.mk' sA
  have bc := Hid.mk' (problemsL_le cs ic)
  have bm := Hid.mk' (problemsL_le ms im)
  have bl := Hid.mk' (textsL_le ls)
  have ig' := Hid.mk' ig
  have hA' := Hid.mk' hA
  obtain ⟨xA0, xA1, xA2, xA3⟩ := box_cells hA
  clear hwA hL hc hm hl kA sA ic im ig hA
  go_enter Tryd.func4, Tryd.ntmps4
  go_wp2_with fail
  rw [hwA'.out]
  refine (problems13 _ cs wA (hc'.out.new kA'.out)).mono ?_
  rintro e w1 ⟨v0, rfl, r0, k1⟩
  obtain ⟨a0, n0, c0, rfl⟩ := owns_form r0
  have h1 := k1.heap (fun h => h) hA'.out
  have f1 := frozen_of_row w1 w.heap.size 0 _ _ h1
  obtain ⟨x10, x11, x12, x13⟩ := box_cells h1
  obtain ⟨w1s, hw1s⟩ : ∃ w1s, w1.setCell ⟨w.heap.size, 0, none⟩ (.slice a0 n0 c0) = w1s := ⟨_, rfl⟩
  have h1s : w1s.heap[w.heap.size]? = some (.cells #[.slice a0 n0 c0, .slice ma mn mc, .slice la ln lc, .int .i64 mg] 31 (0, 0)) := by rw [← hw1s]; exact heap_setCell_same w1 w.heap.size 0 _ 31 _ h1
  have q1 : Chg (fun k => k = w.heap.size) w1 w1s := by rw [← hw1s]; exact (Chg.refl (fun k => k = w.heap.size) w1).setCell _ (.inl rfl) _
  have k1s : Chg NoB w w1s := (kA'.out.trans k1).trans' q1 fun k hk => .inr (by rw [hk]; exact Nat.le_refl _)
  have s0 : SlP w1s (.slice a0 n0 c0) (problemsL cs) := r0.slp.chg q1 fun j hj he => by have := RowPr.own r0 j hj; have := sA'.out; omega
  have hw1s' := Hid.mk' hw1s
  have h1s' := Hid.mk' h1s
  have k1s' := Hid.mk' k1s
  have s0' := Hid.mk' s0
  obtain ⟨y0, y1, y2, y3⟩ := box_cells h1s
  have r0' := Hid.mk' r0
  have k1w := Hid.mk' k1
  have q1' := Hid.mk' q1
  clear r0 k1 h1 hw1s h1s q1 k1s s0
  go_wp2_with fail
  rw [hw1s'.out]
  refine (problems13 _ ms w1s (hm'.out.new k1s'.out)).mono ?_
  rintro e w2 ⟨v1, rfl, r1, k2⟩
  obtain ⟨a1, n1, c1, rfl⟩ := owns_form r1
  have h2 := k2.heap (fun h => h) h1s'.out
  have f2 := frozen_of_row w2 w.heap.size 1 _ _ h2
  obtain ⟨x20, x21, x22, x23⟩ := box_cells h2
  obtain ⟨w2s, hw2s⟩ : ∃ w2s, w2.setCell ⟨w.heap.size, 1, none⟩ (.slice a1 n1 c1) = w2s := ⟨_, rfl⟩
  have h2s : w2s.heap[w.heap.size]? = some (.cells #[.slice a0 n0 c0, .slice a1 n1 c1, .slice la ln lc, .int .i64 mg] 31 (0, 0)) := by rw [← hw2s]; exact heap_setCell_same w2 w.heap.size 1 _ 31 _ h2
  have q2 : Chg (fun k => k = w.heap.size) w2 w2s := by rw [← hw2s]; exact (Chg.refl (fun k => k = w.heap.size) w2).setCell _ (.inl rfl) _
  have k2s : Chg NoB w w2s := (k1s'.out.trans k2).trans' q2 fun k hk => .inr (by rw [hk]; exact Nat.le_refl _)
  have z1s : wA.heap.size ≤ w1s.heap.size := by have := r0'.out; have h3 := k1w.out.size; have h4 := q1'.out.size; omega
  have s1 : SlP w2s (.slice a1 n1 c1) (problemsL ms) := r1.slp.chg q2 fun j hj he => by have := RowPr.own r1 j hj; have := sA'.out; omega
  have s0b : SlP w2s (.slice a0 n0 c0) (problemsL cs) := (s0'.out.new k2).chg q2 fun j hj he => by have := RowPr.own r0'.out j hj; have := sA'.out; omega
  have hw2s' := Hid.mk' hw2s
  have h2s' := Hid.mk' h2s
  have k2s' := Hid.mk' k2s
  have s1' := Hid.mk' s1
  have s0b' := Hid.mk' s0b
  have r1' := Hid.mk' r1
  obtain ⟨yy0, yy1, yy2, yy3⟩ := box_cells h2s
  clear r1 k2 h2 hw2s h2s q2 k2s s1 s0b
  go_wp2_with fail
  rw [hw2s'.out]
  refine (texts8 _ ls w2s (hl'.out.new k2s'.out)).mono ?_
  rintro e w3 ⟨v2, rfl, r2, o2, k3⟩
  obtain ⟨a2, n2, c2, rfl, l2⟩ := r2.form'
  have h3 := k3.heap (fun h => h) h2s'.out
  have f3 := frozen_of_row w3 w.heap.size 2 _ _ h3
  obtain ⟨x30, x31, x32, x33⟩ := box_cells h3
  obtain ⟨w3s, hw3s⟩ : ∃ w3s, w3.setCell ⟨w.heap.size, 2, none⟩ (.slice a2 n2 c2) = w3s := ⟨_, rfl⟩
  have h3s : w3s.heap[w.heap.size]? = some (.cells #[.slice a0 n0 c0, .slice a1 n1 c1, .slice a2 n2 c2, .int .i64 mg] 31 (0, 0)) := by rw [← hw3s]; exact heap_setCell_same w3 w.heap.size 2 _ 31 _ h3
  have q3 : Chg (fun k => k = w.heap.size) w3 w3s := by rw [← hw3s]; exact (Chg.refl (fun k => k = w.heap.size) w3).setCell _ (.inl rfl) _
  have k3s : Chg NoB w w3s := (k2s'.out.trans k3).trans' q3 fun k hk => .inr (by rw [hk]; exact Nat.le_refl _)
  have hlt : w.heap.size < w2s.heap.size := (Array.getElem?_eq_some_iff.1 h2s'.out).1
  have t2 : Sl w3s (.slice a2 n2 c2) ((textsL ls).map tv) := r2.sl.chg q3 fun j hj he => by have := o2 j hj; omega
  have t1 : SlP w3s (.slice a1 n1 c1) (problemsL ms) := (s1'.out.new k3).chg q3 fun j hj he => by have := RowPr.own r1'.out j hj; have h9 := (Array.getElem?_eq_some_iff.1 h1s'.out).1; omega
  have t0 : SlP w3s (.slice a0 n0 c0) (problemsL cs) := (s0b'.out.new k3).chg q3 fun j hj he => by have := RowPr.own r0'.out j hj; have := sA'.out; omega
  have c14 : Hid (∀ w', Chg NoB w3s w' → Calls Tryd.prog 14 #[.agg #[.slice a0 n0 c0, .slice a1 n1 c1, .slice a2 n2 c2, .int .i64 mg]] w' fun e w'' => e = .returned (tv (auditL (problemsL cs) (problemsL ms) (textsL ls) mg)) ∧ Chg NoB w' w'') := fun w' k =>
    Audit14 _ _ _ _ _ _ mg w' (t0.new k) (t1.new k) (t2.new k) (hL'.out.new (k3s.trans k)) bc.out.1 bm.out.1 bl.out.1 bc.out.2 bm.out.2 bl.out.2 ig'.out
  have c15 : Hid (∀ w', Chg NoB w3s w' → Calls Tryd.prog 15 #[.agg #[.slice a0 n0 c0, .slice a1 n1 c1, .slice a2 n2 c2, .int .i64 mg]] w' fun e w'' => e = .returned (tv (auditL (problemsL cs) (problemsL ms) (textsL ls) mg)) ∧ Chg NoB w' w'') := fun w' k =>
    Audit15 _ _ _ _ _ _ mg w' (t0.new k) (t1.new k) (t2.new k) bc.out.1 bm.out.1 bl.out.1 bc.out.2 bm.out.2 bl.out.2 ig'.out
  have c12 : Hid (∀ w', Chg NoB w3s w' → Calls Tryd.prog 12 #[] w' fun e w'' => e = .returned (.bool true) ∧ Chg NoB w' w'') := fun w' k => awake12 w' (hL'.out.new (k3s.trans k))
  obtain ⟨T, hT⟩ : ∃ T, bsOf (auditL (problemsL cs) (problemsL ms) (textsL ls) mg) = T := ⟨_, rfl⟩
  unfold tv at c14 c15
  rw [hT] at c14 c15
  have hw3s' := Hid.mk' hw3s
  have k3s' := Hid.mk' k3s
  have hbx : Hid (∀ w', Chg NoB w3s w' → w'.heap[w.heap.size]? = some (.cells #[.slice a0 n0 c0, .slice a1 n1 c1, .slice a2 n2 c2, .int .i64 mg] 31 (0, 0))) := fun w' k => k.heap (fun h => h) h3s
  obtain ⟨u0, u1, u2, u3⟩ := box_cells h3s
  clear r2 o2 l2 k3 h3 hw3s h3s q3 k3s hlt t0 t1 t2 hT
  go_wp2_with fail
  rw [hw3s'.out]
  go_region_held3 (fun w' => w'.cell? ⟨w.heap.size, 0, none⟩ = some (.slice a0 n0 c0) ∧ w'.cell? ⟨w.heap.size, 1, none⟩ = some (.slice a1 n1 c1) ∧ w'.cell? ⟨w.heap.size, 2, none⟩ = some (.slice a2 n2 c2) ∧ w'.cell? ⟨w.heap.size, 3, none⟩ = some (.int .i64 mg)) (first | exact ⟨u0, u1, u2, u3⟩ | exact box_cells h14 | exact box_cells h15 | exact box_cells h12)
    (first
    | (go_at_call 14; refine (c14.out _ ((Chg.refl NoB w3s).drew)).mono ?_; rintro e w4 ⟨rfl, k4⟩; replace k4 : Chg NoB w3s w4 := ((Chg.refl NoB w3s).drew).trans k4; have h14 := hbx.out _ k4; replace k4 := Hid.mk' k4)
    | (go_at_call 15; refine (c15.out _ k4.out).mono ?_; rintro e w5 ⟨rfl, k5⟩; replace k5 : Chg NoB w3s w5 := k4.out.trans k5; have h15 := hbx.out _ k5; replace k5 := Hid.mk' k5)
    | (go_at_call 12; refine (c12.out _ k5.out).mono ?_; rintro e w6 ⟨rfl, k6⟩; replace k6 : Chg NoB w3s w6 := k5.out.trans k6; have h12 := hbx.out _ k6; replace k6 := Hid.mk' k6))
  go_ways
  all_goals
    go_wp2_with fail
    go_ret
    exact ⟨rfl, k3s'.out.trans k6.out⟩
end Go.Proofs.YtgnnjkmlnfdngaaDoor
