/- The law ReportTables returns true: the walk. No conditions but the laid tables. -/
import Derived.Test.YtgnnjkmlnfdngaaDoorX
import Derived.Test.YtgnnjkmlnfdngaaDoorN
import Derived.Test.YtgnnjkmlnfdngaaDoorW
set_option linter.unusedVariables false
set_option linter.unusedSimpArgs false
namespace Go.Proofs.YtgnnjkmlnfdngaaDoor
open Go Go.RowKit Go.Sort

theorem shortL_le (s : List UInt8) : (shortL s).length ≤ 30 := by unfold shortL; rw [List.length_take]; omega
theorem textsL_le (l : List (List UInt8)) : (textsL l).length ≤ 12 ∧ ∀ s ∈ textsL l, s.length ≤ 30 := by
  unfold textsL
  refine ⟨by rw [List.length_map, List.length_take]; omega, fun s hs => ?_⟩
  obtain ⟨x, -, rfl⟩ := List.mem_map.1 hs
  exact shortL_le x
theorem tableSL_le (l : List (List (List UInt8))) : (tableSL l).length ≤ 20 ∧ ∀ r ∈ tableSL l, ∀ s ∈ r, s.length ≤ 30 := by
  unfold tableSL
  refine ⟨by rw [List.length_map, List.length_take]; omega, fun s hs => ?_⟩
  obtain ⟨x, -, rfl⟩ := List.mem_map.1 hs
  exact (textsL_le x).2

set_option maxHeartbeats 4000000 in
set_option maxRecDepth 100000 in
theorem tables3 (w : World) (hL : Lay w) (u : Value) (names : List (List UInt8)) (hu : Sl w u (names.map tv)) (v : Value) (rows : List (List (List UInt8))) (hv : Sl2 w v rows) :
    Calls Tryd.prog 3 #[u, v] w fun e w' => e = .returned (.bool true) ∧ Chg NoB w w' := by
  have c8 := Hid.mk' (texts8 u names w hu)
  have c9 : Hid (∀ w', Chg NoB w w' → Calls Tryd.prog 9 #[v] w' fun e w'' => ∃ v2, e = .returned v2 ∧ RR w'' v2 (tableSL rows) ∧ (∀ k, own v2 k → w'.heap.size ≤ k) ∧ Chg NoB w' w'') := fun w' k => table9 v rows w' (hv.new k)
  have c12 : Hid (∀ w', Chg NoB w w' → Calls Tryd.prog 12 #[] w' fun e w'' => e = .returned (.bool true) ∧ Chg NoB w' w'') := fun w' k => awake12 w' (hL.new k)
  obtain ⟨a, n, c, rfl, -⟩ := hu.form'
  obtain ⟨a2, n2, c2, rfl, -⟩ := hv.form'
  have bn := Hid.mk' (textsL_le names)
  have br := Hid.mk' (tableSL_le rows)
  obtain ⟨NN, hNN⟩ : ∃ N, textsL names = N := ⟨_, rfl⟩
  obtain ⟨RW, hRW⟩ : ∃ N, tableSL rows = N := ⟨_, rfl⟩
  rw [hNN] at c8 bn
  rw [hRW] at c9 br
  obtain ⟨B, hB⟩ : ∃ B, bsOf (TableL NN RW) = B := ⟨_, rfl⟩
  have hB' := Hid.mk' hB
  have c10 : Hid (∀ u v w', Sl w' u (NN.map tv) → Sl2 w' v RW → Calls Tryd.prog 10 #[u, v] w' fun e w'' => e = .returned (.string B) ∧ Chg NoB w' w'') := fun u v w' h1 h2 => by
    have := Table10 u v NN RW w' h1 h2 bn.out.1 (by have := br.out.1; omega) (fun s hs => by have := bn.out.2 s hs; omega) (fun r hr s hs => by have := br.out.2 r hr s hs; omega)
    unfold tv at this; rwa [hB] at this
  have c11 : Hid (∀ u v w', Sl w' u (NN.map tv) → Sl2 w' v RW → Calls Tryd.prog 11 #[u, v] w' fun e w'' => e = .returned (.string B) ∧ Chg NoB w' w'') := fun u v w' h1 h2 => by
    have := Table11 u v NN RW w' h1 h2 bn.out.1 (by have := br.out.1; omega) (fun s hs => by have := bn.out.2 s hs; omega) (fun r hr s hs => by have := br.out.2 r hr s hs; omega)
    unfold tv at this; rwa [hB] at this
  clear hu hv hL hNN hRW hB
  go_enter Tryd.func3, Tryd.ntmps3
  go_wp2_with fail
  refine c8.out.mono ?_
  rintro e w1 ⟨v1, rfl, r1, o1, k1⟩
  obtain ⟨x1, y1, z1, rfl, l1⟩ := r1.form'
  have r1' := Hid.mk' r1
  have k1' := Hid.mk' k1
  clear r1 o1 k1 l1
  go_wp2_with fail
  refine (c9.out _ k1'.out).mono ?_
  rintro e w2 ⟨v2, rfl, r2, o2, k2⟩
  obtain ⟨x2, y2, z2, rfl, l2⟩ := r2.sl2.form'
  have r2' := Hid.mk' r2
  have k2' := Hid.mk' k2
  clear r2 o2 k2 l2
  go_wp2_with (first
    | (go_at_call 10; refine (c10.out _ _ _ (r1'.out.sl.new k2'.out) r2'.out.sl2).mono ?_; rintro e w3 ⟨rfl, k3⟩; replace k3 := Hid.mk' k3)
    | (go_at_call 11; refine (c11.out _ _ _ ((r1'.out.sl.new k2'.out).new k3.out) (r2'.out.sl2.new k3.out)).mono ?_; rintro e w4 ⟨rfl, k4⟩; replace k4 := Hid.mk' k4)
    | (go_at_call 12; refine (c12.out _ (((k1'.out.trans k2'.out).trans k3.out).trans k4.out)).mono ?_; rintro e w5 ⟨rfl, k5⟩; replace k5 := Hid.mk' k5))
  go_ret
  exact ⟨rfl, (((k1'.out.trans k2'.out).trans k3.out).trans k4.out).trans k5.out⟩
end Go.Proofs.YtgnnjkmlnfdngaaDoor
