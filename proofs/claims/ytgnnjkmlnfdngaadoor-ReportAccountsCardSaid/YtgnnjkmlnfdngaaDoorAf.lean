/- What Account returns. Conditions: at most 20 lines, owners of at most 30 bytes, numbers from 0 to the greatest one. -/
import Derived.Test.YtgnnjkmlnfdngaaDoorAe
set_option linter.unusedVariables false
set_option linter.unusedSimpArgs false
namespace Go.Proofs.YtgnnjkmlnfdngaaDoor
open Go Go.RowKit Go.Sort

theorem amt_le (am : List Int) (i : Nat) (h : ∀ x ∈ am, InM x) : (amtL am i).length ≤ 20 := by
  unfold amtL
  split
  · rename_i a ha
    have := h a (List.mem_of_getElem? ha)
    unfold InM at this
    exact itoa_le a (by omega) (by omega)
  · simp
theorem acc_le (ls : List Line) (am : List Int) (hn : ls.length ≤ 20) (ho : ∀ x ∈ ls, x.1.length ≤ 30 ∧ InM x.2) (ha : ∀ x ∈ am, InM x) :
    (accRows ls am ++ [totRow ls am]).length ≤ 30 ∧ ∀ r ∈ accRows ls am ++ [totRow ls am], ∀ s ∈ r, s.length ≤ 100 := by
  refine ⟨by rw [List.length_append, accRows_len]; simp; omega, fun r hr s hs => ?_⟩
  rcases List.mem_append.1 hr with hr | hr
  · unfold accRows at hr
    obtain ⟨⟨x, i⟩, hx, rfl⟩ := List.mem_map.1 hr
    have hx2 := List.fst_mem_of_mem_zipIdx hx
    have h1 := ho x hx2
    have h2 := h1.2
    unfold InM at h2
    have h3 := itoa_le x.2 (by omega) (by omega)
    have h4 := amt_le am i ha
    unfold accRow at hs
    simp only [List.mem_cons, List.not_mem_nil, or_false] at hs
    rcases hs with rfl | rfl | rfl
    · omega
    · omega
    · simp only at *; omega
  · obtain rfl := List.mem_singleton.1 hr
    have h1 := sumU_bd ls hn fun x hx => (ho x hx).2
    have h2 := sumA_bd am ls.length hn ha
    have h3 := itoa_le (sumU ls) (by omega) (by omega)
    have h4 := itoa_le (am.take ls.length).sum (by omega) (by omega)
    unfold totRow at hs
    simp only [List.mem_cons, List.not_mem_nil, or_false] at hs
    rcases hs with rfl | rfl | rfl
    · decide
    · omega
    · omega

set_option maxHeartbeats 8000000 in
set_option maxRecDepth 100000 in
theorem Account23 (u v : Value) (ls : List Line) (am : List Int) (w : World) (hu : SlL w u ls) (hv : Sl w v (am.map fun n => .int .i64 n)) (hL : Lay w)
    (hn : ls.length ≤ 20) (ho : ∀ x ∈ ls, x.1.length ≤ 30 ∧ InM x.2) (ha : ∀ x ∈ am, InM x) (hal : am.length ≤ 20) :
    Calls Tryd.prog 23 #[u, v] w fun e w' => e = .returned (tv (accountL ls am)) ∧ Chg NoB w w' := by
  obtain ⟨i22, hi22, hz0, hz1, hz2⟩ := info_parts info22
  obtain ⟨a, n, c, rfl, hn1⟩ := hu.form'
  obtain ⟨a2, m, c2, rfl, hm1⟩ := hv.form'
  have hm2 : Hid (m = am.length) := by show _ = _; have := hm1.out; simpa using this
  have hu' := Hid.mk' hu
  have hv' := Hid.mk' hv
  have hL' := Hid.mk' hL
  have hsz := Hid.mk' (And.intro hn (And.intro ho (And.intro ha hal)))
  have hz' := Hid.mk' (And.intro hz0 (And.intro hz1 hz2))
  clear hu hv hL hn ho ha hal hm1 hz0 hz1 hz2
  go_enter Tryd.func23, Tryd.ntmps23
  go_wp2_with fail
  go_loopg [5, 6, 7, 13] n (fun gq s5 s6 s7 s13 wr => ∃ i v, i + gq = n ∧ s5 = v ∧ s6 = .int .i64 (sumU (ls.take i)) ∧ s7 = .int .i64 ((am.take i).sum) ∧ s13 = .int .i64 (i : Int) ∧ Hid (RR wr v (accRows (ls.take i) am)) ∧ (∀ k, own v k → w.heap.size ≤ k) ∧ Chg NoB w wr)
  case atStart => exact ⟨0, _, by omega, rfl, rfl, rfl, rfl, ⟨[], by simp [accRows], Row.nil _ 22, fun k u r a b => by simp at a⟩, fun k hk => (own_none 0 0 k hk).elim, Chg.refl _ _⟩
  case round =>
    obtain ⟨i, v, hg, rfl, rfl, rfl, rfl, hrr', hown, kwr⟩ := hrel
    obtain ⟨us, hus, hrow, hel⟩ := hrr'.out
    obtain ⟨av, nv', cv, rfl, lv⟩ := hrow.form'
    have hO : Hid (wr.ownsRow 0 22 1 (.slice av nv' cv) nv' us) := by
      have := hrow.owns
      rw [← lv.out] at this
      exact this
    have hrow' := Hid.mk' hrow
    have hown' := Hid.mk' hown
    have kwr' := Hid.mk' kwr
    have hel' := Hid.mk' hel
    have hus' := Hid.mk' hus
    have hn3 := hn1.out
    have hm3 := hm2.out
    obtain ⟨hsa, hsb, hsc, hsd⟩ := hsz.out
    by_cases hin : i < n
    · obtain ⟨x, hx⟩ : ∃ x, ls[i]? = some x := ⟨_, List.getElem?_eq_getElem (by omega)⟩
      obtain ⟨gp, o, rfl, hc⟩ := (hu'.out.new kwr).at (by omega)
      obtain ⟨c0, c1⟩ := hc i x hx
      have hxm := hsb x (List.mem_of_getElem? hx)
      have hU := sumU_succ ls i x hx
      have hR := accRows_succ ls am i x hx
      have bU := sumU_bd (ls.take i) (by rw [List.length_take]; omega) fun y hy => (hsb y (List.mem_of_mem_take hy)).2
      have bA := sumA_bd am i (by omega) hsc
      obtain ⟨xo, xu⟩ := x
      obtain ⟨xm, xb⟩ := hxm
      unfold InM at xb
      simp only at c0 c1 hU xm xb
      obtain ⟨SU, hSU⟩ : ∃ S, sumU (ls.take i) = S := ⟨_, rfl⟩
      obtain ⟨SA, hSA⟩ : ∃ S, (am.take i).sum = S := ⟨_, rfl⟩
      rw [hSU] at hU bU ⊢
      rw [hSA] at bA ⊢
      obtain ⟨OB, hOB⟩ : ∃ B, bsOf xo = B := ⟨_, rfl⟩
      obtain ⟨UB, hUB⟩ : ∃ B, bsOf (Lib.itoa xu) = B := ⟨_, rfl⟩
      have c30 := fun w' (k : Chg NoB w w') => number30 xu (by omega) (by omega) w' (hL'.out.new k)
      unfold tv at c0 c30
      rw [hOB] at c0
      simp only [hUB] at c30
      have c30' := Hid.mk' c30
      have hU' := Hid.mk' hU
      have hR' := Hid.mk' hR
      have d1 : (i : Int) < (n : Int) := by omega
      have d2 : i < n := hin
      have n1 : IntKind.i64.wrap ((i : Int) + 1) = (i : Int) + 1 := by rw [IntKind.wrap_i64]; omega
      have n2 : wrap64 (SU + xu) = SU + xu := by unfold wrap64; omega
      have n3 : IntKind.i64.wrap (SU + xu) = SU + xu := by rw [IntKind.wrap_i64]; omega
      have ln : Hid (nv' ≤ 20) := by show _ ≤ _; rw [lv.out, hus, accRows_len, List.length_take]; omega
      have li := Hid.mk' hin
      have hs5 := kwr.size
      by_cases him : i < m
      · obtain ⟨z, hz⟩ : ∃ z, am[i]? = some z := ⟨_, List.getElem?_eq_getElem (by omega)⟩
        have hzb := hsc z (List.mem_of_getElem? hz)
        unfold InM at hzb
        obtain ⟨ga, oa, rfl, hca, -⟩ := (hv'.out.new kwr).at (by simp; omega)
        have ca0 := hca i (.int .i64 z) (by rw [List.getElem?_map, hz]; rfl)
        have ca1 : (wr.alloc (.cells #[.string OB, .int .i64 xu] 45)).cell? ⟨ga, oa + i, none⟩ = some (.int .i64 z) := ((Chg.refl NoB wr).alloc _).cell (fun h => h) ca0
        have hS := sumA_succ am i z hz
        rw [hSA] at hS
        obtain ⟨AB, hAB⟩ : ∃ B, bsOf (Lib.itoa z) = B := ⟨_, rfl⟩
        have c30a := fun w' (k : Chg NoB w w') => number30 z (by omega) (by omega) w' (hL'.out.new k)
        unfold tv at c30a
        simp only [hAB] at c30a
        have c30a' := Hid.mk' c30a
        have hS' := Hid.mk' hS
        have hcell : Hid ((accRow am i (xo, xu)).map tv = [.string OB, .string UB, .string AB]) := by
          show _ = _
          unfold accRow amtL tv
          rw [hz, ← hOB, ← hUB, ← hAB]; rfl
        have n4 : wrap64 (SA + z) = SA + z := by unfold wrap64; omega
        have e1 : (i : Int) < (m : Int) := by omega
        obtain ⟨wB, hwB⟩ : ∃ wB, wr.alloc (.cells #[.string OB, .int .i64 xu] 45) = wB := ⟨_, rfl⟩
        have kB : Chg NoB wr wB := by rw [← hwB]; exact (Chg.refl _ _).alloc _
        have hbx : ∀ w', Chg NoB wB w' → w'.cell? ⟨wr.heap.size, 0, none⟩ = some (.string OB) ∧ w'.cell? ⟨wr.heap.size, 1, none⟩ = some (.int .i64 xu) := fun w' k => by
          have h := k.heap (fun h => h) (show wB.heap[wr.heap.size]? = some (.cells #[.string OB, .int .i64 xu] 45 (0, 0)) by rw [← hwB]; exact heap_alloc_new wr _)
          exact ⟨by rw [cell_of_row _ _ _ _ _ _ h]; rfl, by rw [cell_of_row _ _ _ _ _ _ h]; rfl⟩
        have hwB' := Hid.mk' hwB
        have kB' := Hid.mk' kB
        have hbx' := Hid.mk' hbx
        obtain ⟨x0, x1⟩ := hbx wB (Chg.refl _ _)
        clear kwr hc hx hrow hown hel hus hn3 hm3 hsa hsb hsc hsd hU hR hOB hUB c30 hSU hSA lv hin him hz hwB kB hbx hca hS hAB c30a
        go_wp2_with fail
        rw [hwB'.out]
        refine (c30a'.out _ (kwr'.out.trans kB'.out)).mono ?_
        rintro e w2 ⟨rfl, k2⟩
        have k2b := Hid.mk' k2
        replace k2 := Hid.mk' (kB'.out.trans k2)
        obtain ⟨y0, y1⟩ := hbx'.out w2 k2b.out
        go_wp2_with fail
        go_region_held3 (fun w' => w'.cell? ⟨wr.heap.size, 0, none⟩ = some (.string OB) ∧ w'.cell? ⟨wr.heap.size, 1, none⟩ = some (.int .i64 xu)) (first | exact ⟨y0, y1⟩ | exact ⟨z0, z1⟩ | exact ⟨w0, w1⟩ | exact hbx'.out _ (k3b.out.alloc _) | exact hbx'.out _ ((k3b.out.alloc _).alloc _))
          (first
          | (go_at_call 30; refine (c30'.out _ (by first | exact kwr'.out.trans k2.out | exact (kwr'.out.trans k2.out).drew)).mono ?_; rintro e w3 ⟨rfl, k3⟩; have k3b : Chg NoB wB w3 := (by first | exact k2b.out.trans k3 | exact ((k2b.out).drew).trans k3); obtain ⟨z0, z1⟩ := hbx'.out w3 k3b; replace k3b := Hid.mk' k3b; have k3w := Hid.mk' (kB'.out.trans k3b.out); clear k3)
          | (refine step_append_lies _ (by rfl) _ _ _ (by rfl) 0 22 i22 _ 1 24 Tryd.underlying23 hi22 hz'.out.1 hz'.out.2.1 hz'.out.2.2 rfl (by omega) (.slice av nv' cv) nv' us (by rfl) (owns_new hO.out ((k3w.out.alloc _).alloc _)) ⟨w3.heap.size + 1, 0, none⟩ 1 1 [.slice (some ⟨w3.heap.size, 0, none⟩) 3 3] (by rfl) (by rfl) (news2 w3 _ _ 22) (by simp [Value.oneCell']) (by omega) (by have := ln.out; unfold maxLen; omega) (by have := ln.out; omega) (by omega) (w3.heap.size + 2) (by simp) ?_
             intro gg cap w5 hown1 hgrow hat hlt
             have kz : Hid (Chg NoB wr ((w3.alloc (.cells #[.string OB, .string UB, .string AB] 9)).alloc (.cells #[.slice (some ⟨w3.heap.size, 0, none⟩) 3 3] 22))) := (k3w.out.alloc _).alloc _
             have hur : Row ((w3.alloc (.cells #[.string OB, .string UB, .string AB] 9)).alloc (.cells #[.slice (some ⟨w3.heap.size, 0, none⟩) 3 3] 22)) 9 (.slice (some ⟨w3.heap.size, 0, none⟩) 3 3) ((accRow am i (xo, xu)).map tv) := by rw [hcell.out]; exact lit_row 9 [.string OB, .string UB, .string AB] 3 rfl (by omega) ((Chg.refl NoB _).alloc _)
             have hrr5 := RR.grow hus'.out hel'.out kz.out hur rfl (fun j hj hv => by have h1 := hrow'.out.lt hv; have h2 := k3w.out.size; rw [own_slice] at hj; omega) hown1 hgrow (hat.imp id fun h => by simp; omega)
             have q5 : Hid (Chg NoB w w5) := (kwr'.out.trans kz.out).trans' hrr5.2.1 (fun j b => .inr (hown'.out j b))
             have x5 : Hid (∀ j, own (.slice (some ⟨gg, 0, none⟩) (nv' + 1) cap) j → w.heap.size ≤ j) := fun j hj => (hrr5.2.2 j hj).elim (hown'.out j) fun h => Nat.le_trans (kwr'.out.trans kz.out).size h
             have w0 : w5.cell? ⟨wr.heap.size, 0, none⟩ = some (.string OB) := hrr5.2.1.cell (fun hj => by have h1 := hrow'.out.lt hj; simp at h1) (hbx'.out _ ((k3b.out.alloc _).alloc _)).1
             have w1 : w5.cell? ⟨wr.heap.size, 1, none⟩ = some (.int .i64 xu) := hrr5.2.1.cell (fun hj => by have h1 := hrow'.out.lt hj; simp at h1) (hbx'.out _ ((k3b.out.alloc _).alloc _)).2
             have r5 := Hid.mk' hrr5.1
             clear hrr5 hur))
        all_goals
          go_wp2_with fail
          go_roundg (n - (i + 1))
          case measure => have := li.out; omega
          case rel =>
            refine ⟨i + 1, _, by have := li.out; omega, rfl, by rw [hU'.out], by rw [hS'.out], by simp, ?_, x5.out, q5.out⟩
            show RR _ _ _
            rw [hR'.out]
            exact r5.out
      · have hz : am[i]? = none := List.getElem?_eq_none (by omega)
        have hS' : Hid ((am.take (i + 1)).sum = SA) := by show _ = _; rw [List.take_add_one, hz, ← hSA]; simp
        have hcell : Hid ((accRow am i (xo, xu)).map tv = [.string OB, .string UB, .string ⟨#[]⟩]) := by
          show _ = _
          unfold accRow amtL tv
          rw [hz, ← hOB, ← hUB]; rfl
        have e1 : ¬ (i : Int) < (m : Int) := by omega
        obtain ⟨wB, hwB⟩ : ∃ wB, wr.alloc (.cells #[.string OB, .int .i64 xu] 45) = wB := ⟨_, rfl⟩
        have kB : Chg NoB wr wB := by rw [← hwB]; exact (Chg.refl _ _).alloc _
        have hbx : ∀ w', Chg NoB wB w' → w'.cell? ⟨wr.heap.size, 0, none⟩ = some (.string OB) ∧ w'.cell? ⟨wr.heap.size, 1, none⟩ = some (.int .i64 xu) := fun w' k => by
          have h := k.heap (fun h => h) (show wB.heap[wr.heap.size]? = some (.cells #[.string OB, .int .i64 xu] 45 (0, 0)) by rw [← hwB]; exact heap_alloc_new wr _)
          exact ⟨by rw [cell_of_row _ _ _ _ _ _ h]; rfl, by rw [cell_of_row _ _ _ _ _ _ h]; rfl⟩
        have hwB' := Hid.mk' hwB
        have kB' := Hid.mk' kB
        have hbx' := Hid.mk' hbx
        obtain ⟨x0, x1⟩ := hbx wB (Chg.refl _ _)
        clear kwr hc hx hrow hown hel hus hn3 hm3 hsa hsb hsc hsd hU hR hOB hUB c30 hSU hSA lv hin him hz hwB kB hbx
        go_wp2_with fail
        rw [hwB'.out]
        go_region_held3 (fun w' => w'.cell? ⟨wr.heap.size, 0, none⟩ = some (.string OB) ∧ w'.cell? ⟨wr.heap.size, 1, none⟩ = some (.int .i64 xu)) (first | exact ⟨x0, x1⟩ | exact ⟨z0, z1⟩ | exact ⟨w0, w1⟩ | exact hbx'.out _ (k3b.out.alloc _) | exact hbx'.out _ ((k3b.out.alloc _).alloc _))
          (first
          | (go_at_call 30; refine (c30'.out _ (by first | exact kwr'.out.trans kB'.out | exact (kwr'.out.trans kB'.out).drew)).mono ?_; rintro e w3 ⟨rfl, k3⟩; have k3b : Chg NoB wB w3 := (by first | exact (Chg.refl NoB wB).trans k3 | exact (((Chg.refl NoB wB)).drew).trans k3); obtain ⟨z0, z1⟩ := hbx'.out w3 k3b; replace k3b := Hid.mk' k3b; have k3w := Hid.mk' (kB'.out.trans k3b.out); clear k3)
          | (refine step_append_lies _ (by rfl) _ _ _ (by rfl) 0 22 i22 _ 1 24 Tryd.underlying23 hi22 hz'.out.1 hz'.out.2.1 hz'.out.2.2 rfl (by omega) (.slice av nv' cv) nv' us (by rfl) (owns_new hO.out ((k3w.out.alloc _).alloc _)) ⟨w3.heap.size + 1, 0, none⟩ 1 1 [.slice (some ⟨w3.heap.size, 0, none⟩) 3 3] (by rfl) (by rfl) (news2 w3 _ _ 22) (by simp [Value.oneCell']) (by omega) (by have := ln.out; unfold maxLen; omega) (by have := ln.out; omega) (by omega) (w3.heap.size + 2) (by simp) ?_
             intro gg cap w5 hown1 hgrow hat hlt
             have kz : Hid (Chg NoB wr ((w3.alloc (.cells #[.string OB, .string UB, .string ⟨#[]⟩] 9)).alloc (.cells #[.slice (some ⟨w3.heap.size, 0, none⟩) 3 3] 22))) := (k3w.out.alloc _).alloc _
             have hur : Row ((w3.alloc (.cells #[.string OB, .string UB, .string ⟨#[]⟩] 9)).alloc (.cells #[.slice (some ⟨w3.heap.size, 0, none⟩) 3 3] 22)) 9 (.slice (some ⟨w3.heap.size, 0, none⟩) 3 3) ((accRow am i (xo, xu)).map tv) := by rw [hcell.out]; exact lit_row 9 [.string OB, .string UB, .string ⟨#[]⟩] 3 rfl (by omega) ((Chg.refl NoB _).alloc _)
             have hrr5 := RR.grow hus'.out hel'.out kz.out hur rfl (fun j hj hv => by have h1 := hrow'.out.lt hv; have h2 := k3w.out.size; rw [own_slice] at hj; omega) hown1 hgrow (hat.imp id fun h => by simp; omega)
             have q5 : Hid (Chg NoB w w5) := (kwr'.out.trans kz.out).trans' hrr5.2.1 (fun j b => .inr (hown'.out j b))
             have x5 : Hid (∀ j, own (.slice (some ⟨gg, 0, none⟩) (nv' + 1) cap) j → w.heap.size ≤ j) := fun j hj => (hrr5.2.2 j hj).elim (hown'.out j) fun h => Nat.le_trans (kwr'.out.trans kz.out).size h
             have w0 : w5.cell? ⟨wr.heap.size, 0, none⟩ = some (.string OB) := hrr5.2.1.cell (fun hj => by have h1 := hrow'.out.lt hj; simp at h1) (hbx'.out _ ((k3b.out.alloc _).alloc _)).1
             have w1 : w5.cell? ⟨wr.heap.size, 1, none⟩ = some (.int .i64 xu) := hrr5.2.1.cell (fun hj => by have h1 := hrow'.out.lt hj; simp at h1) (hbx'.out _ ((k3b.out.alloc _).alloc _)).2
             have r5 := Hid.mk' hrr5.1
             clear hrr5 hur))
        all_goals
          go_wp2_with fail
          go_roundg (n - (i + 1))
          case measure => have := li.out; omega
          case rel =>
            refine ⟨i + 1, _, by have := li.out; omega, rfl, by rw [hU'.out], by rw [hS'.out], by simp, ?_, x5.out, q5.out⟩
            show RR _ _ _
            rw [hR'.out]
            exact r5.out
    · obtain rfl : i = n := by omega
      have d1 : ¬ ((i : Int) < (i : Int)) := by omega
      have htk : ls.take i = ls := List.take_of_length_le (by omega)
      have hrr2 := hrr'.out
      rw [htk] at hrr2
      rw [htk]
      have bU := sumU_bd ls hsa fun y hy => (hsb y hy).2
      have bA := sumA_bd am i (by omega) hsc
      have hle := acc_le ls am hsa hsb hsc
      have hus2 : us.length = (accRows ls am).length := by rw [hus, htk]
      have hel2 : Hid (∀ (k : Nat) (u : Value) (r : List (List UInt8)), us[k]? = some u → (accRows ls am)[k]? = some r → u.oneCell' = true ∧ Row wr 9 u (r.map tv) ∧ ∀ j, own u j → ¬ own (.slice av nv' cv) j) := fun k u r a b => hel k u r a (by rw [htk]; exact b)
      have hus2' := Hid.mk' hus2
      have c10 : Hid (∀ u v w', Sl w' u ([ownW, usaW, amoW].map tv) → Sl2 w' v (accRows ls am ++ [totRow ls am]) → Calls Tryd.prog 10 #[u, v] w' fun e w'' => e = .returned (tv (accountL ls am)) ∧ Chg NoB w' w'') := fun u v w' h1 h2 =>
        Table10 u v _ _ w' h1 h2 (by decide) hle.1 (by decide) hle.2
      have htot : (totRow ls am).map tv = [.string ⟨#[116, 111, 116, 97, 108]⟩, tv (Lib.itoa (sumU ls)), tv (Lib.itoa (am.take i).sum)] := by
        unfold totRow
        rw [← hn3]; rfl
      have c30u := fun w' (k : Chg NoB w w') => number30 (sumU ls) (by omega) (by omega) w' (hL'.out.new k)
      have c30a := fun w' (k : Chg NoB w w') => number30 (am.take i).sum (by omega) (by omega) w' (hL'.out.new k)
      obtain ⟨SU, hSU⟩ : ∃ S, sumU ls = S := ⟨_, rfl⟩
      obtain ⟨SA, hSA⟩ : ∃ S, (am.take i).sum = S := ⟨_, rfl⟩
      rw [hSU] at c30u htot ⊢
      rw [hSA] at c30a htot ⊢
      obtain ⟨UB, hUB⟩ : ∃ B, bsOf (Lib.itoa SU) = B := ⟨_, rfl⟩
      obtain ⟨AB, hAB⟩ : ∃ B, bsOf (Lib.itoa SA) = B := ⟨_, rfl⟩
      unfold tv at c30u c30a
      simp only [hUB] at c30u
      simp only [hAB] at c30a
      have htot' : Hid ((totRow ls am).map tv = [.string ⟨#[116, 111, 116, 97, 108]⟩, .string UB, .string AB]) := by
        show _ = _
        rw [htot, ← hUB, ← hAB]; rfl
      have c30u' := Hid.mk' c30u
      have c30a' := Hid.mk' c30a
      have hrr2' := Hid.mk' hrr2
      have ln : Hid (nv' ≤ 20) := by show _ ≤ _; rw [lv.out, hus2, accRows_len]; omega
      obtain ⟨wN, hwN⟩ : ∃ wN, wr.alloc (.cells #[.string ⟨#[111, 119, 110, 101, 114]⟩, .string ⟨#[117, 115, 97, 103, 101]⟩, .string ⟨#[97, 109, 111, 117, 110, 116]⟩] 9) = wN := ⟨_, rfl⟩
      have kN : Chg NoB wr wN := by rw [← hwN]; exact (Chg.refl _ _).alloc _
      have hnm : Hid (∀ w', Chg NoB wN w' → Sl w' (.slice (some ⟨wr.heap.size, 0, none⟩) 3 3) ([ownW, usaW, amoW].map tv)) := fun w' k => by
        have := lit_row (w := wr) (w' := w') 9 [.string ⟨#[111, 119, 110, 101, 114]⟩, .string ⟨#[117, 115, 97, 103, 101]⟩, .string ⟨#[97, 109, 111, 117, 110, 116]⟩] 3 rfl (by omega) (by rw [← hwN] at k; exact k)
        exact this.sl
      have hwN' := Hid.mk' hwN
      have kN' := Hid.mk' kN
      clear kwr hrow hown hel hus hn3 hm3 hsa hsb hsc hsd lv hin htk hrr2 bU bA hle hus2 htot c30u c30a hSU hSA hUB hAB hwN kN
      go_wp2_with fail
      rw [hwN'.out]
      refine (c30u'.out _ (kwr'.out.trans kN'.out)).mono ?_
      rintro e w2 ⟨rfl, k2⟩
      replace k2 := Hid.mk' k2
      go_wp2_with fail
      refine (c30a'.out _ ((kwr'.out.trans kN'.out).trans k2.out)).mono ?_
      rintro e w3 ⟨rfl, k3⟩
      have k3n := Hid.mk' (k2.out.trans k3)
      have k3w := Hid.mk' (kN'.out.trans k3n.out)
      clear k3
      go_wp2_with (first
        | (at_builtin; refine wpList_append_lies _ (by rfl) _ _ _ (by rfl) 0 22 i22 _ 1 24 Tryd.underlying23 hi22 hz'.out.1 hz'.out.2.1 hz'.out.2.2 rfl (by omega) (.slice av nv' cv) nv' us (by rfl) (owns_new hO.out ((k3w.out.alloc _).alloc _)) ⟨w3.heap.size + 1, 0, none⟩ 1 1 [.slice (some ⟨w3.heap.size, 0, none⟩) 3 3] (by rfl) (by rfl) (news2 w3 _ _ 22) (by simp [Value.oneCell']) (by omega) (by have := ln.out; unfold maxLen; omega) (by have := ln.out; omega) (by omega) (w3.heap.size + 2) (by simp) ?_
           intro gg cap w5 hown1 hgrow hat hlt
           have kz : Hid (Chg NoB wr ((w3.alloc (.cells #[.string ⟨#[116, 111, 116, 97, 108]⟩, .string UB, .string AB] 9)).alloc (.cells #[.slice (some ⟨w3.heap.size, 0, none⟩) 3 3] 22))) := (k3w.out.alloc _).alloc _
           have hur : Row ((w3.alloc (.cells #[.string ⟨#[116, 111, 116, 97, 108]⟩, .string UB, .string AB] 9)).alloc (.cells #[.slice (some ⟨w3.heap.size, 0, none⟩) 3 3] 22)) 9 (.slice (some ⟨w3.heap.size, 0, none⟩) 3 3) ((totRow ls am).map tv) := by rw [htot'.out]; exact lit_row 9 [.string ⟨#[116, 111, 116, 97, 108]⟩, .string UB, .string AB] 3 rfl (by omega) ((Chg.refl NoB _).alloc _)
           have hrr5 := RR.grow hus2'.out hel2.out kz.out hur rfl (fun j hj hv => by have h1 := hrow'.out.lt hv; have h2 := k3w.out.size; rw [own_slice] at hj; omega) hown1 hgrow (hat.imp id fun h => by simp; omega)
           have q5 : Hid (Chg NoB w w5) := (kwr'.out.trans kz.out).trans' hrr5.2.1 (fun j b => .inr (hown'.out j b))
           have nm5 : Hid (Sl w5 (.slice (some ⟨wr.heap.size, 0, none⟩) 3 3) ([ownW, usaW, amoW].map tv)) := (hnm.out _ ((k3n.out.alloc _).alloc _)).chg hrr5.2.1 fun j hj hv => by have h1 := hrow'.out.lt hv; rw [own_slice] at hj; omega
           have r5 := Hid.mk' hrr5.1
           clear hrr5 hur)
        | (go_at_call 10; refine (c10.out _ _ _ nm5.out r5.out.sl2).mono ?_; rintro e w6 ⟨rfl, k6⟩; replace k6 := Hid.mk' k6))
      go_ret
      exact ⟨rfl, q5.out.trans k6.out⟩
end Go.Proofs.YtgnnjkmlnfdngaaDoor
