/- What Account of the reference returns. Conditions: at most 20 lines, owners of at most 30 bytes, numbers from 0 to the greatest one. -/
import Derived.Test.YtgnnjkmlnfdngaaDoorAf
import Derived.Test.YtgnnjkmlnfdngaaDoorN
import Derived.Test.YtgnnjkmlnfdngaaDoorK
set_option linter.unusedVariables false
set_option linter.unusedSimpArgs false
namespace Go.Proofs.YtgnnjkmlnfdngaaDoor
open Go Go.RowKit Go.Sort

def refRow (am : List Int) (i : Nat) (x : Line) : List (List UInt8) := match am[i]? with | some a => [x.1, Lib.itoa x.2, Lib.itoa a] | none => [x.1, Lib.itoa x.2]
def refRows (ls : List Line) (am : List Int) : List (List (List UInt8)) := ls.zipIdx.map fun p => refRow am p.2 p.1
theorem refRows_succ (ls : List Line) (am : List Int) (i : Nat) (x : Line) (h : ls[i]? = some x) : refRows (ls.take (i + 1)) am = refRows (ls.take i) am ++ [refRow am i x] := by
  unfold refRows
  have hi := (List.getElem?_eq_some_iff.1 h).1
  rw [List.take_add_one, h, Option.toList_some, List.zipIdx_append, List.map_append, List.length_take, Nat.min_eq_left (by omega)]
  simp
theorem refRows_len (ls : List Line) (am : List Int) : (refRows ls am).length = ls.length := by unfold refRows; simp
def Like (r r' : List (List UInt8)) : Prop := ∀ i, cellL r i = cellL r' i
theorem ref_like (am : List Int) (i : Nat) (x : Line) : Like (refRow am i x) (accRow am i x) := by
  intro k
  unfold refRow accRow amtL
  cases h : am[i]? with
  | some a => rfl
  | none => match k with
    | 0 => rfl
    | 1 => rfl
    | 2 => rfl
    | k + 3 => rfl
theorem line_like (ws : List Nat) (r r' : List (List UInt8)) (h : Like r r') : lineL ws r = lineL ws r' := by
  unfold lineL laidL
  have : (List.range ws.length).map (wordL ws r) = (List.range ws.length).map (wordL ws r') := List.map_congr_left fun i _ => by
    unfold wordL
    rw [h i]
  rw [this]
theorem mx_like {α : Type} (f g : α → List (List UInt8)) (h : ∀ x, Like (f x) (g x)) (i : Nat) : ∀ (l : List α) (w : Nat), mx (l.map f) i w = mx (l.map g) i w
  | [], w => rfl
  | x :: l, w => by
    have ih := mx_like f g h i l
    unfold mx at ih ⊢
    rw [List.map_cons, List.map_cons, List.foldl_cons, List.foldl_cons, h x i]
    exact ih _
theorem table_like {α : Type} (names : List (List UInt8)) (f g : α → List (List UInt8)) (h : ∀ x, Like (f x) (g x)) (l : List α) : TableL names (l.map f) = TableL names (l.map g) := by
  have hw : ∀ i, widthL names (l.map f) i = widthL names (l.map g) i := fun i => by unfold widthL; exact mx_like f g h i l _
  have hws : widthsL names (l.map f) = widthsL names (l.map g) := List.map_congr_left fun i _ => hw i
  have hru : rulesL names (l.map f) = rulesL names (l.map g) := List.map_congr_left fun i _ => by rw [hw i]
  have hl : ∀ ws, (l.map f).map (lineL ws) = (l.map g).map (lineL ws) := fun ws => by
    rw [List.map_map, List.map_map]
    exact List.map_congr_left fun x _ => line_like ws _ _ (h x)
  unfold TableL tableL
  rw [hws, hru, hl]
def refO (ls : List Line) (am : List Int) (o : Option (Line × Nat)) : List (List UInt8) := match o with | some p => refRow am p.2 p.1 | none => totRow ls am
def accO (ls : List Line) (am : List Int) (o : Option (Line × Nat)) : List (List UInt8) := match o with | some p => accRow am p.2 p.1 | none => totRow ls am
theorem account_ref (ls : List Line) (am : List Int) : TableL [ownW, usaW, amoW] (refRows ls am ++ [totRow ls am]) = accountL ls am := by
  have e1 : refRows ls am ++ [totRow ls am] = (ls.zipIdx.map some ++ [none]).map (refO ls am) := by
    rw [List.map_append, List.map_map]; rfl
  have e2 : accRows ls am ++ [totRow ls am] = (ls.zipIdx.map some ++ [none]).map (accO ls am) := by
    rw [List.map_append, List.map_map]; rfl
  unfold accountL
  rw [e1, e2]
  refine table_like _ _ _ (fun x => ?_) _
  cases x with
  | some p => exact ref_like am p.2 p.1
  | none => exact fun _ => rfl
theorem ref_le (ls : List Line) (am : List Int) (hn : ls.length ≤ 20) (ho : ∀ x ∈ ls, x.1.length ≤ 30 ∧ InM x.2) (ha : ∀ x ∈ am, InM x) :
    (refRows ls am ++ [totRow ls am]).length ≤ 30 ∧ ∀ r ∈ refRows ls am ++ [totRow ls am], ∀ s ∈ r, s.length ≤ 100 := by
  refine ⟨by rw [List.length_append, refRows_len]; simp; omega, fun r hr s hs => ?_⟩
  rcases List.mem_append.1 hr with hr | hr
  · unfold refRows at hr
    obtain ⟨⟨x, i⟩, hx, rfl⟩ := List.mem_map.1 hr
    have hx2 := List.fst_mem_of_mem_zipIdx hx
    have h1 := ho x hx2
    have h2 := h1.2
    unfold InM at h2
    have h3 := itoa_le x.2 (by omega) (by omega)
    have h4 := amt_le am i ha
    simp only at hs
    unfold amtL at h4
    unfold refRow at hs
    split at hs
    · rename_i a hai
      rw [hai] at h4
      simp only [List.mem_cons, List.not_mem_nil, or_false] at hs h4
      rcases hs with rfl | rfl | rfl <;> omega
    · simp only [List.mem_cons, List.not_mem_nil, or_false] at hs
      rcases hs with rfl | rfl <;> omega
  · exact (acc_le ls am hn ho ha).2 r (List.mem_append.2 (.inr hr)) s hs

set_option maxHeartbeats 8000000 in
set_option maxRecDepth 100000 in
theorem Account24 (u v : Value) (ls : List Line) (am : List Int) (w : World) (hu : SlL w u ls) (hv : Sl w v (am.map fun n => .int .i64 n))
    (hn : ls.length ≤ 20) (ho : ∀ x ∈ ls, x.1.length ≤ 30 ∧ InM x.2) (ha : ∀ x ∈ am, InM x) (hal : am.length ≤ 20) :
    Calls Tryd.prog 24 #[u, v] w fun e w' => e = .returned (tv (accountL ls am)) ∧ Chg NoB w w' := by
  obtain ⟨i22, hi22, hz0, hz1, hz2⟩ := info_parts info22
  obtain ⟨a, n, c, rfl, hn1⟩ := hu.form'
  obtain ⟨a2, m, c2, rfl, hm1⟩ := hv.form'
  have hm2 : Hid (m = am.length) := by show _ = _; have := hm1.out; simpa using this
  have hu' := Hid.mk' hu
  have hv' := Hid.mk' hv
  have hsz := Hid.mk' (And.intro hn (And.intro ho (And.intro ha hal)))
  have hz' := Hid.mk' (And.intro hz0 (And.intro hz1 hz2))
  clear hu hv hn ho ha hal hm1 hz0 hz1 hz2
  go_enter Tryd.func24, Tryd.ntmps24
  go_wp2_with fail
  go_loopg [5, 6, 7, 8] n (fun gq s5 s6 s7 s8 wr => ∃ i v, i + gq = n ∧ s5 = v ∧ s6 = .int .i64 (sumU (ls.take i)) ∧ s7 = .int .i64 ((am.take i).sum) ∧ s8 = .int .i64 (i : Int) ∧ Hid (RR wr v (refRows (ls.take i) am)) ∧ (∀ k, own v k → w.heap.size ≤ k) ∧ Chg NoB w wr)
  case atStart => exact ⟨0, _, by omega, rfl, rfl, rfl, rfl, ⟨[], by simp [refRows], Row.nil _ 22, fun k u r a b => by simp at a⟩, fun k hk => (own_none 0 0 k hk).elim, Chg.refl _ _⟩
  case round =>
    obtain ⟨i, v, hg, rfl, rfl, rfl, rfl, hrr', hown, kwr⟩ := hrel
    obtain ⟨us, hus, hrow, hel⟩ := hrr'.out
    obtain ⟨av, nv', cv, rfl, lv⟩ := hrow.form'
    have hO : Hid (wr.ownsRow 0 22 1 (.slice av nv' cv) nv' us) := by
      have := hrow.owns
      rw [← lv.out] at this
      exact this
    have hrow' := Hid.mk' hrow
    have hown' := Hid.mk' hown
    have kwr' := Hid.mk' kwr
    have hel' := Hid.mk' hel
    have hus' := Hid.mk' hus
    have hn3 := hn1.out
    have hm3 := hm2.out
    obtain ⟨hsa, hsb, hsc, hsd⟩ := hsz.out
    by_cases hin : i < n
    · obtain ⟨x, hx⟩ : ∃ x, ls[i]? = some x := ⟨_, List.getElem?_eq_getElem (by omega)⟩
      obtain ⟨gp, o, rfl, hc⟩ := (hu'.out.new kwr).at (by omega)
      obtain ⟨c0, c1⟩ := hc i x hx
      have hxm := hsb x (List.mem_of_getElem? hx)
      have hU := sumU_succ ls i x hx
      have hR := refRows_succ ls am i x hx
      have bU := sumU_bd (ls.take i) (by rw [List.length_take]; omega) fun y hy => (hsb y (List.mem_of_mem_take hy)).2
      have bA := sumA_bd am i (by omega) hsc
      obtain ⟨xo, xu⟩ := x
      obtain ⟨xm, xb⟩ := hxm
      unfold InM at xb
      simp only at c0 c1 hU xm xb
      obtain ⟨SU, hSU⟩ : ∃ S, sumU (ls.take i) = S := ⟨_, rfl⟩
      obtain ⟨SA, hSA⟩ : ∃ S, (am.take i).sum = S := ⟨_, rfl⟩
      rw [hSU] at hU bU ⊢
      rw [hSA] at bA ⊢
      obtain ⟨OB, hOB⟩ : ∃ B, bsOf xo = B := ⟨_, rfl⟩
      obtain ⟨UB, hUB⟩ : ∃ B, bsOf (Lib.itoa xu) = B := ⟨_, rfl⟩
      have c20 := fun w' => number20 xu (by omega) (by omega) w'
      unfold tv at c0 c20
      rw [hOB] at c0
      simp only [hUB] at c20
      have c20' := Hid.mk' c20
      have hU' := Hid.mk' hU
      have hR' := Hid.mk' hR
      have d1 : (i : Int) < (n : Int) := by omega
      have d2 : i < n := hin
      have n1 : IntKind.i64.wrap ((i : Int) + 1) = (i : Int) + 1 := by rw [IntKind.wrap_i64]; omega
      have n2 : wrap64 (SU + xu) = SU + xu := by unfold wrap64; omega
      have ln : Hid (nv' ≤ 20) := by show _ ≤ _; rw [lv.out, hus, refRows_len, List.length_take]; omega
      have li := Hid.mk' hin
      have hcl : Hid (∀ w', Chg NoB wr w' → w'.cell? ⟨gp, o + i * 2, none⟩ = some (.string OB) ∧ w'.cell? ⟨gp, o + i * 2 + 1, none⟩ = some (.int .i64 xu)) := fun w' k => ⟨k.cell (fun h => h) c0, k.cell (fun h => h) c1⟩
      by_cases him : i < m
      · obtain ⟨z, hz⟩ : ∃ z, am[i]? = some z := ⟨_, List.getElem?_eq_getElem (by omega)⟩
        have hzb := hsc z (List.mem_of_getElem? hz)
        unfold InM at hzb
        obtain ⟨ga, oa, rfl, hca, -⟩ := (hv'.out.new kwr).at (by simp; omega)
        have ca0 := hca i (.int .i64 z) (by rw [List.getElem?_map, hz]; rfl)
        have ca' := Hid.mk' ca0
        have hS := sumA_succ am i z hz
        rw [hSA] at hS
        obtain ⟨AB, hAB⟩ : ∃ B, bsOf (Lib.itoa z) = B := ⟨_, rfl⟩
        have c20a := fun w' => number20 z (by omega) (by omega) w'
        unfold tv at c20a
        simp only [hAB] at c20a
        have c20a' := Hid.mk' c20a
        have hS' := Hid.mk' hS
        have hcell : Hid ((refRow am i (xo, xu)).map tv = [.string OB, .string UB] ++ [.string AB]) := by
          show _ = _
          unfold refRow
          rw [hz, ← hOB, ← hUB, ← hAB]; rfl
        have n4 : wrap64 (SA + z) = SA + z := by unfold wrap64; omega
        have e1 : (i : Int) < (m : Int) := by omega
        clear kwr hc hx hrow hown hel hus hn3 hm3 hsa hsb hsc hsd hU hR hOB hUB c20 hSU hSA lv hin him hz hca hS hAB c20a ca0
        go_wp2_with fail
        go_region_held3 (fun w' => w'.cell? ⟨gp, o + i * 2, none⟩ = some (.string OB) ∧ w'.cell? ⟨gp, o + i * 2 + 1, none⟩ = some (.int .i64 xu)) (first | exact ⟨c0, c1⟩ | exact ⟨z0, z1⟩ | exact hcl.out _ (k2b.out.alloc _))
          (first
          | (go_at_call 20; refine (c20'.out _).mono ?_; rintro e w2 ⟨rfl, k2⟩; have k2b : Chg NoB wr w2 := (by first | exact k2 | exact ((Chg.refl NoB wr).drew).trans k2); obtain ⟨z0, z1⟩ := hcl.out w2 k2b; replace k2b := Hid.mk' k2b; clear k2))
        obtain ⟨wL, hwL⟩ : ∃ wL, w2.alloc (.cells #[.string OB, .string UB] 9) = wL := ⟨_, rfl⟩
        have kL : Hid (Chg NoB wr wL) := by show Chg _ _ _; rw [← hwL]; exact k2b.out.alloc _
        have rL : Hid (Row wL 9 (.slice (some ⟨w2.heap.size, 0, none⟩) 2 2) [.string OB, .string UB]) := lit_row 9 [.string OB, .string UB] 2 rfl (by omega) (by rw [← hwL]; exact Chg.refl _ _)
        have oL : Hid (wr.heap.size ≤ w2.heap.size) := k2b.out.size
        obtain ⟨y0, y1⟩ := hcl.out wL kL.out
        have yca : wL.cell? ⟨ga, oa + i, none⟩ = some (.int .i64 z) := kL.out.cell (fun h => h) ca'.out
        rw [hwL]
        clear hwL
        go_wp2_with fail
        refine (c20a'.out _).mono ?_
        rintro e w3 ⟨rfl, k3⟩
        have k3w := Hid.mk' (kL.out.trans k3)
        have r3 := Hid.mk' (rL.out.chg k3 fun _ _ h => h)
        clear k3
        go_wp2_with (first
          | (at_builtin; refine wpList_append_one _ rfl _ _ 22 9 (.string ⟨#[]⟩) 16 rfl Tryd.underlying22 info9 rfl (.slice (some ⟨w2.heap.size, 0, none⟩) 2 2) [.string OB, .string UB] (.string AB) rfl rfl r3.out rfl (by simp) (by simp) ?_
             intro v4 w4 r4 o4 k4
             obtain ⟨b4, m4, d4, rfl, lv4⟩ := r4.form'
             have k4w : Hid (Chg NoB wr w4) := k3w.out.trans' k4 fun j hj => .inr (by have := oL.out; rw [own_slice] at hj; omega)
             have o4' : Hid (∀ j, own (.slice b4 m4 d4) j → wr.heap.size ≤ j) := fun j hj => (o4 j hj).elim (fun h => by have := oL.out; rw [own_slice] at h; omega) fun h => Nat.le_trans k3w.out.size h
             have yc4 : w4.cell? ⟨ga, oa + i, none⟩ = some (.int .i64 z) := k4w.out.cell (fun h => h) ca'.out
             have r4' := Hid.mk' r4
             clear o4 k4 lv4 r4)
          | (at_builtin; refine wpList_append_one _ rfl _ _ 23 22 (.slice none 0 0) 24 rfl Tryd.underlying23 info22 rfl (.slice av nv' cv) us (.slice b4 m4 d4) rfl rfl (hrow'.out.chg k4w.out fun _ _ h => h) rfl (by have := ln.out; have := hO.out.1; omega) (by have := ln.out; have := hO.out.1; omega) ?_
             intro v6 w6 r6 o6 k6
             obtain ⟨b6, m6, d6, rfl, lv6⟩ := r6.form'
             have q6 : Hid (Chg NoB w w6) := (kwr'.out.trans k4w.out).trans' k6 (fun j b => .inr (hown'.out j b))
             have x6 : Hid (∀ j, own (.slice b6 m6 d6) j → w.heap.size ≤ j) := fun j hj => (o6 j hj).elim (hown'.out j) fun h => Nat.le_trans (kwr'.out.trans k4w.out).size h
             have y6 : Hid (RR w6 (.slice b6 m6 d6) (refRows (ls.take i) am ++ [refRow am i (xo, xu)])) := RR.snoc hus'.out (fun k u r a b => ⟨(hel'.out k u r a b).1, (hel'.out k u r a b).2.1.chg k4w.out fun _ _ h => h, (hel'.out k u r a b).2.2⟩) (by rw [hcell.out]; exact r4'.out) rfl (fun j hj hv => by have h1 := o4'.out j hj; have h2 := hrow'.out.lt hv; omega) r6 o6 k6
             clear o6 k6 lv6 r6))
        all_goals
          go_roundg (n - (i + 1))
          case measure => have := li.out; omega
          case rel =>
            refine ⟨i + 1, _, by have := li.out; omega, rfl, by rw [hU'.out], by rw [hS'.out], by simp, ?_, x6.out, q6.out⟩
            show RR _ _ _
            rw [hR'.out]
            exact y6.out
      · have hz : am[i]? = none := List.getElem?_eq_none (by omega)
        have hS' : Hid ((am.take (i + 1)).sum = SA) := by show _ = _; rw [List.take_add_one, hz, ← hSA]; simp
        have hcell : Hid ((refRow am i (xo, xu)).map tv = [.string OB, .string UB]) := by
          show _ = _
          unfold refRow
          rw [hz, ← hOB, ← hUB]; rfl
        have e1 : ¬ (i : Int) < (m : Int) := by omega
        clear kwr hc hx hrow hown hel hus hn3 hm3 hsa hsb hsc hsd hU hR hOB hUB c20 hSU hSA lv hin him hz
        go_wp2_with fail
        go_region_held3 (fun w' => w'.cell? ⟨gp, o + i * 2, none⟩ = some (.string OB) ∧ w'.cell? ⟨gp, o + i * 2 + 1, none⟩ = some (.int .i64 xu)) (first | exact ⟨c0, c1⟩ | exact ⟨z0, z1⟩ | exact hcl.out _ (k2b.out.alloc _))
          (first
          | (go_at_call 20; refine (c20'.out _).mono ?_; rintro e w2 ⟨rfl, k2⟩; have k2b : Chg NoB wr w2 := (by first | exact k2 | exact ((Chg.refl NoB wr).drew).trans k2); obtain ⟨z0, z1⟩ := hcl.out w2 k2b; replace k2b := Hid.mk' k2b; clear k2))
        obtain ⟨wL, hwL⟩ : ∃ wL, w2.alloc (.cells #[.string OB, .string UB] 9) = wL := ⟨_, rfl⟩
        have kL : Hid (Chg NoB wr wL) := by show Chg _ _ _; rw [← hwL]; exact k2b.out.alloc _
        have rL : Hid (Row wL 9 (.slice (some ⟨w2.heap.size, 0, none⟩) 2 2) [.string OB, .string UB]) := lit_row 9 [.string OB, .string UB] 2 rfl (by omega) (by rw [← hwL]; exact Chg.refl _ _)
        have oL : Hid (wr.heap.size ≤ w2.heap.size) := k2b.out.size
        obtain ⟨y0, y1⟩ := hcl.out wL kL.out
        rw [hwL]
        clear hwL
        go_wp2_with (first
          | (at_builtin; refine wpList_append_one _ rfl _ _ 23 22 (.slice none 0 0) 24 rfl Tryd.underlying23 info22 rfl (.slice av nv' cv) us (.slice (some ⟨w2.heap.size, 0, none⟩) 2 2) rfl rfl (hrow'.out.chg kL.out fun _ _ h => h) rfl (by have := ln.out; have := hO.out.1; omega) (by have := ln.out; have := hO.out.1; omega) ?_
             intro v6 w6 r6 o6 k6
             obtain ⟨b6, m6, d6, rfl, lv6⟩ := r6.form'
             have q6 : Hid (Chg NoB w w6) := (kwr'.out.trans kL.out).trans' k6 (fun j b => .inr (hown'.out j b))
             have x6 : Hid (∀ j, own (.slice b6 m6 d6) j → w.heap.size ≤ j) := fun j hj => (o6 j hj).elim (hown'.out j) fun h => Nat.le_trans (kwr'.out.trans kL.out).size h
             have y6 : Hid (RR w6 (.slice b6 m6 d6) (refRows (ls.take i) am ++ [refRow am i (xo, xu)])) := RR.snoc hus'.out (fun k u r a b => ⟨(hel'.out k u r a b).1, (hel'.out k u r a b).2.1.chg kL.out fun _ _ h => h, (hel'.out k u r a b).2.2⟩) (by rw [hcell.out]; exact rL.out) rfl (fun j hj hv => by have h1 := oL.out; have h2 := hrow'.out.lt hv; rw [own_slice] at hj; omega) r6 o6 k6
             clear o6 k6 lv6 r6))
        all_goals
          go_roundg (n - (i + 1))
          case measure => have := li.out; omega
          case rel =>
            refine ⟨i + 1, _, by have := li.out; omega, rfl, by rw [hU'.out], by rw [hS'.out], by simp, ?_, x6.out, q6.out⟩
            show RR _ _ _
            rw [hR'.out]
            exact y6.out
    · obtain rfl : i = n := by omega
      have d1 : ¬ ((i : Int) < (i : Int)) := by omega
      have htk : ls.take i = ls := List.take_of_length_le (by omega)
      have hrr2 := hrr'.out
      rw [htk] at hrr2
      rw [htk]
      have bU := sumU_bd ls hsa fun y hy => (hsb y hy).2
      have bA := sumA_bd am i (by omega) hsc
      have hle := ref_le ls am hsa hsb hsc
      have hus2 : us.length = (refRows ls am).length := by rw [hus, htk]
      have hel2 : Hid (∀ (k : Nat) (u : Value) (r : List (List UInt8)), us[k]? = some u → (refRows ls am)[k]? = some r → u.oneCell' = true ∧ Row wr 9 u (r.map tv) ∧ ∀ j, own u j → ¬ own (.slice av nv' cv) j) := fun k u r a b => hel k u r a (by rw [htk]; exact b)
      have hus2' := Hid.mk' hus2
      have c11 : Hid (∀ u v w', Sl w' u ([ownW, usaW, amoW].map tv) → Sl2 w' v (refRows ls am ++ [totRow ls am]) → Calls Tryd.prog 11 #[u, v] w' fun e w'' => e = .returned (tv (accountL ls am)) ∧ Chg NoB w' w'') := fun u v w' h1 h2 => by
        have := Table11 u v _ _ w' h1 h2 (by decide) hle.1 (by decide) hle.2
        rw [account_ref] at this
        exact this
      have htot : (totRow ls am).map tv = [.string ⟨#[116, 111, 116, 97, 108]⟩, tv (Lib.itoa (sumU ls)), tv (Lib.itoa (am.take i).sum)] := by
        unfold totRow
        rw [← hn3]; rfl
      have c20u := fun w' => number20 (sumU ls) (by omega) (by omega) w'
      have c20a := fun w' => number20 (am.take i).sum (by omega) (by omega) w'
      obtain ⟨SU, hSU⟩ : ∃ S, sumU ls = S := ⟨_, rfl⟩
      obtain ⟨SA, hSA⟩ : ∃ S, (am.take i).sum = S := ⟨_, rfl⟩
      rw [hSU] at c20u htot ⊢
      rw [hSA] at c20a htot ⊢
      obtain ⟨UB, hUB⟩ : ∃ B, bsOf (Lib.itoa SU) = B := ⟨_, rfl⟩
      obtain ⟨AB, hAB⟩ : ∃ B, bsOf (Lib.itoa SA) = B := ⟨_, rfl⟩
      unfold tv at c20u c20a
      simp only [hUB] at c20u
      simp only [hAB] at c20a
      have htot' : Hid ((totRow ls am).map tv = [.string ⟨#[116, 111, 116, 97, 108]⟩, .string UB, .string AB]) := by
        show _ = _
        rw [htot, ← hUB, ← hAB]; rfl
      have c20u' := Hid.mk' c20u
      have c20a' := Hid.mk' c20a
      have ln : Hid (nv' ≤ 20) := by show _ ≤ _; rw [lv.out, hus2, refRows_len]; omega
      clear kwr hrow hown hel hus hn3 hm3 hsa hsb hsc hsd lv hin htk hrr2 bU bA hle hus2 htot c20u c20a hSU hSA hUB hAB
      go_wp2_with fail
      refine (c20u'.out _).mono ?_
      rintro e w2 ⟨rfl, k2⟩
      replace k2 := Hid.mk' k2
      go_wp2_with fail
      refine (c20a'.out _).mono ?_
      rintro e w3 ⟨rfl, k3⟩
      have k3w := Hid.mk' (k2.out.trans k3)
      clear k3
      go_wp2_with (first
        | (at_builtin; refine wpList_append_lies _ (by rfl) _ _ _ (by rfl) 0 22 i22 _ 1 24 Tryd.underlying23 hi22 hz'.out.1 hz'.out.2.1 hz'.out.2.2 rfl (by omega) (.slice av nv' cv) nv' us (by rfl) (owns_new hO.out ((k3w.out.alloc _).alloc _)) ⟨w3.heap.size + 1, 0, none⟩ 1 1 [.slice (some ⟨w3.heap.size, 0, none⟩) 3 3] (by rfl) (by rfl) (news2 w3 _ _ 22) (by simp [Value.oneCell']) (by omega) (by have := ln.out; unfold maxLen; omega) (by have := ln.out; omega) (by omega) (w3.heap.size + 2) (by simp) ?_
           intro gg cap w5 hown1 hgrow hat hlt
           have kz : Hid (Chg NoB wr ((w3.alloc (.cells #[.string ⟨#[116, 111, 116, 97, 108]⟩, .string UB, .string AB] 9)).alloc (.cells #[.slice (some ⟨w3.heap.size, 0, none⟩) 3 3] 22))) := (k3w.out.alloc _).alloc _
           have hur : Row ((w3.alloc (.cells #[.string ⟨#[116, 111, 116, 97, 108]⟩, .string UB, .string AB] 9)).alloc (.cells #[.slice (some ⟨w3.heap.size, 0, none⟩) 3 3] 22)) 9 (.slice (some ⟨w3.heap.size, 0, none⟩) 3 3) ((totRow ls am).map tv) := by rw [htot'.out]; exact lit_row 9 [.string ⟨#[116, 111, 116, 97, 108]⟩, .string UB, .string AB] 3 rfl (by omega) ((Chg.refl NoB _).alloc _)
           have hrr5 := RR.grow hus2'.out hel2.out kz.out hur rfl (fun j hj hv => by have h1 := hrow'.out.lt hv; have h2 := k3w.out.size; rw [own_slice] at hj; omega) hown1 hgrow (hat.imp id fun h => by simp; omega)
           have q5 : Hid (Chg NoB w w5) := (kwr'.out.trans kz.out).trans' hrr5.2.1 (fun j b => .inr (hown'.out j b))
           have r5 := Hid.mk' hrr5.1
           have nm5 : Hid (Sl (w5.alloc (.cells #[.string ⟨#[111, 119, 110, 101, 114]⟩, .string ⟨#[117, 115, 97, 103, 101]⟩, .string ⟨#[97, 109, 111, 117, 110, 116]⟩] 9)) (.slice (some ⟨w5.heap.size, 0, none⟩) 3 3) ([ownW, usaW, amoW].map tv)) := (lit_row (w := w5) 9 [.string ⟨#[111, 119, 110, 101, 114]⟩, .string ⟨#[117, 115, 97, 103, 101]⟩, .string ⟨#[97, 109, 111, 117, 110, 116]⟩] 3 rfl (by omega) (Chg.refl _ _)).sl
           clear hrr5 hur)
        | (go_at_call 11; refine (c11.out _ _ _ nm5.out (r5.out.new ((Chg.refl _ _).alloc _)).sl2).mono ?_; rintro e w6 ⟨rfl, k6⟩; replace k6 := Hid.mk' k6))
      go_ret
      exact ⟨rfl, (q5.out.alloc _).trans k6.out⟩
end Go.Proofs.YtgnnjkmlnfdngaaDoor
