/- What Table of the reference returns. Conditions: at most 12 columns and 30 rows, cells of at most 100 bytes. -/
import Derived.Test.YtgnnjkmlnfdngaaDoorI
import Derived.Test.YtgnnjkmlnfdngaaDoorM
set_option linter.unusedVariables false
set_option linter.unusedSimpArgs false
namespace Go.Proofs.YtgnnjkmlnfdngaaDoor
open Go Go.RowKit

set_option maxHeartbeats 8000000 in
set_option maxRecDepth 100000 in
theorem Table11 (nmv rwv : Value) (names : List (List UInt8)) (rows : List (List (List UInt8))) (w : World) (hnm : Sl w nmv (names.map tv)) (hrw : Sl2 w rwv rows)
    (hn : names.length ≤ 12) (hr : rows.length ≤ 30) (hb : ∀ s ∈ names, s.length ≤ 100) (hc : ∀ r ∈ rows, ∀ s ∈ r, s.length ≤ 100) :
    Calls Tryd.prog 11 #[nmv, rwv] w fun e w' => e = .returned (tv (TableL names rows)) ∧ Chg NoB w w' := by
  obtain ⟨na, nn, nc, rfl, hnn⟩ := hnm.form'
  obtain ⟨ra, rn, rc, rfl, hrn⟩ := hrw.form'
  have hnn1 : nn = names.length := by have := hnn.out; simpa using this
  by_cases h0 : names = []
  · subst h0
    obtain rfl : nn = 0 := hnn1
    have hT : TableL [] rows = [] := rfl
    rw [hT]
    clear hnm hrw hn hr hb hc hnn hT hrn
    go_enter Tryd.func11, Tryd.ntmps11
    go_wp2
    go_ret
    exact ⟨rfl, Chg.refl _ _⟩
  have hTT : Hid (TableL names rows = tableL names rows) := by show _ = _; unfold TableL; rw [if_neg h0]
  rw [hTT.out]
  have z1 : (nn == 0) = false := by
    rw [beq_eq_false_iff_ne]
    intro h
    exact h0 (List.eq_nil_of_length_eq_zero (by omega))
  have z3 : ¬ nn = 0 := beq_eq_false_iff_ne.1 z1
  have z2 : ((nn : Int) == 0) = false := by rw [beq_eq_false_iff_ne]; omega
  have hnn2 : Hid (nn = names.length) := hnn1
  have hnm' := Hid.mk' hnm
  have hrw' := Hid.mk' hrw
  have hsz := Hid.mk' (And.intro hn hr)
  have hbc := Hid.mk' (And.intro hb hc)
  clear hnm hrw hn hr hb hc hnn h0 hnn1
  go_enter Tryd.func11, Tryd.ntmps11
  go_wp2_with fail
  go_loopg [5, 6, 7] nn (fun gq s6 s7 s17 wr => ∃ i v6 v7, i + gq = nn ∧ s6 = v6 ∧ s7 = v7 ∧ s17 = .int .i64 (i : Int) ∧ Row wr 3 v6 (((List.range i).map (widthL names rows)).map nv) ∧ Row wr 9 v7 (((List.range i).map fun k => ruleL (widthL names rows k)).map tv) ∧ (∀ k, own v6 k → w.heap.size ≤ k ∧ ¬ own v7 k) ∧ (∀ k, own v7 k → w.heap.size ≤ k) ∧ Chg NoB w wr)
  case atStart => exact ⟨0, _, _, by omega, rfl, rfl, rfl, Row.nil _ 3, Row.nil _ 9, fun k hk => (own_none 0 0 k hk).elim, fun k hk => (own_none 0 0 k hk).elim, Chg.refl _ _⟩
  case round =>
    obtain ⟨i, v6, v7, hg, rfl, rfl, rfl, r6, r7, o6, o7, kwr⟩ := hrel
    obtain ⟨a6, n6, c6, rfl, l6⟩ := r6.form'
    obtain ⟨a7, n7, c7, rfl, l7⟩ := r7.form'
    have r6' := Hid.mk' r6
    have r7' := Hid.mk' r7
    have o67 := Hid.mk' (And.intro o6 o7)
    have kwr' := Hid.mk' kwr
    clear r6 r7 o6 o7 kwr l6 l7
    by_cases hi : i < nn
    · have hsz1 := hsz.out
      have hnn3 := hnn2.out
      obtain ⟨x, hxx⟩ : ∃ x, cellL names i = x := ⟨_, rfl⟩
      have hx : (names.map tv)[i]? = some (tv x) := by rw [← hxx]; simp [cellL, List.getElem?_eq_getElem (by omega : i < names.length)]
      have hxl : x.length ≤ 100 := by rw [← hxx]; simp [cellL, List.getElem?_eq_getElem (by omega : i < names.length)]; exact hbc.out.1 _ (List.getElem_mem _)
      have hnr := hnm'.out.new kwr'.out
      obtain ⟨gn, on, rfl, hcn, -⟩ := hnr.at (by simp; omega)
      have c1 := hcn i _ hx
      have b1 : (i : Int) < (nn : Int) := by omega
      have b2 : i < nn := hi
      have sz : (bsOf x).size = x.length := size_bsOf x
      obtain ⟨X, hX⟩ : ∃ X, bsOf x = X := ⟨_, rfl⟩
      unfold tv at c1
      rw [hX] at c1 sz
      have hxx' := Hid.mk' hxx
      have hxl' := Hid.mk' hxl
      clear hsz1 hnn3 hx hnr hcn hX hxx hxl
      go_wp2_with fail
      go_loopg [8, 9] rn (fun gq s10 s26 wq => ∃ k, k + gq = rn ∧ s10 = .int .i64 ((mx (rows.take k) i x.length : Nat) : Int) ∧ s26 = .int .i64 (k : Int) ∧ wq = wr)
      case atStart => exact ⟨0, by omega, by rw [List.take_zero]; rfl, rfl, rfl⟩
      case round =>
        obtain ⟨k, hk, rfl, rfl, rfl⟩ := hrel
        have hrn2 := hrn.out
        have hsz1 := hsz.out
        by_cases hik : k < rn
        · obtain ⟨r, hr⟩ : ∃ r, rows[k]? = some r := ⟨_, List.getElem?_eq_getElem (by omega)⟩
          obtain ⟨gr, orr, rfl, hcr⟩ := (hrw'.out.new kwr'.out).at (by omega)
          obtain ⟨u, c2, hu⟩ := hcr k r hr
          obtain ⟨au, nu, cu, rfl, lu⟩ := hu.form'
          have c33 := Hid.mk' (cell26 _ r i _ hu)
          have hmx := mx_take rows i x.length k r hr
          have hm1 := mx_le rows i 100 (fun r hr => by
            unfold cellL
            rcases h : r[i]? with _ | s
            · simp
            · exact hbc.out.2 _ hr _ (List.mem_of_getElem? h)) x.length hxl'.out
          obtain ⟨L, hL⟩ : ∃ L, cellL r i = L := ⟨_, rfl⟩
          have sL : (bsOf L).size = L.length := size_bsOf L
          unfold tv at c33
          rw [hL] at c33 hmx
          obtain ⟨B, hB⟩ : ∃ B, bsOf L = B := ⟨_, rfl⟩
          rw [hB] at c33 sL
          obtain ⟨m, hm⟩ : ∃ m, mx (rows.take k) i x.length = m := ⟨_, rfl⟩
          rw [hm] at hmx
          rw [hm]
          have d1 : (k : Int) < (rn : Int) := by omega
          have d2 : k < rn := hik
          have n1 : IntKind.i64.wrap ((k : Int) + 1) = (k : Int) + 1 := by rw [IntKind.wrap_i64]; omega
          have hmx' := Hid.mk' hmx
          clear hrn2 hsz1 hr hcr hu lu hmx hm1 hL hB hm
          go_wp2_with (go_at_call 26; refine c33.out.mono ?_; rintro e w' ⟨rfl, rfl⟩)
          go_roundg (rn - (k + 1))
          case measure => omega
          case rel => exact ⟨k + 1, by omega, by rw [hmx'.out]; simp; omega, by simp, rfl⟩
        · obtain rfl : k = rn := by omega
          have d1 : ¬ ((k : Int) < (k : Int)) := by omega
          have hm1 := mx_le rows i 100 (fun r hr => by
            unfold cellL
            rcases h : r[i]? with _ | s
            · simp
            · exact hbc.out.2 _ hr _ (List.mem_of_getElem? h)) x.length hxl'.out
          obtain ⟨m, hm⟩ : ∃ m, mx rows i x.length = m := ⟨_, rfl⟩
          have hmw : Hid (widthL names rows i = m) := by show _ = _; unfold widthL; rw [hxx'.out, hm]
          rw [hm] at hm1
          rw [List.take_of_length_le (by omega), hm]
          have c27 : Hid (∀ w, Calls Tryd.prog 27 #[.string ⟨#[45]⟩, .int .i64 m] w fun e w' => e = .returned (tv (ruleL m)) ∧ w = w') := fun w => times27 45 m w (by omega)
          obtain ⟨R, hR⟩ : ∃ R, bsOf (ruleL m) = R := ⟨_, rfl⟩
          unfold tv at c27
          rw [hR] at c27
          have hR' := Hid.mk' hR
          have n1 : IntKind.i64.wrap ((i : Int) + 1) = (i : Int) + 1 := by rw [IntKind.wrap_i64]; have := hnn2.out; omega
          have ln : Hid (i ≤ 12) := by show _ ≤ _; have := hnn2.out; omega
          clear hrn2 hsz1 hm hm1 hR hik
          go_wp2_with (first
            | (go_at_call 27; refine (c27.out _).mono ?_; rintro e w2 ⟨rfl, rfl⟩)
            | (at_builtin; refine wpList_append_one _ rfl _ _ 43 3 (.int .i64 0) 8 rfl Tryd.underlying43 info3 rfl (.slice a6 n6 c6) (((List.range i).map (widthL names rows)).map nv) (.int .i64 m) rfl rfl r6'.out rfl (by have := ln.out; simp at this ⊢; omega) (by have := ln.out; simp at this ⊢; omega) ?_
               intro v5 w5 r5 o5 k5
               obtain ⟨b6, m6, d6, rfl, lv5⟩ := r5.form'
               have r7b : Hid (Row w5 9 (.slice a7 n7 c7) (((List.range i).map fun k => ruleL (widthL names rows k)).map tv)) := r7'.out.chg k5 fun j h7 h6 => (o67.out.1 j h6).2 h7
               have kb : Hid (Chg NoB w w5) := kwr'.out.trans' k5 fun j b => .inr (o67.out.1 j b).1
               have o6b : Hid (∀ j, own (.slice b6 m6 d6) j → w.heap.size ≤ j ∧ ¬ own (.slice a7 n7 c7) j) := fun j hj => (o5 j hj).elim (o67.out.1 j) fun h => ⟨Nat.le_trans kwr'.out.size h, fun h7 => by have := r7'.out.lt h7; omega⟩
               have r6b := Hid.mk' r5; clear o5 k5 lv5 r5)
            | (at_builtin; refine wpList_append_one _ rfl _ _ 22 9 (.string ⟨#[]⟩) 16 rfl Tryd.underlying22 info9 rfl (.slice a7 n7 c7) (((List.range i).map fun k => ruleL (widthL names rows k)).map tv) (.string R) rfl rfl r7b.out rfl (by have := ln.out; simp at this ⊢; omega) (by have := ln.out; simp at this ⊢; omega) ?_
               intro v5 w5 r5 o5 k5
               obtain ⟨b7, m7, d7, rfl, lv5⟩ := r5.form'
               have r6c := Hid.mk' (r6b.out.chg k5 fun j h6 h7 => (o6b.out j h6).2 h7)
               have o6c : Hid (∀ j, own (.slice b6 m6 d6) j → w.heap.size ≤ j ∧ ¬ own (.slice b7 m7 d7) j) := fun j hj => ⟨(o6b.out j hj).1, fun h7 => (o5 j h7).elim (o6b.out j hj).2 fun h => by have := r6b.out.lt hj; omega⟩
               have o7c : Hid (∀ j, own (.slice b7 m7 d7) j → w.heap.size ≤ j) := fun j hj => (o5 j hj).elim (o67.out.2 j) fun h => Nat.le_trans kb.out.size h
               have kc : Hid (Chg NoB w w5) := kb.out.trans' k5 fun j b => .inr (o67.out.2 j b)
               have r7c := Hid.mk' r5; clear o5 k5 lv5 r5))
          go_roundg (nn - (i + 1))
          case measure => omega
          case rel =>
            refine ⟨i + 1, _, _, by omega, rfl, rfl, by simp, ?_, ?_, o6c.out, o7c.out, kc.out⟩
            · have := r6c.out
              rw [List.range_succ, List.map_append, List.map_append, List.map_singleton, hmw.out]
              exact this
            · have := r7c.out
              rw [List.range_succ, List.map_append, List.map_append, List.map_singleton, hmw.out]
              unfold tv at this ⊢
              simpa [hR'.out] using this
    · obtain rfl : i = nn := by omega
      obtain ⟨wb, rfl⟩ : ∃ wb, wb = wr := ⟨_, rfl⟩
      have hnn3 := hnn2.out
      have hW : widthsL names rows = (List.range i).map (widthL names rows) := by unfold widthsL; rw [hnn3]
      have hR : rulesL names rows = (List.range i).map fun k => ruleL (widthL names rows k) := by unfold rulesL; rw [hnn3]
      obtain ⟨W, hWW⟩ : ∃ W, widthsL names rows = W := ⟨_, rfl⟩
      obtain ⟨U, hUU⟩ : ∃ U, rulesL names rows = U := ⟨_, rfl⟩
      have s6 : Sl wb (.slice a6 n6 c6) (W.map nv) := by rw [← hWW, hW]; exact r6'.out.sl
      have s7 : Sl wb (.slice a7 n7 c7) (U.map tv) := by rw [← hUU, hR]; exact r7'.out.sl
      have hok := widths_ok names rows hbc.out.1 hbc.out.2
      rw [hWW, hUU] at hok
      have hWl : W.length = i := by rw [← hWW]; unfold widthsL; rw [List.length_map, List.length_range, hnn3]
      have hsz1 := hsz.out
      have lay : ∀ (row : List (List UInt8)) rv, (∀ k x, W[k]? = some x → (cellL row k).length ≤ x ∧ x ≤ 1000) → Sl wb rv (row.map tv) → Calls Tryd.prog 28 #[rv, .slice a6 n6 c6] wb fun e w'' => e = .returned (tv (lineL W row)) ∧ wb = w'' := fun row rv hb hs =>
        line28 _ rv W row wb s6 hs (by omega) hb
      have lle : ∀ (row : List (List UInt8)), (∀ k x, W[k]? = some x → (cellL row k).length ≤ x ∧ x ≤ 1000) → (lineL W row).length ≤ 12025 := fun row hb => by have := laid_le W row hb; unfold lineL; rw [List.length_append, List.length_singleton]; omega
      have hokN : ∀ k x, W[k]? = some x → (cellL names k).length ≤ x ∧ x ≤ 1000 := fun k x h => ⟨(hok k x h).2.1, (hok k x h).1⟩
      have hokU : ∀ k x, W[k]? = some x → (cellL U k).length ≤ x ∧ x ≤ 1000 := fun k x h => ⟨(hok k x h).2.2.1, (hok k x h).1⟩
      have cN := Hid.mk' (lay names _ hokN (hnm'.out.new kwr'.out))
      have cU := Hid.mk' (lay U _ hokU s7)
      have lN := lle names hokN
      have lU := lle U hokU
      have hT : tableL names rows = lineL W names ++ lineL W U ++ (rows.map (lineL W)).flatten := by unfold tableL; rw [hWW, hUU]
      obtain ⟨LN, hLN⟩ : ∃ L, lineL W names = L := ⟨_, rfl⟩
      obtain ⟨LU, hLU⟩ : ∃ L, lineL W U = L := ⟨_, rfl⟩
      rw [hLN] at cN lN hT
      rw [hLU] at cU lU hT
      obtain ⟨BN, hBN⟩ : ∃ BN, bsOf LN = BN := ⟨_, rfl⟩
      obtain ⟨BU, hBU⟩ : ∃ BU, bsOf LU = BU := ⟨_, rfl⟩
      have sN : BN.size = LN.length := by rw [← hBN, size_bsOf]
      have sU : BU.size = LU.length := by rw [← hBU, size_bsOf]
      have hB2 : Hid (BN ++ BU = bsOf (LN ++ LU)) := by show _ = _; rw [← hBN, ← hBU, bsOf_add]
      unfold tv at cN cU
      rw [hBN] at cN
      rw [hBU] at cU
      have hT' := Hid.mk' hT
      have lay' := Hid.mk' lay
      have lle' := Hid.mk' lle
      have l2 : Hid (LN.length + LU.length ≤ 24050) := by show _ ≤ _; omega
      have hok' := Hid.mk' hok
      have b0 : LN.length + LU.length ≤ 9223372036854775807 := by omega
      have b1 : ¬ ((i : Int) < (i : Int)) := by omega
      clear hnn3 hW hR hWW hUU s6 s7 hok hWl hsz1 lay lle hBN hBU hLN hLU lN lU hokN hokU hT hi
      go_wp2_with (first
        | (go_at_call_of 28 (Value.slice na i nc); refine cN.out.mono ?_; rintro e w' ⟨rfl, rfl⟩)
        | (go_at_call_of 28 (Value.slice a7 n7 c7); refine cU.out.mono ?_; rintro e w' ⟨rfl, rfl⟩))
      go_loopg [10, 11] rn (fun gq s10 s11 w' => ∃ k B, k + gq = rn ∧ s11 = .int .i64 (k : Int) ∧ s10 = .string B ∧ Hid (B = bsOf (LN ++ LU ++ ((rows.take k).map (lineL W)).flatten)) ∧ w' = wb)
      case atStart => exact ⟨0, _, by omega, rfl, rfl, by show _ = _; rw [hB2.out]; simp, rfl⟩
      case round =>
        obtain ⟨k, B, hk, rfl, rfl, hB, rfl⟩ := hrel
        have hrn2 := hrn.out
        have hsz1 := hsz.out
        by_cases hik : k < rn
        · obtain ⟨r, hr⟩ : ∃ r, rows[k]? = some r := ⟨_, List.getElem?_eq_getElem (by omega)⟩
          obtain ⟨gr, orr, rfl, hcr⟩ := (hrw'.out.new kwr'.out).at (by omega)
          obtain ⟨u, c2, hu⟩ := hcr k r hr
          obtain ⟨au, nu, cu, rfl, lu⟩ := hu.form'
          have hmem : r ∈ rows := List.mem_of_getElem? hr
          have hokR : ∀ k x, W[k]? = some x → (cellL r k).length ≤ x ∧ x ≤ 1000 := fun k x h => ⟨(hok'.out k x h).2.2.2 r hmem, (hok'.out k x h).1⟩
          have lT : ∀ q : List (List (List UInt8)), (∀ r ∈ q, r ∈ rows) → ((q.map (lineL W)).flatten).length ≤ q.length * 12025 := fun q hq => by
            induction q with
            | nil => simp
            | cons a q ih =>
              have := ih fun r h => hq r (List.mem_cons_of_mem _ h)
              have h2 := lle'.out a fun k x h => ⟨(hok'.out k x h).2.2.2 a (hq a (List.mem_cons_self ..)), (hok'.out k x h).1⟩
              simp only [List.map_cons, List.flatten_cons, List.length_append, List.length_cons]
              omega
          obtain ⟨t, ht⟩ : ∃ t, LN ++ LU ++ ((rows.take k).map (lineL W)).flatten = t := ⟨_, rfl⟩
          have lt : t.length ≤ 400000 := by
            have h1 := lT (rows.take k) fun r h => List.mem_of_mem_take h
            have h2 := l2.out
            rw [← ht, List.length_append, List.length_append]
            rw [List.length_take] at h1
            have : min k rows.length ≤ 30 := by omega
            have h3 : min k rows.length * 12025 ≤ 30 * 12025 := Nat.mul_le_mul_right _ this
            omega
          have lr := lle'.out r hokR
          have cR := Hid.mk' (lay'.out r _ hokR hu)
          obtain ⟨L, hL⟩ : ∃ L, lineL W r = L := ⟨_, rfl⟩
          obtain ⟨C, hC⟩ : ∃ C, bsOf L = C := ⟨_, rfl⟩
          unfold tv at cR
          rw [hL] at lr
          rw [hL, hC] at cR
          have hTT : Hid (B ++ C = bsOf (LN ++ LU ++ ((rows.take (k + 1)).map (lineL W)).flatten)) := by
            show _ = _
            rw [hB.out, ← hC, bsOf_add, List.take_add_one, hr]
            simp [hL]
          have sB : B.size = t.length := by rw [hB.out, ht, size_bsOf]
          have sC : C.size = L.length := by rw [← hC, size_bsOf]
          have n1 : IntKind.i64.wrap ((k : Int) + 1) = (k : Int) + 1 := by rw [IntKind.wrap_i64]; omega
          have d1 : (k : Int) < (rn : Int) := by omega
          have d2 : k < rn := hik
          have d3 : t.length + L.length ≤ 9223372036854775807 := by omega
          clear hrn2 hsz1 hr hcr hu lu hmem hokR hL hC lT lt lr hB ht
          go_wp2_with (go_at_call 28; refine cR.out.mono ?_; rintro e w' ⟨rfl, rfl⟩)
          go_roundg (rn - (k + 1))
          case measure => omega
          case rel => exact ⟨k + 1, _, by omega, by simp, rfl, hTT, rfl⟩
        · obtain rfl : k = rn := by omega
          have d1 : ¬ ((k : Int) < (k : Int)) := by omega
          have hfin : Hid (B = bsOf (tableL names rows)) := by
            show _ = _
            rw [hB.out, List.take_of_length_le (by omega), hT'.out]
          clear hrn2 hsz1 hik hB
          go_wp2_with fail
          go_ret
          exact ⟨by unfold tv; rw [← hfin.out]; rfl, kwr'.out⟩
end Go.Proofs.YtgnnjkmlnfdngaaDoor
