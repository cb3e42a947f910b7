/- What table writes. Conditions: at most 12 columns and 30 rows, cells of at most 100 bytes. -/
import Derived.Test.YtgnnjkmlnfdngaaDoorG
set_option linter.unusedVariables false
set_option linter.unusedSimpArgs false
namespace Go.Proofs.YtgnnjkmlnfdngaaDoor
open Go Go.RowKit

theorem Sl2.form' {w : World} {v : Value} {xs : List (List (List UInt8))} (h : Sl2 w v xs) : ∃ a n c, v = .slice a n c ∧ Hid (n = xs.length) := by
  obtain ⟨us, h1, h2, h3⟩ := h
  obtain ⟨a, n, c, rfl, hn⟩ := h2.form'
  exact ⟨a, n, c, rfl, by show _ = _; rw [← h1]; exact hn.out⟩
theorem Sl2.at {w : World} {a : Option Addr} {n c : Nat} {xs : List (List (List UInt8))} (h : Sl2 w (.slice a n c) xs) (hp : 0 < xs.length) :
    ∃ g o, a = some ⟨g, o, none⟩ ∧ ∀ (j : Nat) r, xs[j]? = some r → ∃ u, w.cell? ⟨g, o + j, none⟩ = some u ∧ Sl w u (r.map tv) := by
  obtain ⟨us, h1, h2, h3⟩ := h
  obtain ⟨g, o, rfl, hc, -⟩ := h2.at (by omega)
  refine ⟨g, o, rfl, fun j r hj => ?_⟩
  have hlt := (List.getElem?_eq_some_iff.1 hj).1
  have hu : us[j]? = some (us[j]'(by omega)) := by simp [List.getElem?_eq_getElem (by omega : j < us.length)]
  exact ⟨_, hc j _ hu, h3 j _ r hu hj⟩

set_option maxHeartbeats 8000000 in
set_option maxRecDepth 100000 in
theorem table25 (g : Nat) (v nmv rwv : Value) (l : List UInt8) (names : List (List UInt8)) (rows : List (List (List UInt8))) (w0 w : World) (hs : SheetAt w g v l) (hnm : Sl w0 nmv (names.map tv)) (hrw : Sl2 w0 rwv rows) (k0 : Chg NoB w0 w) (hg : w0.heap.size ≤ g) (hv : ∀ k, own v k → w0.heap.size ≤ k)
    (hn : names.length ≤ 12) (hr : rows.length ≤ 30) (hb : ∀ s ∈ names, s.length ≤ 100) (hc : ∀ r ∈ rows, ∀ s ∈ r, s.length ≤ 100) (hl : l.length ≤ 100) :
    Calls Tryd.prog 25 #[.iface 49 (.pointer (some ⟨g, 0, none⟩)), nmv, rwv] w fun e w' => e = .returned (.tuple #[]) ∧ (∃ v', SheetAt w' g v' (l ++ tableL names rows) ∧ ∀ k, own v' k → w0.heap.size ≤ k) ∧ Chg NoB w0 w' := by
  obtain ⟨na, nn, nc, rfl, hnn⟩ := hnm.form'
  obtain ⟨ra, rn, rc, rfl, hrn⟩ := hrw.form'
  have hnn2 : Hid (nn = names.length) := by show _ = _; have := hnn.out; simpa using this
  have hnm' := Hid.mk' hnm
  have hrw' := Hid.mk' hrw
  have k0' := Hid.mk' k0
  have hs' := Hid.mk' hs
  have hgv := Hid.mk' (And.intro hg hv)
  have hsz := Hid.mk' (And.intro hn (And.intro hr hl))
  have hbc := Hid.mk' (And.intro hb hc)
  clear hs hnm hrw k0 hg hv hn hr hb hc hl hnn
  go_enter Tryd.func25, Tryd.ntmps25
  go_wp2_with fail
  go_loopg [6, 7, 17] nn (fun gq s6 s7 s17 wr => ∃ i v6 v7, i + gq = nn ∧ s6 = v6 ∧ s7 = v7 ∧ s17 = .int .i64 (i : Int) ∧ Row wr 3 v6 (((List.range i).map (widthL names rows)).map nv) ∧ Row wr 9 v7 (((List.range i).map fun k => ruleL (widthL names rows k)).map tv) ∧ (∀ k, own v6 k → w.heap.size ≤ k ∧ ¬ own v7 k) ∧ (∀ k, own v7 k → w.heap.size ≤ k) ∧ Chg NoB w wr)
  case atStart => exact ⟨0, _, _, by omega, rfl, rfl, rfl, Row.nil _ 3, Row.nil _ 9, fun k hk => (own_none 0 0 k hk).elim, fun k hk => (own_none 0 0 k hk).elim, Chg.refl _ _⟩
  case round =>
    obtain ⟨i, v6, v7, hg, rfl, rfl, rfl, r6, r7, o6, o7, kwr⟩ := hrel
    obtain ⟨a6, n6, c6, rfl, l6⟩ := r6.form'
    obtain ⟨a7, n7, c7, rfl, l7⟩ := r7.form'
    have r6' := Hid.mk' r6
    have r7' := Hid.mk' r7
    have o67 := Hid.mk' (And.intro o6 o7)
    have kwr' := Hid.mk' kwr
    clear r6 r7 o6 o7 kwr l6 l7
    by_cases hi : i < nn
    · have hsz1 := hsz.out
      have hnn3 := hnn2.out
      obtain ⟨x, hxx⟩ : ∃ x, cellL names i = x := ⟨_, rfl⟩
      have hx : (names.map tv)[i]? = some (tv x) := by rw [← hxx]; simp [cellL, List.getElem?_eq_getElem (by omega : i < names.length)]
      have hxl : x.length ≤ 100 := by rw [← hxx]; simp [cellL, List.getElem?_eq_getElem (by omega : i < names.length)]; exact hbc.out.1 _ (List.getElem_mem _)
      have hnr := (hnm'.out.new k0'.out).new kwr'.out
      obtain ⟨gn, on, rfl, hcn, -⟩ := hnr.at (by simp; omega)
      have c1 := hcn i _ hx
      have b1 : (i : Int) < (nn : Int) := by omega
      have b2 : i < nn := hi
      have sz : (bsOf x).size = x.length := size_bsOf x
      obtain ⟨X, hX⟩ : ∃ X, bsOf x = X := ⟨_, rfl⟩
      unfold tv at c1
      rw [hX] at c1 sz
      have hxx' := Hid.mk' hxx
      have hxl' := Hid.mk' hxl
      clear hsz1 hnn3 hx hnr hcn hX hxx hxl
      go_wp2_with fail
      go_loopg [10, 26] rn (fun gq s10 s26 wq => ∃ k, k + gq = rn ∧ s10 = .int .i64 ((mx (rows.take k) i x.length : Nat) : Int) ∧ s26 = .int .i64 (k : Int) ∧ wq = wr)
      case atStart => exact ⟨0, by omega, by rw [List.take_zero]; rfl, rfl, rfl⟩
      case round =>
        obtain ⟨k, hk, rfl, rfl, rfl⟩ := hrel
        have hrn2 := hrn.out
        have hsz1 := hsz.out
        by_cases hik : k < rn
        · obtain ⟨r, hr⟩ : ∃ r, rows[k]? = some r := ⟨_, List.getElem?_eq_getElem (by omega)⟩
          obtain ⟨gr, orr, rfl, hcr⟩ := ((hrw'.out.new k0'.out).new kwr'.out).at (by omega)
          obtain ⟨u, c2, hu⟩ := hcr k r hr
          obtain ⟨au, nu, cu, rfl, lu⟩ := hu.form'
          have c33 := Hid.mk' (cell33 _ r i _ hu)
          have hmx := mx_take rows i x.length k r hr
          have hm1 := mx_le rows i 100 (fun r hr => by
            unfold cellL
            rcases h : r[i]? with _ | s
            · simp
            · exact hbc.out.2 _ hr _ (List.mem_of_getElem? h)) x.length hxl'.out
          obtain ⟨L, hL⟩ : ∃ L, cellL r i = L := ⟨_, rfl⟩
          have sL : (bsOf L).size = L.length := size_bsOf L
          unfold tv at c33
          rw [hL] at c33 hmx
          obtain ⟨B, hB⟩ : ∃ B, bsOf L = B := ⟨_, rfl⟩
          rw [hB] at c33 sL
          obtain ⟨m, hm⟩ : ∃ m, mx (rows.take k) i x.length = m := ⟨_, rfl⟩
          rw [hm] at hmx
          rw [hm]
          have d1 : (k : Int) < (rn : Int) := by omega
          have d2 : k < rn := hik
          have n1 : IntKind.i64.wrap ((k : Int) + 1) = (k : Int) + 1 := by rw [IntKind.wrap_i64]; omega
          have hmx' := Hid.mk' hmx
          clear hrn2 hsz1 hr hcr hu lu hmx hm1 hL hB hm
          go_wp2_with (go_at_call 33; refine c33.out.mono ?_; rintro e w' ⟨rfl, rfl⟩)
          go_roundg (rn - (k + 1))
          case measure => omega
          case rel => exact ⟨k + 1, by omega, by rw [hmx'.out]; simp; omega, by simp, rfl⟩
        · obtain rfl : k = rn := by omega
          have d1 : ¬ ((k : Int) < (k : Int)) := by omega
          have hm1 := mx_le rows i 100 (fun r hr => by
            unfold cellL
            rcases h : r[i]? with _ | s
            · simp
            · exact hbc.out.2 _ hr _ (List.mem_of_getElem? h)) x.length hxl'.out
          obtain ⟨m, hm⟩ : ∃ m, mx rows i x.length = m := ⟨_, rfl⟩
          have hmw : Hid (widthL names rows i = m) := by show _ = _; unfold widthL; rw [hxx'.out, hm]
          rw [hm] at hm1
          rw [List.take_of_length_le (by omega), hm]
          have c34 : Hid (∀ w, Calls Tryd.prog 34 #[.string ⟨#[45]⟩, .int .i64 m] w fun e w' => e = .returned (tv (ruleL m)) ∧ Chg NoB w w') := fun w => repeat34 45 m w (by omega)
          obtain ⟨R, hR⟩ : ∃ R, bsOf (ruleL m) = R := ⟨_, rfl⟩
          unfold tv at c34
          rw [hR] at c34
          have hR' := Hid.mk' hR
          have n1 : IntKind.i64.wrap ((i : Int) + 1) = (i : Int) + 1 := by rw [IntKind.wrap_i64]; have := hnn2.out; omega
          have ln : Hid (i ≤ 12) := by show _ ≤ _; have := hnn2.out; omega
          clear hrn2 hsz1 hm hm1 hR hik
          go_wp2_with (first
            | (go_at_call 34; refine (c34.out _).mono ?_; rintro e w2 ⟨rfl, k2⟩; replace r7b := Hid.mk' (r7b.out.chg k2 fun _ _ h => h); replace r6b := Hid.mk' (r6b.out.chg k2 fun _ _ h => h); replace kb := Hid.mk' (kb.out.trans k2); clear k2)
            | (at_builtin; refine wpList_append_one _ rfl _ _ 43 3 (.int .i64 0) 8 rfl Tryd.underlying43 info3 rfl (.slice a6 n6 c6) (((List.range i).map (widthL names rows)).map nv) (.int .i64 m) rfl rfl r6'.out rfl (by have := ln.out; simp at this ⊢; omega) (by have := ln.out; simp at this ⊢; omega) ?_
               intro v5 w5 r5 o5 k5
               obtain ⟨b6, m6, d6, rfl, lv5⟩ := r5.form'
               have r7b : Hid (Row w5 9 (.slice a7 n7 c7) (((List.range i).map fun k => ruleL (widthL names rows k)).map tv)) := r7'.out.chg k5 fun j h7 h6 => (o67.out.1 j h6).2 h7
               have kb : Hid (Chg NoB w w5) := kwr'.out.trans' k5 fun j b => .inr (o67.out.1 j b).1
               have o6b : Hid (∀ j, own (.slice b6 m6 d6) j → w.heap.size ≤ j ∧ ¬ own (.slice a7 n7 c7) j) := fun j hj => (o5 j hj).elim (o67.out.1 j) fun h => ⟨Nat.le_trans kwr'.out.size h, fun h7 => by have := r7'.out.lt h7; omega⟩
               have r6b := Hid.mk' r5; clear o5 k5 lv5 r5)
            | (at_builtin; refine wpList_append_one _ rfl _ _ 22 9 (.string ⟨#[]⟩) 16 rfl Tryd.underlying22 info9 rfl (.slice a7 n7 c7) (((List.range i).map fun k => ruleL (widthL names rows k)).map tv) (.string R) rfl rfl r7b.out rfl (by have := ln.out; simp at this ⊢; omega) (by have := ln.out; simp at this ⊢; omega) ?_
               intro v5 w5 r5 o5 k5
               obtain ⟨b7, m7, d7, rfl, lv5⟩ := r5.form'
               have r6c := Hid.mk' (r6b.out.chg k5 fun j h6 h7 => (o6b.out j h6).2 h7)
               have o6c : Hid (∀ j, own (.slice b6 m6 d6) j → w.heap.size ≤ j ∧ ¬ own (.slice b7 m7 d7) j) := fun j hj => ⟨(o6b.out j hj).1, fun h7 => (o5 j h7).elim (o6b.out j hj).2 fun h => by have := r6b.out.lt hj; omega⟩
               have o7c : Hid (∀ j, own (.slice b7 m7 d7) j → w.heap.size ≤ j) := fun j hj => (o5 j hj).elim (o67.out.2 j) fun h => Nat.le_trans kb.out.size h
               have kc : Hid (Chg NoB w w5) := kb.out.trans' k5 fun j b => .inr (o67.out.2 j b)
               have r7c := Hid.mk' r5; clear o5 k5 lv5 r5))
          go_roundg (nn - (i + 1))
          case measure => omega
          case rel =>
            refine ⟨i + 1, _, _, by omega, rfl, rfl, by simp, ?_, ?_, o6c.out, o7c.out, kc.out⟩
            · have := r6c.out
              rw [List.range_succ, List.map_append, List.map_append, List.map_singleton, hmw.out]
              exact this
            · have := r7c.out
              rw [List.range_succ, List.map_append, List.map_append, List.map_singleton, hmw.out]
              unfold tv at this ⊢
              simpa [hR'.out] using this
    · obtain rfl : i = nn := by omega
      obtain ⟨wb, rfl⟩ : ∃ wb, wb = wr := ⟨_, rfl⟩
      have hnn3 := hnn2.out
      have hW : widthsL names rows = (List.range i).map (widthL names rows) := by unfold widthsL; rw [hnn3]
      have hR : rulesL names rows = (List.range i).map fun k => ruleL (widthL names rows k) := by unfold rulesL; rw [hnn3]
      obtain ⟨W, hWW⟩ : ∃ W, widthsL names rows = W := ⟨_, rfl⟩
      obtain ⟨U, hUU⟩ : ∃ U, rulesL names rows = U := ⟨_, rfl⟩
      have s6 : Sl wb (.slice a6 n6 c6) (W.map nv) := by rw [← hWW, hW]; exact r6'.out.sl
      have s7 : Sl wb (.slice a7 n7 c7) (U.map tv) := by rw [← hUU, hR]; exact r7'.out.sl
      have ph0 : Hid (PH wb g v l wb) := PH.start (hs'.out.chg kwr'.out (fun h => h) fun _ _ h => h)
      have hok := widths_ok names rows hbc.out.1 hbc.out.2
      rw [hWW, hUU] at hok
      have hWl : W.length = i := by rw [← hWW]; unfold widthsL; rw [List.length_map, List.length_range, hnn3]
      have hsz1 := hsz.out
      have dis6 : ∀ k, own (.slice a6 n6 c6) k → ¬ (k = g ∨ own v k) := fun k hk h => by
        have := (o67.out.1 k hk).1
        rcases h with rfl | h
        · have := hs'.out.lt; omega
        · obtain ⟨_, _, _, h3⟩ := hs'.out; have := h3.lt h; omega
      have dis7 : ∀ k, own (.slice a7 n7 c7) k → ¬ (k = g ∨ own v k) := fun k hk h => by
        have := o67.out.2 k hk
        rcases h with rfl | h
        · have := hs'.out.lt; omega
        · obtain ⟨_, _, _, h3⟩ := hs'.out; have := h3.lt h; omega
      have base : ∀ t w', PH wb g v t w' → Chg NoB w0 w' := fun t w' h => by
        obtain ⟨_, _, _, h⟩ := h
        refine (k0'.out.trans kwr'.out).trans' h fun k hk => .inr ?_
        rcases hk with rfl | h
        · exact hgv.out.1
        · exact hgv.out.2 k h
      have lay : ∀ (row : List (List UInt8)) rv t w', (∀ k x, W[k]? = some x → (cellL row k).length ≤ x ∧ x ≤ 1000) → PH wb g v t w' → Sl w' rv (row.map tv) → Calls Tryd.prog 35 #[.slice a6 n6 c6, rv] w' fun e w'' => e = .returned (tv (laidL W row)) ∧ PH wb g v t w'' := fun row rv t w' hb hp hs =>
        (laid35 _ rv W row w' (hp.sl s6 dis6) hs (by omega) hb).mono fun e w'' h => ⟨h.1, hp.new h.2⟩
      have lle : ∀ (row : List (List UInt8)), (∀ k x, W[k]? = some x → (cellL row k).length ≤ x ∧ x ≤ 1000) → (laidL W row).length ≤ 12024 := fun row hb => by have := laid_le W row hb; omega
      obtain ⟨BN, hBN⟩ : ∃ BN, bsOf (laidL W names) = BN := ⟨_, rfl⟩
      obtain ⟨BU, hBU⟩ : ∃ BU, bsOf (laidL W U) = BU := ⟨_, rfl⟩
      obtain ⟨T1, hT1⟩ : ∃ T1, l ++ laidL W names ++ [10] = T1 := ⟨_, rfl⟩
      obtain ⟨T2, hT2⟩ : ∃ T2, T1 ++ laidL W U ++ [10] = T2 := ⟨_, rfl⟩
      have hokN : ∀ k x, W[k]? = some x → (cellL names k).length ≤ x ∧ x ≤ 1000 := fun k x h => ⟨(hok k x h).2.1, (hok k x h).1⟩
      have hokU : ∀ k x, W[k]? = some x → (cellL U k).length ≤ x ∧ x ≤ 1000 := fun k x h => ⟨(hok k x h).2.2.1, (hok k x h).1⟩
      have lT1 : T1.length ≤ 12200 := by rw [← hT1]; have := lle names hokN; simp; omega
      have lT2 : T2.length ≤ 24400 := by rw [← hT2]; have := lle U hokU; simp; omega
      have cN : Hid (∀ w', PH wb g v l w' → Calls Tryd.prog 35 #[.slice a6 n6 c6, .slice na i nc] w' fun e w'' => e = .returned (.string BN) ∧ PH wb g v l w'') := fun w' hp => by
        have := lay names _ l w' hokN hp (hnm'.out.new (base _ _ hp))
        unfold tv at this; rwa [hBN] at this
      have cN2 : Hid (∀ w', PH wb g v l w' → Calls Tryd.prog 98 #[.pointer (some ⟨g, 0, none⟩), .string BN] w' fun e w'' => e = .returned (.tuple #[]) ∧ PH wb g v T1 w'') := fun w' hp => by
        have := hp.line (laidL W names) (by have := lle names hokN; omega)
        unfold tv at this; rwa [hBN, hT1] at this
      have cU : Hid (∀ w', PH wb g v T1 w' → Calls Tryd.prog 35 #[.slice a6 n6 c6, .slice a7 n7 c7] w' fun e w'' => e = .returned (.string BU) ∧ PH wb g v T1 w'') := fun w' hp => by
        have := lay U _ T1 w' hokU hp (hp.sl s7 dis7)
        unfold tv at this; rwa [hBU] at this
      have cU2 : Hid (∀ w', PH wb g v T1 w' → Calls Tryd.prog 98 #[.pointer (some ⟨g, 0, none⟩), .string BU] w' fun e w'' => e = .returned (.tuple #[]) ∧ PH wb g v T2 w'') := fun w' hp => by
        have := hp.line (laidL W U) (by have := lle U hokU; omega)
        unfold tv at this; rwa [hBU, hT2] at this
      have hT : tableL names rows = laidL W names ++ [10] ++ (laidL W U ++ [10]) ++ (rows.map (lineL W)).flatten := by unfold tableL lineL; rw [hWW, hUU]
      have hT' := Hid.mk' hT
      have hT1' := Hid.mk' hT1
      have hT2' := Hid.mk' hT2
      have base' := Hid.mk' base
      have lay' := Hid.mk' lay
      have lle' := Hid.mk' lle
      have lT2' := Hid.mk' lT2
      have hok' := Hid.mk' hok
      have nl := nil_line
      have ml := method_line
      have b1 : ¬ ((i : Int) < (i : Int)) := by omega
      clear hnn3 hW hR hWW hUU s6 s7 hok hWl hsz1 dis6 dis7 base lay lle hBN hBU hT1 hT2 hokN hokU lT1 lT2 hT hi
      go_wp2_with fail
      go_region_with (first
        | (go_at_call 35; refine (cN.out _ (by first | exact ph0.out | exact ph0.out.drew)).mono ?_; rintro e w1 ⟨rfl, p1⟩; replace p1 := Hid.mk' p1)
        | (go_at_call 98; refine (cN2.out _ (by first | exact p1.out | exact p1.out.drew)).mono ?_; rintro e w1 ⟨rfl, p2⟩; replace p2 := Hid.mk' p2))
      all_goals
        go_wp2_with fail
        go_region_with (first
          | (go_at_call 35; refine (cU.out _ (by first | exact p2.out | exact p2.out.drew)).mono ?_; rintro e w1 ⟨rfl, p3⟩; replace p3 := Hid.mk' p3)
          | (go_at_call 98; refine (cU2.out _ (by first | exact p3.out | exact p3.out.drew)).mono ?_; rintro e w1 ⟨rfl, p4⟩; replace p4 := Hid.mk' p4))
      all_goals
        go_wp2_with fail
        go_loopg [65] rn (fun gq s65 w' => ∃ k t, k + gq = rn ∧ s65 = .int .i64 (k : Int) ∧ PH wb g v t w' ∧ t = T2 ++ ((rows.take k).map (lineL W)).flatten)
        case atStart => exact ⟨0, T2, by omega, rfl, p4.out, by simp⟩
        case round =>
          obtain ⟨k, t, hk, rfl, hp, ht⟩ := hrel
          have hp' := Hid.mk' hp
          have ht' := Hid.mk' ht
          have hrn2 := hrn.out
          have hsz1 := hsz.out
          by_cases hik : k < rn
          · obtain ⟨r, hr⟩ : ∃ r, rows[k]? = some r := ⟨_, List.getElem?_eq_getElem (by omega)⟩
            have kb := base'.out _ _ hp
            obtain ⟨gr, orr, rfl, hcr⟩ := (hrw'.out.new kb).at (by omega)
            obtain ⟨u, c2, hu⟩ := hcr k r hr
            obtain ⟨au, nu, cu, rfl, lu⟩ := hu.form'
            have hmem : r ∈ rows := List.mem_of_getElem? hr
            have hokR : ∀ k x, W[k]? = some x → (cellL r k).length ≤ x ∧ x ≤ 1000 := fun k x h => ⟨(hok'.out k x h).2.2.2 r hmem, (hok'.out k x h).1⟩
            obtain ⟨B, hB⟩ : ∃ B, bsOf (laidL W r) = B := ⟨_, rfl⟩
            obtain ⟨T, hT⟩ : ∃ T, t ++ laidL W r ++ [10] = T := ⟨_, rfl⟩
            have lT : ∀ q : List (List (List UInt8)), (∀ r ∈ q, r ∈ rows) → ((q.map (lineL W)).flatten).length ≤ q.length * 12025 := fun q hq => by
              induction q with
              | nil => simp
              | cons a q ih =>
                have := ih fun r h => hq r (List.mem_cons_of_mem _ h)
                have h2 := lle'.out a fun k x h => ⟨(hok'.out k x h).2.2.2 a (hq a (List.mem_cons_self ..)), (hok'.out k x h).1⟩
                simp only [List.map_cons, List.flatten_cons, List.length_append, List.length_cons]
                unfold lineL
                rw [List.length_append, List.length_singleton]
                unfold lineL at this
                omega
            have lt : t.length ≤ 400000 := by
              have h1 := lT (rows.take k) fun r h => List.mem_of_mem_take h
              have h2 := lT2'.out
              rw [ht, List.length_append]
              rw [List.length_take] at h1
              have : min k rows.length ≤ 30 := by omega
              have h3 : min k rows.length * 12025 ≤ 30 * 12025 := Nat.mul_le_mul_right _ this
              omega
            have cR : Hid (∀ w', PH wb g v t w' → Chg NoB wr w' → Calls Tryd.prog 35 #[.slice a6 n6 c6, .slice au nu cu] w' fun e w'' => e = .returned (.string B) ∧ PH wb g v t w'') := fun w' hp2 kk => by
              have := lay'.out r _ t w' hokR hp2 (hu.new kk)
              unfold tv at this; rwa [hB] at this
            have cR2 : Hid (∀ w', PH wb g v t w' → Calls Tryd.prog 98 #[.pointer (some ⟨g, 0, none⟩), .string B] w' fun e w'' => e = .returned (.tuple #[]) ∧ PH wb g v T w'') := fun w' hp => by
              have := hp.line (laidL W r) (by have := lle'.out r hokR; omega)
              unfold tv at this; rwa [hB, hT] at this
            have hTT : Hid (T = T2 ++ ((rows.take (k + 1)).map (lineL W)).flatten) := by
              show _ = _
              rw [← hT, ht, List.take_add_one, hr]
              simp [lineL]
            have n1 : IntKind.i64.wrap ((k : Int) + 1) = (k : Int) + 1 := by rw [IntKind.wrap_i64]; omega
            have d1 : (k : Int) < (rn : Int) := by omega
            have d2 : k < rn := hik
            clear hp ht hrn2 hsz1 hr kb hcr hu lu hmem hokR hB hT lT lt
            go_wp2_with fail
            go_region_with (first
              | (go_at_call 35; refine (cR.out _ (by first | exact hp'.out | exact hp'.out.drew) (by first | exact Chg.refl _ _ | exact (Chg.refl _ _).drew)).mono ?_; rintro e w1 ⟨rfl, p5⟩; replace p5 := Hid.mk' p5)
              | (go_at_call 98; refine (cR2.out _ (by first | exact p5.out | exact p5.out.drew)).mono ?_; rintro e w1 ⟨rfl, p6⟩; replace p6 := Hid.mk' p6))
            all_goals
              go_wp2_with fail
              go_roundg (rn - (k + 1))
              case measure => omega
              case rel => exact ⟨k + 1, T, by omega, by simp, p6.out, hTT.out⟩
          · obtain rfl : k = rn := by omega
            have d1 : ¬ ((k : Int) < (k : Int)) := by omega
            have hfin : Hid (t = l ++ tableL names rows) := by
              show _ = _
              rw [ht, List.take_of_length_le (by omega), hT'.out, ← hT2'.out, ← hT1'.out]
              simp
            clear ht hp hrn2 hsz1 hik
            go_wp2_with fail
            go_end0
            refine ⟨rfl, ?_, base'.out _ _ hp'.out⟩
            obtain ⟨v', h1, h2, -⟩ := hp'.out
            exact ⟨v', by rw [← hfin.out]; exact h1, fun k hk => (h2 k hk).elim (hgv.out.2 k) fun h => Nat.le_trans (k0'.out.trans kwr'.out).size h⟩
end Go.Proofs.YtgnnjkmlnfdngaaDoor
