/- The law ReportAccounts returns true: the walk. No conditions but the laid tables. -/
import Derived.Test.YtgnnjkmlnfdngaaDoorAg
import Derived.Test.YtgnnjkmlnfdngaaDoorAh
import Derived.Test.YtgnnjkmlnfdngaaDoorW
import Derived.Test.YtgnnjkmlnfdngaaDoorY3
set_option linter.unusedVariables false
set_option linter.unusedSimpArgs false
namespace Go.Proofs.YtgnnjkmlnfdngaaDoor
open Go Go.RowKit Go.Sort

def shortLn (x : Line) : Line := (shortL x.1, x.2)
def cell2 (x : Line) : List Value := [tv x.1, .int .i64 x.2]
def cellsL (ls : List Line) : List Value := (ls.map cell2).flatten
theorem cellsL_at (ps : List Line) : ∀ (j : Nat) (p : Line), ps[j]? = some p → ∀ k, k < 2 → (cellsL ps)[j * 2 + k]? = (cell2 p)[k]? := by
  induction ps with
  | nil => intro j p h; simp at h
  | cons q ps ih =>
    intro j p h k hk
    have hl : (cell2 q).length = 2 := rfl
    have e : cellsL (q :: ps) = cell2 q ++ cellsL ps := rfl
    rw [e]
    cases j with
    | zero =>
      obtain rfl : q = p := by simpa using h
      rw [List.getElem?_append_left (by omega)]
      simp
    | succ j =>
      rw [List.getElem?_append_right (by omega), hl, show (j + 1) * 2 + k - 2 = j * 2 + k by omega]
      exact ih j p (by simpa using h) k hk
theorem owns_slL {w : World} {base n : Nat} {v : Value} {ps : List Line} (hn : n = ps.length) (h : w.ownsRow base 45 2 v n (cellsL ps)) : SlL w v ps := by
  subst hn
  obtain ⟨h0, ⟨rfl, h1⟩ | ⟨g, cap, cur, rfl, hb, hg, hn, hm, hs, ht⟩⟩ := h
  · exact .inl ⟨none, 0, rfl, List.eq_nil_of_length_eq_zero h1⟩
  · refine .inr ⟨g, 0, cap, rfl, hn, fun j p hp => ?_⟩
    have key : ∀ k, k < 2 → ∀ x, (cell2 p)[k]? = some x → w.cell? ⟨g, j * 2 + k, none⟩ = some x := fun k hk x hx => by
      rw [cell_of_row w g _ cur 45 (0, 0) hg]
      have := cellsL_at ps j p hp k hk
      rw [hx, ← ht, List.getElem?_take] at this
      split at this
      · simpa using this
      · cases this
    rw [Nat.zero_add]
    exact ⟨key 0 (by omega) _ rfl, key 1 (by omega) _ rfl⟩
theorem info45 : (Tryd.prog.info? 45).map (fun i => (i.zero, i.size, i.bytes)) = some (some (.agg #[.string ⟨#[]⟩, .int .i64 0]), 2, 24) := by kernel_rfl
theorem cellsL_succ (ps : List Line) (i : Nat) (p : Line) (h : ps[i]? = some p) : cellsL ((ps.take (i + 1)).map shortLn) = cellsL ((ps.take i).map shortLn) ++ [tv (shortL p.1), .int .i64 p.2] := by
  show _ = _ ++ cell2 (shortLn p)
  unfold cellsL
  rw [List.take_add_one, h, List.map_append, List.map_append, List.flatten_append]
  simp
theorem owns_form2 {w : World} {base : Nat} {e : TypeId} {s : Nat} {v : Value} {n : Nat} {xs : List Value} (h : w.ownsRow base e s v n xs) : ∃ a c, v = .slice a n c := by
  obtain ⟨_, ⟨rfl, rfl⟩ | ⟨g, cap, cur, rfl, _⟩⟩ := h
  · exact ⟨_, _, rfl⟩
  · exact ⟨_, _, rfl⟩
/-- The lines and amounts ahead of i lie in the range. -/
def Good (ls : List Line) (am : List Int) (i : Nat) : Prop := (∀ x ∈ ls.take i, InM x.2) ∧ ∀ z ∈ am.take i, InM z
theorem Good.zero (ls : List Line) (am : List Int) : Good ls am 0 := ⟨fun x h => by simp at h, fun x h => by simp at h⟩
theorem Good.yes {ls : List Line} {am : List Int} {i : Nat} {x : Line} {z : Int} (h : Good ls am i) (hx : ls[i]? = some x) (hz : am[i]? = some z) (a : InM x.2) (b : InM z) : Good ls am (i + 1) := by
  refine ⟨fun y hy => ?_, fun y hy => ?_⟩
  · rw [List.take_add_one, hx] at hy
    rcases List.mem_append.1 hy with h' | h'
    · exact h.1 y h'
    · obtain rfl := List.mem_singleton.1 h'; exact a
  · rw [List.take_add_one, hz] at hy
    rcases List.mem_append.1 hy with h' | h'
    · exact h.2 y h'
    · obtain rfl := List.mem_singleton.1 h'; exact b
theorem Good.no {ls : List Line} {am : List Int} {i : Nat} {x : Line} (h : Good ls am i) (hx : ls[i]? = some x) (hz : am[i]? = none) (a : InM x.2) : Good ls am (i + 1) := by
  refine ⟨fun y hy => ?_, fun y hy => ?_⟩
  · rw [List.take_add_one, hx] at hy
    rcases List.mem_append.1 hy with h' | h'
    · exact h.1 y h'
    · obtain rfl := List.mem_singleton.1 h'; exact a
  · rw [List.take_add_one, hz, Option.toList_none, List.append_nil] at hy
    exact h.2 y hy

theorem sumU_short (l : List Line) : sumU (l.map shortLn) = sumU l := by
  unfold sumU
  rw [List.map_map]
  rfl
/-- What the law finds in the text of an account. -/
theorem account_words (ls : List Line) (am : List Int) (hn : ls.length ≤ 20) (ho : ∀ x ∈ ls, x.1.length ≤ 30 ∧ InM x.2) (ha : ∀ x ∈ am, InM x) :
    ∃ S P, accountL ls am = S ++ [10] ∧ S.length ≤ 400000 ∧ wordsL S = P ++ [totW, Lib.itoa (sumU ls), Lib.itoa (am.take ls.length).sum] := by
  have hle := acc_le ls am hn ho ha
  have h1 := sumU_bd ls hn fun x hx => (ho x hx).2
  have h2 := sumA_bd am ls.length hn ha
  obtain ⟨q, hq⟩ := table_snoc [ownW, usaW, amoW] (accRows ls am) (totRow ls am)
  have hT : accountL ls am = tableL [ownW, usaW, amoW] (accRows ls am ++ [totRow ls am]) := by unfold accountL TableL; rw [if_neg (by simp)]
  have hlen := table_le [ownW, usaW, amoW] (accRows ls am ++ [totRow ls am]) (by decide) hle.1 (by decide) hle.2
  have hw : (widthsL [ownW, usaW, amoW] (accRows ls am ++ [totRow ls am])).length = 3 := by unfold widthsL; simp
  have hwd : wordsL (laidL (widthsL [ownW, usaW, amoW] (accRows ls am ++ [totRow ls am])) (totRow ls am)) = totRow ls am := by
    rw [words_laid, hw]
    · exact cells_row (totRow ls am)
    · intro k hk
      rw [hw] at hk
      match k, hk with
      | 0, _ => exact (show Word totW from ⟨by decide, by decide⟩)
      | 1, _ => exact itoa_word _ h1.1
      | 2, _ => exact itoa_word _ h2.1
  refine ⟨_, wordsL q, hT.trans hq, ?_, ?_⟩
  · rw [hq, List.length_append] at hlen
    omega
  · rw [words_sep q _ 10 rfl, hwd]; rfl

theorem wgo_len : ∀ (l cur : List UInt8), (wgo l cur).length ≤ l.length + 1
  | [], cur => by rw [wgo]; unfold flushL; split <;> simp
  | b :: l, cur => by
    rw [wgo]
    split
    · have := wgo_len l []
      rw [List.length_append, List.length_cons]
      unfold flushL
      split
      · simp; omega
      · simp; omega
    · have := wgo_len l (cur ++ [b])
      rw [List.length_cons]; omega
theorem words_len (l : List UInt8) : (wordsL l).length ≤ l.length + 1 := wgo_len l []
theorem sl_last3 {w : World} {v : Value} {P : List Value} {x y z : Value} (h : Sl w v (P ++ [x, y, z])) :
    ∃ g o c, v = .slice (some ⟨g, o, none⟩) (P.length + 3) c ∧ w.cell? ⟨g, o + P.length, none⟩ = some x ∧ w.cell? ⟨g, o + (P.length + 1), none⟩ = some y ∧ w.cell? ⟨g, o + (P.length + 2), none⟩ = some z := by
  rcases h with ⟨_, _, _, h⟩ | ⟨g, o, c, rfl, h1, h2⟩
  · simp at h
  · refine ⟨g, o, c, by simp, h2 _ _ ?_, h2 _ _ ?_, h2 _ _ ?_⟩
    · rw [List.getElem?_append_right (Nat.le_refl _)]; simp
    · rw [List.getElem?_append_right (by omega)]; simp
    · rw [List.getElem?_append_right (by omega)]; simp

set_option maxHeartbeats 16000000 in
set_option maxRecDepth 100000 in
theorem accounts7 (w : World) (hL : Lay w) (u : Value) (ls : List Line) (hu : SlL w u ls) (v : Value) (am : List Int) (hv : Sl w v (am.map fun n => .int .i64 n) ∧ ∀ n ∈ am, -9223372036854775808 ≤ n ∧ n ≤ 9223372036854775807) :
    Calls Tryd.prog 7 #[u, v] w fun e w' => e = .returned (.bool true) ∧ Chg NoB w w' := by
  obtain ⟨hv, -⟩ := hv
  obtain ⟨i45, hi45, hz0, hz1, hz2⟩ := info_parts info45
  obtain ⟨a, n, c, rfl, hn1⟩ := hu.form'
  obtain ⟨a2, m, c2, rfl, hm1⟩ := hv.form'
  have hm2 : Hid (m = am.length) := by show _ = _; have := hm1.out; simpa using this
  have c12 : Hid (∀ w', Chg NoB w w' → Calls Tryd.prog 12 #[] w' fun e w'' => e = .returned (.bool true) ∧ Chg NoB w w'') := fun w' k => (awake12 w' (hL.new k)).mono fun _ _ h => ⟨h.1, k.trans h.2⟩
  have c12b : Hid (∀ w', Chg NoB w w' → Calls Tryd.prog 12 #[] w' fun e w'' => e = .returned (.bool true) ∧ Chg NoB w' w'') := fun w' k => awake12 w' (hL.new k)
  have hu' := Hid.mk' hu
  have hv' := Hid.mk' hv
  have hL' := Hid.mk' hL
  have hz' := Hid.mk' (And.intro hz0 (And.intro hz1 hz2))
  obtain ⟨mm, hmm⟩ : ∃ mm, min n 20 = mm := ⟨_, rfl⟩
  have hmm' := Hid.mk' hmm
  clear hu hv hL hm1 hz0 hz1 hz2 hmm
  go_enter Tryd.func7, Tryd.ntmps7
  go_wp2_with fail
  go_loopg [5, 6, 7, 8] mm (fun gq s5 s6 s7 s8 wr => ∃ i v, i + gq = mm ∧ s5 = v ∧ s6 = .int .i64 (sumU (ls.take i)) ∧ s7 = .int .i64 ((am.take i).sum) ∧ s8 = .int .i64 (i : Int) ∧ Hid (wr.ownsRow w.heap.size 45 2 v i (cellsL ((ls.take i).map shortLn))) ∧ Hid (Good ls am i) ∧ Chg NoB w wr)
  case atStart => exact ⟨0, _, by omega, rfl, rfl, rfl, rfl, World.ownsRow_nil _ _ _ _, Good.zero _ _, Chg.refl _ _⟩
  case round =>
    obtain ⟨i, v, hg, rfl, rfl, rfl, rfl, hrow, hgood, kwr⟩ := hrel
    obtain ⟨av, cv, rfl⟩ := owns_form2 hrow.out
    have kwr' := Hid.mk' kwr
    have hn3 := hn1.out
    have hm3 := hm2.out
    have hmm2 := hmm'.out
    by_cases hin : i < mm
    · obtain ⟨x, hx⟩ : ∃ x, ls[i]? = some x := ⟨_, List.getElem?_eq_getElem (by omega)⟩
      obtain ⟨gp, o, rfl, hc⟩ := hu'.out.at (by omega)
      obtain ⟨c0, c1⟩ := hc i x hx
      have lg : gp < w.heap.size := World.block_lt_of_cell? w _ c0
      have hU := sumU_succ ls i x hx
      have hR := cellsL_succ ls i x hx
      have bU := sumU_bd (ls.take i) (by rw [List.length_take]; omega) hgood.out.1
      have bA := sum_bd (am.take i) hgood.out.2
      have bA2 : (am.take i).length ≤ 20 := by rw [List.length_take]; omega
      have c22 := fun w' => short22 x.1 w'
      obtain ⟨xo, xu⟩ := x
      simp only at c0 c1 hU hR c22
      obtain ⟨SU, hSU⟩ : ∃ S, sumU (ls.take i) = S := ⟨_, rfl⟩
      obtain ⟨SA, hSA⟩ : ∃ S, (am.take i).sum = S := ⟨_, rfl⟩
      rw [hSU] at hU bU ⊢
      rw [hSA] at bA ⊢
      obtain ⟨OB, hOB⟩ : ∃ B, bsOf xo = B := ⟨_, rfl⟩
      obtain ⟨S, hS⟩ : ∃ S, bsOf (shortL xo) = S := ⟨_, rfl⟩
      unfold tv at c0 c22 hR
      rw [hOB] at c0
      simp only [hOB, hS] at c22
      rw [hS] at hR
      have e0 := Hid.mk' c0
      have e1 := Hid.mk' c1
      replace c0 := kwr.cell (fun h => h) c0
      replace c1 := kwr.cell (fun h => h) c1
      have c22' := Hid.mk' c22
      have hU' := Hid.mk' hU
      have hR' := Hid.mk' hR
      have hx' := Hid.mk' hx
      have ag : Hid ((Value.slice av i cv).ownBlock ≠ some gp) := fun h => by
        have := (hrow.out.lt gp h).1
        omega
      have b1 : (i : Int) < (n : Int) := by omega
      have b2 : i < n := by omega
      have b3 : (i : Int) < 20 := by omega
      have b4 : i < 20 := by omega
      have n1 : IntKind.i64.wrap ((i : Int) + 1) = (i : Int) + 1 := by rw [IntKind.wrap_i64]; omega
      have li := Hid.mk' hin
      have sz0 : w.heap.size ≤ wr.heap.size := kwr.size
      have bU' := Hid.mk' bU
      have bA' := Hid.mk' (And.intro bA bA2)
      have hm3' := Hid.mk' hm3
      clear hc hx hn3 hmm2 hin hU hR hOB hS c22 hSU bU bA bA2
      by_cases q1 : xu < 0
      · clear hSA kwr hm3
        go_wp2_with (go_at_call 12; refine (c12.out _ kwr'.out).mono ?_; rintro e w2 ⟨rfl, k2⟩)
        go_ret
        exact ⟨rfl, k2⟩
      · by_cases q2 : 1125899906842624 < xu
        · clear hSA kwr hm3
          go_wp2_with (go_at_call 12; refine (c12.out _ kwr'.out).mono ?_; rintro e w2 ⟨rfl, k2⟩)
          go_ret
          exact ⟨rfl, k2⟩
        · have xm : InM xu := by unfold InM; omega
          have xm' := Hid.mk' xm
          have n2 : wrap64 (SU + xu) = SU + xu := by have := bU'.out; unfold wrap64; omega
          by_cases him : i < m
          · obtain ⟨z, hz⟩ : ∃ z, am[i]? = some z := ⟨_, List.getElem?_eq_getElem (by omega)⟩
            obtain ⟨ga, oa, rfl, hca, -⟩ := hv'.out.at (by simp; omega)
            have caw := hca i (.int .i64 z) (by rw [List.getElem?_map, hz]; rfl)
            have ca' := Hid.mk' caw
            have ca0 := kwr.cell (fun h => h) caw
            have e3 : (i : Int) < (m : Int) := by omega
            have e4 : i < m := him
            by_cases q3 : z < 0
            · clear hSA kwr hm3 hca hz xm caw
              go_wp2_with (go_at_call 12; refine (c12.out _ kwr'.out).mono ?_; rintro e w2 ⟨rfl, k2⟩)
              go_ret
              exact ⟨rfl, k2⟩
            · by_cases q4 : 1125899906842624 < z
              · clear hSA kwr hm3 hca hz xm caw
                go_wp2_with (go_at_call 12; refine (c12.out _ kwr'.out).mono ?_; rintro e w2 ⟨rfl, k2⟩)
                go_ret
                exact ⟨rfl, k2⟩
              · have zm : InM z := by unfold InM; omega
                have hg2 : Hid (Good ls am (i + 1)) := hgood.out.yes hx'.out hz xm zm
                have hS2 := sumA_succ am i z hz
                rw [hSA] at hS2
                have hS' := Hid.mk' hS2
                have n4 : wrap64 (SA + z) = SA + z := by have := bA'.out; unfold wrap64; omega
                clear hSA kwr hm3 hca hz xm zm caw hS2
                go_wp2_with fail
                go_region_held3 (fun w' => w'.cell? ⟨gp, o + i * 2, none⟩ = some (.string OB) ∧ w'.cell? ⟨gp, o + i * 2 + 1, none⟩ = some (.int .i64 xu))
                  (first
                    | exact ⟨q0, q1⟩
                    | go_keep)
                  (first
                    | (go_at_call 22; refine (c22'.out _).mono ?_; rintro e w' ⟨rfl, rfl⟩)
                    | (refine step_append_lies _ (by rfl) _ _ _ (by rfl) w.heap.size 45 i45 _ 2 24 Tryd.underlying42 hi45 hz'.out.1 hz'.out.2.1 hz'.out.2.2 rfl (by omega) (.slice av i cv) i (cellsL ((ls.take i).map shortLn)) (by rfl) ((hrow.out.alloc _).drew)
                        ⟨wr.heap.size, 0, none⟩ 1 1 [.string S, .int .i64 xu] (by rfl) (by rfl) (World.news_of_block (cs := #[.string S, .int .i64 xu]) (t := 45) (fr := (0, 0)) (heap_alloc_new wr _)) (by simp [Value.oneCell'])
                        (by omega) (by unfold maxLen; omega) (by omega) (by simp; omega) (wr.heap.size + 1) (by simp) ?_
                       intro gg cap w1 hown1 hgrow hat hlt
                       have k1 : Chg NoB w w1 := (((kwr'.out.alloc _).drew).grown hgrow fun k hk => .inr (hrow.out.lt k hk).1)
                       have q0 : w1.cell? ⟨gp, o + i * 2, none⟩ = some (.string OB) := k1.cell (fun h => h) e0.out
                       have q1 : w1.cell? ⟨gp, o + i * 2 + 1, none⟩ = some (.int .i64 xu) := k1.cell (fun h => h) e1.out
                       have qa : w1.cell? ⟨ga, oa + i, none⟩ = some (.int .i64 z) := k1.cell (fun h => h) ca'.out))
                go_wp2_with fail
                go_roundg (mm - (i + 1))
                case measure => have := li.out; omega
                case rel =>
                  refine ⟨i + 1, _, by have := li.out; omega, rfl, by rw [hU'.out] <;> first | rfl | rw [n2], by rw [hS'.out] <;> first | rfl | rw [n4], by simp, ?_, hg2.out, k1⟩
                  show World.ownsRow _ _ _ _ _ _ _
                  rw [hR'.out]
                  exact hown1
          · have hz : am[i]? = none := List.getElem?_eq_none (by omega)
            have hg2 : Hid (Good ls am (i + 1)) := hgood.out.no hx'.out hz xm
            have hS' : Hid ((am.take (i + 1)).sum = SA) := by show _ = _; rw [List.take_add_one, hz, ← hSA]; simp
            have e3 : ¬ (i : Int) < (m : Int) := by omega
            clear hSA kwr hm3 hz xm
            go_wp2_with fail
            go_region_held3 (fun w' => w'.cell? ⟨gp, o + i * 2, none⟩ = some (.string OB) ∧ w'.cell? ⟨gp, o + i * 2 + 1, none⟩ = some (.int .i64 xu))
              (first
                | exact ⟨q0, q1⟩
                | go_keep)
              (first
                | (go_at_call 22; refine (c22'.out _).mono ?_; rintro e w' ⟨rfl, rfl⟩)
                | (refine step_append_lies _ (by rfl) _ _ _ (by rfl) w.heap.size 45 i45 _ 2 24 Tryd.underlying42 hi45 hz'.out.1 hz'.out.2.1 hz'.out.2.2 rfl (by omega) (.slice av i cv) i (cellsL ((ls.take i).map shortLn)) (by rfl) ((hrow.out.alloc _).drew)
                    ⟨wr.heap.size, 0, none⟩ 1 1 [.string S, .int .i64 xu] (by rfl) (by rfl) (World.news_of_block (cs := #[.string S, .int .i64 xu]) (t := 45) (fr := (0, 0)) (heap_alloc_new wr _)) (by simp [Value.oneCell'])
                    (by omega) (by unfold maxLen; omega) (by omega) (by simp; omega) (wr.heap.size + 1) (by simp) ?_
                   intro gg cap w1 hown1 hgrow hat hlt
                   have k1 : Chg NoB w w1 := (((kwr'.out.alloc _).drew).grown hgrow fun k hk => .inr (hrow.out.lt k hk).1)
                   have q0 : w1.cell? ⟨gp, o + i * 2, none⟩ = some (.string OB) := k1.cell (fun h => h) e0.out
                   have q1 : w1.cell? ⟨gp, o + i * 2 + 1, none⟩ = some (.int .i64 xu) := k1.cell (fun h => h) e1.out))
            go_wp2_with fail
            go_roundg (mm - (i + 1))
            case measure => have := li.out; omega
            case rel =>
              refine ⟨i + 1, _, by have := li.out; omega, rfl, by rw [hU'.out] <;> first | rfl | rw [n2], by rw [hS'.out] <;> first | rfl | rw [n4], by simp, ?_, hg2.out, k1⟩
              show World.ownsRow _ _ _ _ _ _ _
              rw [hR'.out]
              exact hown1
    · obtain rfl : i = mm := by omega
      have hilen : (ls.take i).length = i := by rw [List.length_take]; omega
      have hi20 : i ≤ 20 := by omega
      obtain ⟨Ls, hLs⟩ : ∃ Ls, (ls.take i).map shortLn = Ls := ⟨_, rfl⟩
      have hLl : Ls.length = i := by rw [← hLs, List.length_map, hilen]
      have hslL : SlL wr (.slice av i cv) Ls := owns_slL hLl.symm (by rw [← hLs]; exact hrow.out)
      have hLo : ∀ x ∈ Ls, x.1.length ≤ 30 ∧ InM x.2 := fun x hx => by
        rw [← hLs] at hx
        obtain ⟨y, hy, rfl⟩ := List.mem_map.1 hx
        exact ⟨shortL_le y.1, hgood.out.1 y hy⟩
      obtain ⟨k, hk⟩ : ∃ k, min m 20 = k := ⟨_, rfl⟩
      have hkm : min (m : Int) 20 = (k : Int) := by omega
      have hkl : (am.take k).length = k := by rw [List.length_take]; omega
      have hcap : m ≤ c2 := by
        rcases hv'.out with ⟨_, _, h, h'⟩ | ⟨_, _, _, h, h2, _⟩
        · simp only [Value.slice.injEq] at h; omega
        · simp only [Value.slice.injEq] at h; omega
      have hsl2 : Sl w (.slice a2 k c2) ((am.take k).map fun n => .int .i64 n) := by
        rcases hv'.out with ⟨a, c, h, h'⟩ | ⟨g, o, c, h, h2, h3⟩
        · simp only [Value.slice.injEq] at h
          obtain ⟨rfl, h4, rfl⟩ := h
          have h5 : am = [] := by simpa using h'
          subst h5
          obtain rfl : k = 0 := by omega
          exact .inl ⟨_, _, rfl, by simp⟩
        · simp only [Value.slice.injEq] at h
          obtain ⟨rfl, h4, rfl⟩ := h
          refine .inr ⟨g, o, _, by rw [List.length_map, hkl], by rw [List.length_map, hkl]; omega, fun j y hy => h3 j y ?_⟩
          rw [List.map_take, List.getElem?_take] at hy
          split at hy
          · exact hy
          · cases hy
      have hsum : (am.take i).sum = ((am.take k).take Ls.length).sum := by
        rw [List.take_take, hLl]
        by_cases h : i ≤ k
        · rw [Nat.min_eq_left h]
        · rw [Nat.min_eq_right (by omega), List.take_of_length_le (by omega : am.length ≤ i), List.take_of_length_le (by omega : am.length ≤ k)]
      have hsU : sumU (ls.take i) = sumU Ls := by rw [← hLs, sumU_short]
      have facts := Hid.mk' (And.intro hLl (And.intro hi20 (And.intro hLo (And.intro hkl (And.intro hsum hsU)))))
      have hslL' := Hid.mk' hslL
      have hsl2' := Hid.mk' hsl2
      have hk20 : k ≤ 20 := by omega
      have kc1 : (k : Int) ≤ (c2 : Int) := by omega
      have kc2 : k ≤ c2 := by omega
      have kfacts := Hid.mk' (And.intro hk20 hk)
      obtain ⟨SU, hSU⟩ : ∃ S, sumU (ls.take i) = S := ⟨_, rfl⟩
      obtain ⟨SA, hSA⟩ : ∃ S, (am.take i).sum = S := ⟨_, rfl⟩
      rw [hSU, hSA]
      have hSU' := Hid.mk' hSU
      have hSA' := Hid.mk' hSA
      by_cases hin2 : i < n
      · have d1 : (i : Int) < (n : Int) := by omega
        have d2 : ¬ (i : Int) < 20 := by omega
        have d3 : 20 ≤ (i : Int) := by omega
        clear kwr hn3 hm3 hmm2 hin hilen hi20 hLs hLl hslL hLo hk hkl hcap hsl2 hsum hsU hSU hSA hin2 hk20
        go_wp2_with fail
        go_loopg [9] k (fun gq s9 w' => ∃ j, j + gq = k ∧ s9 = .int .i64 (j : Int) ∧ Hid (∀ z ∈ am.take j, InM z) ∧ w' = wr)
        case atStart => exact ⟨0, by omega, rfl, Hid.mk' (fun z hz => by simp at hz), rfl⟩
        case round =>
          obtain ⟨j, hgj, rfl, hgd, rfl⟩ := hrel
          have hkl := facts.out.2.2.2.1
          have hk20 := kfacts.out.1
          by_cases hjk : j < k
          · obtain ⟨z, hz⟩ : ∃ z, (am.take k)[j]? = some z := ⟨_, List.getElem?_eq_getElem (by omega)⟩
            have hz2 : am[j]? = some z := by rw [List.getElem?_take, if_pos hjk] at hz; exact hz
            obtain ⟨ga, oa, rfl, hca, -⟩ := (hsl2'.out.new kwr'.out).at (by rw [List.length_map]; omega)
            have ca0 := hca j (.int .i64 z) (by rw [List.getElem?_map, hz]; rfl)
            have j1 : (j : Int) < (k : Int) := by omega
            have j2 : j < k := hjk
            have n1 : IntKind.i64.wrap ((j : Int) + 1) = (j : Int) + 1 := by rw [IntKind.wrap_i64]; omega
            have lj := Hid.mk' hjk
            have hz2' := Hid.mk' hz2
            clear hkl hk20 hz hz2 hca hjk
            by_cases q3 : z < 0
            · go_wp2_with (go_at_call 12; refine (c12.out _ kwr'.out).mono ?_; rintro e w2 ⟨rfl, k2⟩)
              go_ret
              exact ⟨rfl, k2⟩
            · by_cases q4 : 1125899906842624 < z
              · go_wp2_with (go_at_call 12; refine (c12.out _ kwr'.out).mono ?_; rintro e w2 ⟨rfl, k2⟩)
                go_ret
                exact ⟨rfl, k2⟩
              · have hgd2 : Hid (∀ y ∈ am.take (j + 1), InM y) := fun y hy => by
                  rw [List.take_add_one, hz2'.out] at hy
                  rcases List.mem_append.1 hy with h | h
                  · exact hgd.out y h
                  · obtain rfl := List.mem_singleton.1 h
                    unfold InM; omega
                go_wp2_with fail
                go_roundg (k - (j + 1))
                case measure => have := lj.out; omega
                case rel => exact ⟨j + 1, by have := lj.out; omega, by simp, hgd2.out, rfl⟩
          · obtain rfl : j = k := by omega
            have j1 : ¬ (j : Int) < (j : Int) := by omega
            obtain ⟨f1, f2, f3, f4, f5, f6⟩ := facts.out
            have hA20 : (am.take j).length ≤ 20 := by omega
            obtain ⟨T, P, hT, hTl, hTw⟩ := account_words Ls (am.take j) (by omega) f3 hgd.out
            rw [← f6, hSU'.out, ← f5, hSA'.out] at hTw
            have sb : 0 ≤ SU ∧ SU ≤ 22517998136852480 := by rw [← hSU'.out, f6]; exact sumU_bd Ls (by omega) fun x hx => (f3 x hx).2
            have sa : 0 ≤ SA ∧ SA ≤ 22517998136852480 := by rw [← hSA'.out, f5]; exact sumA_bd (am.take j) Ls.length (by omega) hgd.out
            have c23 := Account23 _ _ Ls (am.take j) wr hslL'.out (hsl2'.out.new kwr'.out) (hL'.out.new kwr'.out) (by omega) f3 hgd.out hA20
            have c24 := fun w' (k : Chg NoB wr w') => (Account24 _ _ Ls (am.take j) w' (hslL'.out.new k) ((hsl2'.out.new kwr'.out).new k) (by omega) f3 hgd.out hA20).mono fun e w'' h => (⟨h.1, k.trans h.2⟩ : e = .returned (tv (accountL Ls (am.take j))) ∧ Chg NoB wr w'')
            have c21 := fun w' => words21 T w' (by omega)
            have c20u := fun w' => number20 SU (by omega) (by omega) w'
            have c20a := fun w' => number20 SA (by omega) (by omega) w'
            rw [hT] at c23
            simp only [hT] at c24
            have sT : (bsOf (T ++ [10])).size = T.length + 1 := by rw [size_bsOf]; simp
            have hex : (bsOf (T ++ [10])).extract 0 T.length = bsOf T := by
              apply ByteArray.ext
              simp [bsOf, ByteArray.data_extract]
            obtain ⟨B, hB⟩ : ∃ B, bsOf (T ++ [10]) = B := ⟨_, rfl⟩
            obtain ⟨D, hD⟩ : ∃ D, bsOf T = D := ⟨_, rfl⟩
            obtain ⟨tl, htl⟩ : ∃ tl, T.length = tl := ⟨_, rfl⟩
            obtain ⟨UB, hUB⟩ : ∃ B, bsOf (Lib.itoa SU) = B := ⟨_, rfl⟩
            obtain ⟨AB, hAB⟩ : ∃ B, bsOf (Lib.itoa SA) = B := ⟨_, rfl⟩
            have hwv : (wordsL T).map tv = P.map tv ++ [.string ⟨#[116, 111, 116, 97, 108]⟩, .string UB, .string AB] := by
              rw [hTw, List.map_append, ← hUB, ← hAB]; rfl
            have hTD : tv T = .string D := by rw [← hD]; rfl
            simp only [hTD] at c21
            unfold tv at c23 c24 c20u c20a
            rw [hB] at c23 sT hex
            simp only [hB] at c24
            simp only [hUB] at c20u
            simp only [hAB] at c20a
            rw [htl] at sT hex hTl
            rw [hD] at hex
            have n1 : IntKind.i64.wrap ((tl : Int) + 1 - 1) = (tl : Int) := by rw [IntKind.wrap_i64]; omega
            have d9 : B.size - 1 = tl := by omega
            have c23' := Hid.mk' c23
            have c24' := Hid.mk' c24
            have c21' := Hid.mk' c21
            have c20u' := Hid.mk' c20u
            have c20a' := Hid.mk' c20a
            have hwv' : Hid ((wordsL T).map tv = P.map tv ++ [.string ⟨#[116, 111, 116, 97, 108]⟩, .string UB, .string AB] ∧ P.length ≤ 400001) := ⟨hwv, by have := words_len T; have h2 := congrArg List.length hTw; simp at h2; omega⟩
            clear c23 c24 c21 c20u c20a hTD hT hTw hwv hB hD hUB hAB htl f1 f2 f3 f4 f5 f6 hA20 sb sa hjk hkl hk20
            go_wp2_with fail
            refine c23'.out.mono ?_
            rintro e w2 ⟨rfl, k2⟩
            replace k2 := Hid.mk' k2
            go_wp2_with fail
            refine (c24'.out _ k2.out).mono ?_
            rintro e w3 ⟨rfl, k3⟩
            replace k3 := Hid.mk' k3
            go_wp2_with fail
            refine (c21'.out _).mono ?_
            rintro e w5 ⟨v5, rfl, r5, -, k5⟩
            rw [hwv'.out.1] at r5
            obtain ⟨g5, o5, c5, rfl, hc5⟩ := sl_last3 r5.sl
            have pl := hwv'.out.2
            obtain ⟨y0, y1, y2⟩ := hc5
            obtain ⟨nn, hnn⟩ : ∃ nn, P.length + 3 = nn := ⟨_, rfl⟩
            obtain ⟨i0, hi0⟩ : ∃ i0, P.length = i0 := ⟨_, rfl⟩
            obtain ⟨i1, hi1⟩ : ∃ i1, P.length + 1 = i1 := ⟨_, rfl⟩
            obtain ⟨i2, hi2⟩ : ∃ i2, P.length + 2 = i2 := ⟨_, rfl⟩
            have P3 : (P.map tv).length + 3 = nn := by rw [List.length_map]; exact hnn
            rw [List.length_map] at y0 y1 y2
            rw [hi0] at y0
            rw [hi1] at y1
            rw [hi2] at y2
            rw [P3]
            have m0 : IntKind.i64.wrap ((nn : Int) - 3) = (i0 : Int) := by rw [IntKind.wrap_i64]; omega
            have m1 : IntKind.i64.wrap ((nn : Int) - 2) = (i1 : Int) := by rw [IntKind.wrap_i64]; omega
            have m2 : IntKind.i64.wrap ((nn : Int) - 1) = (i2 : Int) := by rw [IntKind.wrap_i64]; omega
            have l0 : (i0 : Int) < (nn : Int) := by omega
            have l1 : (i1 : Int) < (nn : Int) := by omega
            have l2 : (i2 : Int) < (nn : Int) := by omega
            have l0' : i0 < nn := by omega
            have l1' : i1 < nn := by omega
            have l2' : i2 < nn := by omega
            have l3 : 3 ≤ (nn : Int) := by omega
            have hcl : Hid (∀ w', Chg NoB w5 w' → w'.cell? ⟨g5, o5 + i0, none⟩ = some (.string ⟨#[116, 111, 116, 97, 108]⟩) ∧ w'.cell? ⟨g5, o5 + i1, none⟩ = some (.string UB) ∧ w'.cell? ⟨g5, o5 + i2, none⟩ = some (.string AB)) := fun w' k => ⟨k.cell (fun h => h) y0, k.cell (fun h => h) y1, k.cell (fun h => h) y2⟩
            have k5' : Hid (Chg NoB w w5) := (kwr'.out.trans k3.out).trans k5
            clear r5 k5 pl hnn hi0 hi1 hi2 P3
            go_wp2_with fail
            go_region_held3 (fun w' => w'.cell? ⟨g5, o5 + i0, none⟩ = some (.string ⟨#[116, 111, 116, 97, 108]⟩) ∧ w'.cell? ⟨g5, o5 + i1, none⟩ = some (.string UB) ∧ w'.cell? ⟨g5, o5 + i2, none⟩ = some (.string AB)) (first | exact ⟨y0, y1, y2⟩ | exact z6 | exact z7 | exact z8)
              (first
              | (go_at_call_of 20 (Value.int .i64 SU); refine (c20u'.out _).mono ?_; rintro e w6 ⟨rfl, k6⟩; replace k6 : Chg NoB w5 w6 := (by first | exact k6 | exact ((Chg.refl NoB w5).drew).trans k6); have z6 := hcl.out _ k6; replace k6 := Hid.mk' k6)
              | (go_at_call_of 20 (Value.int .i64 SA); refine (c20a'.out _).mono ?_; rintro e w7 ⟨rfl, k7⟩; replace k7 : Chg NoB w5 w7 := k6.out.trans k7; have z7 := hcl.out _ k7; replace k7 := Hid.mk' k7)
              | (go_at_call 12; refine (c12b.out _ (k5'.out.trans k7.out)).mono ?_; rintro e w8 ⟨rfl, k8⟩; replace k8 : Chg NoB w5 w8 := k7.out.trans k8; have z8 := hcl.out _ k8; replace k8 := Hid.mk' k8))
            go_wp2_with fail
            go_ret
            exact ⟨rfl, k5'.out.trans k8.out⟩
      · have d1 : ¬ (i : Int) < (n : Int) := by omega
        have d2 : ¬ i < n := hin2
        clear kwr hn3 hm3 hmm2 hin hilen hi20 hLs hLl hslL hLo hk hkl hcap hsl2 hsum hsU hSU hSA hin2 hk20
        go_wp2_with fail
        go_loopg [9] k (fun gq s9 w' => ∃ j, j + gq = k ∧ s9 = .int .i64 (j : Int) ∧ Hid (∀ z ∈ am.take j, InM z) ∧ w' = wr)
        case atStart => exact ⟨0, by omega, rfl, Hid.mk' (fun z hz => by simp at hz), rfl⟩
        case round =>
          obtain ⟨j, hgj, rfl, hgd, rfl⟩ := hrel
          have hkl := facts.out.2.2.2.1
          have hk20 := kfacts.out.1
          by_cases hjk : j < k
          · obtain ⟨z, hz⟩ : ∃ z, (am.take k)[j]? = some z := ⟨_, List.getElem?_eq_getElem (by omega)⟩
            have hz2 : am[j]? = some z := by rw [List.getElem?_take, if_pos hjk] at hz; exact hz
            obtain ⟨ga, oa, rfl, hca, -⟩ := (hsl2'.out.new kwr'.out).at (by rw [List.length_map]; omega)
            have ca0 := hca j (.int .i64 z) (by rw [List.getElem?_map, hz]; rfl)
            have j1 : (j : Int) < (k : Int) := by omega
            have j2 : j < k := hjk
            have n1 : IntKind.i64.wrap ((j : Int) + 1) = (j : Int) + 1 := by rw [IntKind.wrap_i64]; omega
            have lj := Hid.mk' hjk
            have hz2' := Hid.mk' hz2
            clear hkl hk20 hz hz2 hca hjk
            by_cases q3 : z < 0
            · go_wp2_with (go_at_call 12; refine (c12.out _ kwr'.out).mono ?_; rintro e w2 ⟨rfl, k2⟩)
              go_ret
              exact ⟨rfl, k2⟩
            · by_cases q4 : 1125899906842624 < z
              · go_wp2_with (go_at_call 12; refine (c12.out _ kwr'.out).mono ?_; rintro e w2 ⟨rfl, k2⟩)
                go_ret
                exact ⟨rfl, k2⟩
              · have hgd2 : Hid (∀ y ∈ am.take (j + 1), InM y) := fun y hy => by
                  rw [List.take_add_one, hz2'.out] at hy
                  rcases List.mem_append.1 hy with h | h
                  · exact hgd.out y h
                  · obtain rfl := List.mem_singleton.1 h
                    unfold InM; omega
                go_wp2_with fail
                go_roundg (k - (j + 1))
                case measure => have := lj.out; omega
                case rel => exact ⟨j + 1, by have := lj.out; omega, by simp, hgd2.out, rfl⟩
          · obtain rfl : j = k := by omega
            have j1 : ¬ (j : Int) < (j : Int) := by omega
            obtain ⟨f1, f2, f3, f4, f5, f6⟩ := facts.out
            have hA20 : (am.take j).length ≤ 20 := by omega
            obtain ⟨T, P, hT, hTl, hTw⟩ := account_words Ls (am.take j) (by omega) f3 hgd.out
            rw [← f6, hSU'.out, ← f5, hSA'.out] at hTw
            have sb : 0 ≤ SU ∧ SU ≤ 22517998136852480 := by rw [← hSU'.out, f6]; exact sumU_bd Ls (by omega) fun x hx => (f3 x hx).2
            have sa : 0 ≤ SA ∧ SA ≤ 22517998136852480 := by rw [← hSA'.out, f5]; exact sumA_bd (am.take j) Ls.length (by omega) hgd.out
            have c23 := Account23 _ _ Ls (am.take j) wr hslL'.out (hsl2'.out.new kwr'.out) (hL'.out.new kwr'.out) (by omega) f3 hgd.out hA20
            have c24 := fun w' (k : Chg NoB wr w') => (Account24 _ _ Ls (am.take j) w' (hslL'.out.new k) ((hsl2'.out.new kwr'.out).new k) (by omega) f3 hgd.out hA20).mono fun e w'' h => (⟨h.1, k.trans h.2⟩ : e = .returned (tv (accountL Ls (am.take j))) ∧ Chg NoB wr w'')
            have c21 := fun w' => words21 T w' (by omega)
            have c20u := fun w' => number20 SU (by omega) (by omega) w'
            have c20a := fun w' => number20 SA (by omega) (by omega) w'
            rw [hT] at c23
            simp only [hT] at c24
            have sT : (bsOf (T ++ [10])).size = T.length + 1 := by rw [size_bsOf]; simp
            have hex : (bsOf (T ++ [10])).extract 0 T.length = bsOf T := by
              apply ByteArray.ext
              simp [bsOf, ByteArray.data_extract]
            obtain ⟨B, hB⟩ : ∃ B, bsOf (T ++ [10]) = B := ⟨_, rfl⟩
            obtain ⟨D, hD⟩ : ∃ D, bsOf T = D := ⟨_, rfl⟩
            obtain ⟨tl, htl⟩ : ∃ tl, T.length = tl := ⟨_, rfl⟩
            obtain ⟨UB, hUB⟩ : ∃ B, bsOf (Lib.itoa SU) = B := ⟨_, rfl⟩
            obtain ⟨AB, hAB⟩ : ∃ B, bsOf (Lib.itoa SA) = B := ⟨_, rfl⟩
            have hwv : (wordsL T).map tv = P.map tv ++ [.string ⟨#[116, 111, 116, 97, 108]⟩, .string UB, .string AB] := by
              rw [hTw, List.map_append, ← hUB, ← hAB]; rfl
            have hTD : tv T = .string D := by rw [← hD]; rfl
            simp only [hTD] at c21
            unfold tv at c23 c24 c20u c20a
            rw [hB] at c23 sT hex
            simp only [hB] at c24
            simp only [hUB] at c20u
            simp only [hAB] at c20a
            rw [htl] at sT hex hTl
            rw [hD] at hex
            have n1 : IntKind.i64.wrap ((tl : Int) + 1 - 1) = (tl : Int) := by rw [IntKind.wrap_i64]; omega
            have d9 : B.size - 1 = tl := by omega
            have c23' := Hid.mk' c23
            have c24' := Hid.mk' c24
            have c21' := Hid.mk' c21
            have c20u' := Hid.mk' c20u
            have c20a' := Hid.mk' c20a
            have hwv' : Hid ((wordsL T).map tv = P.map tv ++ [.string ⟨#[116, 111, 116, 97, 108]⟩, .string UB, .string AB] ∧ P.length ≤ 400001) := ⟨hwv, by have := words_len T; have h2 := congrArg List.length hTw; simp at h2; omega⟩
            clear c23 c24 c21 c20u c20a hTD hT hTw hwv hB hD hUB hAB htl f1 f2 f3 f4 f5 f6 hA20 sb sa hjk hkl hk20
            go_wp2_with fail
            refine c23'.out.mono ?_
            rintro e w2 ⟨rfl, k2⟩
            replace k2 := Hid.mk' k2
            go_wp2_with fail
            refine (c24'.out _ k2.out).mono ?_
            rintro e w3 ⟨rfl, k3⟩
            replace k3 := Hid.mk' k3
            go_wp2_with fail
            refine (c21'.out _).mono ?_
            rintro e w5 ⟨v5, rfl, r5, -, k5⟩
            rw [hwv'.out.1] at r5
            obtain ⟨g5, o5, c5, rfl, hc5⟩ := sl_last3 r5.sl
            have pl := hwv'.out.2
            obtain ⟨y0, y1, y2⟩ := hc5
            obtain ⟨nn, hnn⟩ : ∃ nn, P.length + 3 = nn := ⟨_, rfl⟩
            obtain ⟨i0, hi0⟩ : ∃ i0, P.length = i0 := ⟨_, rfl⟩
            obtain ⟨i1, hi1⟩ : ∃ i1, P.length + 1 = i1 := ⟨_, rfl⟩
            obtain ⟨i2, hi2⟩ : ∃ i2, P.length + 2 = i2 := ⟨_, rfl⟩
            have P3 : (P.map tv).length + 3 = nn := by rw [List.length_map]; exact hnn
            rw [List.length_map] at y0 y1 y2
            rw [hi0] at y0
            rw [hi1] at y1
            rw [hi2] at y2
            rw [P3]
            have m0 : IntKind.i64.wrap ((nn : Int) - 3) = (i0 : Int) := by rw [IntKind.wrap_i64]; omega
            have m1 : IntKind.i64.wrap ((nn : Int) - 2) = (i1 : Int) := by rw [IntKind.wrap_i64]; omega
            have m2 : IntKind.i64.wrap ((nn : Int) - 1) = (i2 : Int) := by rw [IntKind.wrap_i64]; omega
            have l0 : (i0 : Int) < (nn : Int) := by omega
            have l1 : (i1 : Int) < (nn : Int) := by omega
            have l2 : (i2 : Int) < (nn : Int) := by omega
            have l0' : i0 < nn := by omega
            have l1' : i1 < nn := by omega
            have l2' : i2 < nn := by omega
            have l3 : 3 ≤ (nn : Int) := by omega
            have hcl : Hid (∀ w', Chg NoB w5 w' → w'.cell? ⟨g5, o5 + i0, none⟩ = some (.string ⟨#[116, 111, 116, 97, 108]⟩) ∧ w'.cell? ⟨g5, o5 + i1, none⟩ = some (.string UB) ∧ w'.cell? ⟨g5, o5 + i2, none⟩ = some (.string AB)) := fun w' k => ⟨k.cell (fun h => h) y0, k.cell (fun h => h) y1, k.cell (fun h => h) y2⟩
            have k5' : Hid (Chg NoB w w5) := (kwr'.out.trans k3.out).trans k5
            clear r5 k5 pl hnn hi0 hi1 hi2 P3
            go_wp2_with fail
            go_region_held3 (fun w' => w'.cell? ⟨g5, o5 + i0, none⟩ = some (.string ⟨#[116, 111, 116, 97, 108]⟩) ∧ w'.cell? ⟨g5, o5 + i1, none⟩ = some (.string UB) ∧ w'.cell? ⟨g5, o5 + i2, none⟩ = some (.string AB)) (first | exact ⟨y0, y1, y2⟩ | exact z6 | exact z7 | exact z8)
              (first
              | (go_at_call_of 20 (Value.int .i64 SU); refine (c20u'.out _).mono ?_; rintro e w6 ⟨rfl, k6⟩; replace k6 : Chg NoB w5 w6 := (by first | exact k6 | exact ((Chg.refl NoB w5).drew).trans k6); have z6 := hcl.out _ k6; replace k6 := Hid.mk' k6)
              | (go_at_call_of 20 (Value.int .i64 SA); refine (c20a'.out _).mono ?_; rintro e w7 ⟨rfl, k7⟩; replace k7 : Chg NoB w5 w7 := k6.out.trans k7; have z7 := hcl.out _ k7; replace k7 := Hid.mk' k7)
              | (go_at_call 12; refine (c12b.out _ (k5'.out.trans k7.out)).mono ?_; rintro e w8 ⟨rfl, k8⟩; replace k8 : Chg NoB w5 w8 := k7.out.trans k8; have z8 := hcl.out _ k8; replace k8 := Hid.mk' k8))
            go_wp2_with fail
            go_ret
            exact ⟨rfl, k5'.out.trans k8.out⟩
end Go.Proofs.YtgnnjkmlnfdngaaDoor
