/- The document's map: what Next, Range and New return. Conditions: at most 1000000 keys. -/
import Derived.Test.YtamnmoejjjaegaaMA
set_option linter.unusedVariables false
set_option linter.unusedSimpArgs false
namespace Go.Proofs.Ytamnmoejjjaegaa
open Go Go.RowKit Go.Proofs.YtamnmoejjjaegaaW.PrintLast

theorem map_cells {w : World} {ak av : Option Addr} {nk ck nv cv : Nat} {L : List E} (hk : Row w 9 (.slice ak nk ck) ((L.map Prod.fst).map Value.string)) (hv : Row w 3 (.slice av nv cv) ((L.map Prod.snd).map (Value.int .i64))) (j : Nat) (x : ByteArray) (y : Int) (hj : L[j]? = some (x, y)) :
    ∃ gk gv, ak = some ⟨gk, 0, none⟩ ∧ av = some ⟨gv, 0, none⟩ ∧ w.cell? ⟨gk, j, none⟩ = some (.string x) ∧ w.cell? ⟨gv, j, none⟩ = some (.int .i64 y) ∧ j < nk ∧ j < nv := by
  obtain ⟨hjl, hje⟩ := List.getElem?_eq_some_iff.1 hj
  have hn : nk = L.length := by simpa using hk.cap_le.1
  have hn2 : nv = L.length := by simpa using hv.cap_le.1
  obtain ⟨gk, rfl, ce⟩ := row_str hk j (by simpa using hjl)
  obtain ⟨gv, rfl, cf⟩ := row_int hv j (by simpa using hjl)
  refine ⟨gk, gv, rfl, rfl, ?_, ?_, by omega, by omega⟩
  · rw [ce]; simp [hje]
  · rw [cf]; simp [hje]

set_option maxHeartbeats 8000000 in
set_option maxRecDepth 100000 in
theorem next36 (bad : Bool) (ak : Option Addr) (nk ck : Nat) (av : Option Addr) (nv cv : Nat) (k : ByteArray) (eq : Bool) (L : List E) (w : World) (ha : Asc L) (hk : Row w 9 (.slice ak nk ck) ((L.map Prod.fst).map Value.string)) (hv : Row w 3 (.slice av nv cv) ((L.map Prod.snd).map (Value.int .i64))) (hl : L.length ≤ 1000000) :
    Calls Try.prog 36 #[.agg #[.bool bad, .slice ak nk ck, .slice av nv cv], .string k, .bool eq] w fun e w' => e = .returned (.tuple #[.string (keyO (nextM k eq L)), .int .i64 (valO (nextM k eq L)), .bool (nextM k eq L).isSome]) ∧ Chg NoB w w' := by
  obtain ⟨A, R, hL, hA, g3, g4⟩ := atM_split k L ha
  obtain ⟨W1, hW1⟩ : ∃ W1, W1 = w.alloc (.cells #[.bool bad, .slice ak nk ck, .slice av nv cv] 42) := ⟨_, rfl⟩
  have k1 : Chg NoB w W1 := by rw [hW1]; exact (Chg.refl _ _).alloc _
  have hb : W1.heap[w.heap.size]? = some (.cells #[.bool bad, .slice ak nk ck, .slice av nv cv] 42 (0, 0)) := by rw [hW1]; exact heap_alloc_new _ _
  obtain ⟨b, hbb⟩ : ∃ b, b = w.heap.size := ⟨_, rfl⟩
  rw [← hbb] at hb
  have e0 : W1.cell? ⟨b, 0, none⟩ = some (.bool bad) := by rw [cell_of_row W1 b 0 _ _ _ hb]; rfl
  have e1 : W1.cell? ⟨b, 1, none⟩ = some (.slice ak nk ck) := by rw [cell_of_row W1 b 1 _ _ _ hb]; rfl
  have e2 : W1.cell? ⟨b, 2, none⟩ = some (.slice av nv cv) := by rw [cell_of_row W1 b 2 _ _ _ hb]; rfl
  have ca := at51 bad ak nk ck (.slice av nv cv) k (L.map Prod.fst) W1 (hk.chg k1 fun _ _ h => h) (by simpa using hl)
  rw [← hA] at ca
  have ca' := Hid.mk' ca
  have hn : nk = L.length := by simpa using hk.cap_le.1
  have hrK := Hid.mk' (hk.chg k1 fun _ _ h => h)
  have hrV := Hid.mk' (hv.chg k1 fun _ _ h => h)
  obtain ⟨q, hq⟩ : ∃ q, A.length = q := ⟨_, rfl⟩
  rw [hq] at ca'
  have hW' := Hid.mk' hW1
  have hbb' := Hid.mk' hbb
  have k1' := Hid.mk' k1
  have n1 : nk ≤ 1000000 := by omega
  clear ca hb hW1 hbb k1 hk hv
  have hnx : nextM k eq L = nextM k eq R := by rw [hL, nextM_append, nextM_lt g3, Option.none_or]
  rw [hnx]
  cases R with
  | nil =>
    obtain rfl : q = nk := by rw [← hq, hn, hL]; simp
    have z1 : ((q : Int) == (q : Int)) = true := by simp
    have z2 : decide ((q : Int) < (q : Int)) = false := by simp
    have z3 : decide (q < q) = false := by simp
    clear hq hn hL hnx g3 g4 hA
    go_enter Try.func36, Try.ntmps36
    go_wp2_with fail
    rw [← hW'.out, ← hbb'.out]
    refine ca'.out.mono ?_
    rintro e w2 ⟨rfl, k2⟩
    have f1 := k2.cell (fun h => h) e1
    have k2' := Hid.mk' k2
    clear e0 e1 e2 ca' k2
    go_wp2_with fail
    go_ret3
    exact ⟨rfl, k1'.out.trans k2'.out⟩
  | cons e R =>
    obtain ⟨x, y⟩ := e
    have hx : kl x k = false := g4 _ rfl
    have hqn : q < nk := by rw [← hq, hn, hL]; simp
    have z1 : ((q : Int) == (nk : Int)) = false := by rw [beq_eq_false_iff_ne]; omega
    have z2 : (q == nk) = false := by rw [beq_eq_false_iff_ne]; omega
    have z3 : (q : Int) < (nk : Int) := by omega
    have z4 : (0 : Int) ≤ (q : Int) := by omega
    have hqL : L[q]? = some (x, y) := by rw [hL, ← hq]; simp
    obtain ⟨gk, gv, rfl, rfl, ce, cf, -, z5⟩ := map_cells hrK.out hrV.out q x y hqL
    have z6 : (q : Int) < (nv : Int) := by omega
    by_cases hxk : x = k
    · subst hxk
      have t1 : (x.toList == x.toList) = true := by simp
      have t2 : (x.toList != x.toList) = false := by simp
      cases eq
      · have n3 : IntKind.i64.wrap ((q : Int) + 1) = (q : Int) + 1 := by rw [IntKind.wrap_i64]; omega
        rw [nextM_pass] at hnx ⊢
        have hgt : ∀ e ∈ R, kl x e.1 = true := by
          rw [hL] at ha
          exact (List.pairwise_cons.1 ha.right).1
        rw [nextM_gt hgt] at hnx ⊢
        cases R with
        | nil =>
          have y1 : q + 1 = nk := by rw [← hq, hn, hL]; simp
          have y2 : ((q : Int) + 1 == (nk : Int)) = true := by rw [beq_iff_eq]; omega
          have y3 : (q + 1 == nk) = true := by rw [beq_iff_eq]; omega
          clear hq hn hL hnx g3 g4 hA hqL hx y1
          go_enter Try.func36, Try.ntmps36
          go_wp2_with fail
          rw [← hW'.out, ← hbb'.out]
          refine ca'.out.mono ?_
          rintro e w2 ⟨rfl, k2⟩
          have f1 := k2.cell (fun h => h) e1
          have f3 := k2.cell (fun h => h) ce
          have k2' := Hid.mk' k2
          clear e0 e1 e2 ca' k2 ce cf
          go_wp2_with fail
          go_ret3
          exact ⟨rfl, k1'.out.trans k2'.out⟩
        | cons e2' R =>
          obtain ⟨x2, y2⟩ := e2'
          have hqL2 : L[q + 1]? = some (x2, y2) := by rw [hL, ← hq]; simp
          obtain ⟨gk', gv', h1', h2', cg, ch, y1, y3⟩ := map_cells hrK.out hrV.out (q + 1) x2 y2 hqL2
          cases h1'
          cases h2'
          have y4 : ((q : Int) + 1 == (nk : Int)) = false := by rw [beq_eq_false_iff_ne]; omega
          have y5 : (q + 1 == nk) = false := by rw [beq_eq_false_iff_ne]; omega
          have y6 : (q : Int) + 1 < (nk : Int) := by omega
          have y7 : (q : Int) + 1 < (nv : Int) := by omega
          have y8 : (0 : Int) ≤ (q : Int) + 1 := by omega
          have y9 : ((q : Int) + 1).toNat = q + 1 := by omega
          clear hq hn hL hnx g3 g4 hA hqL hx hqL2
          go_enter Try.func36, Try.ntmps36
          go_wp2_with fail
          rw [← hW'.out, ← hbb'.out]
          refine ca'.out.mono ?_
          rintro e w2 ⟨rfl, k2⟩
          have f1 := k2.cell (fun h => h) e1
          have f2 := k2.cell (fun h => h) e2
          have f3 := k2.cell (fun h => h) ce
          have f5 := k2.cell (fun h => h) cg
          have f6 := k2.cell (fun h => h) ch
          have k2' := Hid.mk' k2
          clear e0 e1 e2 ca' k2 ce cf cg ch
          go_wp2_with fail
          go_quiet (fail)
          go_wp2_with fail
          go_ret3
          exact ⟨rfl, (k1'.out.trans k2'.out).drewN _⟩
      · rw [nextM_hit] at hnx ⊢
        clear hq hn hL hnx g3 g4 hA hqL hx
        go_enter Try.func36, Try.ntmps36
        go_wp2_with fail
        rw [← hW'.out, ← hbb'.out]
        refine ca'.out.mono ?_
        rintro e w2 ⟨rfl, k2⟩
        have f1 := k2.cell (fun h => h) e1
        have f2 := k2.cell (fun h => h) e2
        have f3 := k2.cell (fun h => h) ce
        have f4 := k2.cell (fun h => h) cf
        have k2' := Hid.mk' k2
        clear e0 e1 e2 ca' k2 ce cf
        go_wp2_with fail
        go_quiet (fail)
        go_wp2_with fail
        go_ret3
        exact ⟨rfl, (k1'.out.trans k2'.out).drewN _⟩
    · have hkx : kl k x = true := by
        cases h3 : kl k x
        · exact (hxk (kl_tri hx h3)).elim
        · rfl
      have hgt : ∀ e ∈ (x, y) :: R, kl k e.1 = true := by
        intro e he
        rw [hL] at ha
        have h5 := (List.pairwise_cons.1 ha.right).1
        rcases List.mem_cons.1 he with rfl | he
        · exact hkx
        · exact kl_trans hkx (h5 e he)
      rw [nextM_gt hgt] at hnx ⊢
      have t1 : (x.toList == k.toList) = false := by rw [beq_eq_false_iff_ne]; exact fun h => hxk ((str_list_eq _ _).1 h)
      have t2 : (x.toList != k.toList) = true := by rw [bne_iff_ne]; exact fun h => hxk ((str_list_eq _ _).1 h)
      clear hq hn hL hnx g3 g4 hA hqL hx hxk hkx hgt
      go_enter Try.func36, Try.ntmps36
      go_wp2_with fail
      rw [← hW'.out, ← hbb'.out]
      refine ca'.out.mono ?_
      rintro e w2 ⟨rfl, k2⟩
      have f1 := k2.cell (fun h => h) e1
      have f2 := k2.cell (fun h => h) e2
      have f3 := k2.cell (fun h => h) ce
      have f4 := k2.cell (fun h => h) cf
      have k2' := Hid.mk' k2
      clear e0 e1 e2 ca' k2 ce cf
      go_wp2_with fail
      go_quiet (fail)
      go_wp2_with fail
      go_ret3
      exact ⟨rfl, (k1'.out.trans k2'.out).drewN _⟩

/-- What Range's loop gathers. -/
def rngGo (p : ByteArray) (most : Int) : List ByteArray → List ByteArray → List ByteArray
  | out, [] => out
  | out, k :: ks => if (out.length : Int) < most then rngGo p most (if preB p k = true then out ++ [k] else out) ks else out
theorem rngGo_eq (p : ByteArray) (most : Int) : ∀ (ks out : List ByteArray), rngGo p most out ks = out ++ (ks.filter (preB p)).take (most - out.length).toNat
  | [], out => by simp [rngGo]
  | k :: ks, out => by
    rw [rngGo]
    by_cases hm : (out.length : Int) < most
    · rw [if_pos hm, rngGo_eq p most ks]
      cases hp : preB p k
      · simp [hp]
      · obtain ⟨n, hn⟩ : ∃ n, (most - out.length).toNat = n + 1 := ⟨(most - out.length).toNat - 1, by omega⟩
        rw [if_pos rfl, List.filter_cons, if_pos hp, hn, List.take_succ_cons, show (most - ((out ++ [k]).length : Int)).toNat = n by simp; omega]
        simp
    · rw [if_neg hm, show (most - (out.length : Int)).toNat = 0 by omega]; simp
theorem rngGo_range (p : ByteArray) (most : Int) (L : List E) : rngGo p most [] (L.map Prod.fst) = rangeM p most L := by
  rw [rngGo_eq]; simp [rangeM]

set_option maxHeartbeats 8000000 in
set_option maxRecDepth 100000 in
theorem range37 (bad : Bool) (ak : Option Addr) (nk ck : Nat) (vv : Value) (p : ByteArray) (most : Int) (ks : List ByteArray) (w : World) (hk : Row w 9 (.slice ak nk ck) (ks.map Value.string)) (hl : ks.length ≤ 1000) :
    Calls Try.prog 37 #[.agg #[.bool bad, .slice ak nk ck, vv], .string p, .int .i64 most] w fun e w' => ∃ v, e = .returned v ∧ Row w' 9 v ((rngGo p most [] ks).map Value.string) ∧ Chg NoB w w' := by
  obtain ⟨W1, hW1⟩ : ∃ W1, W1 = w.alloc (.cells #[.bool bad, .slice ak nk ck, vv] 42) := ⟨_, rfl⟩
  have k1 : Chg NoB w W1 := by rw [hW1]; exact (Chg.refl _ _).alloc _
  have hb : W1.heap[w.heap.size]? = some (.cells #[.bool bad, .slice ak nk ck, vv] 42 (0, 0)) := by rw [hW1]; exact heap_alloc_new _ _
  obtain ⟨b, hbb⟩ : ∃ b, b = w.heap.size := ⟨_, rfl⟩
  rw [← hbb] at hb
  have e1 : W1.cell? ⟨b, 1, none⟩ = some (.slice ak nk ck) := by rw [cell_of_row W1 b 1 _ _ _ hb]; rfl
  have hr := Hid.mk' (hk.chg k1 fun _ _ h => h)
  have hn : Hid (nk = ks.length) := by show _ = _; simpa using hk.cap_le.1
  have n1 : nk ≤ 1000 := by rw [hn.out]; exact hl
  obtain ⟨W2, hW2⟩ : ∃ W2, W2 = W1.alloc (.cells #[] 9) := ⟨_, rfl⟩
  have hsz : Hid (W1.heap.size = b + 1) := by show _ = _; rw [hW1, hbb]; simp
  have hz : Hid (Row W2 9 (.slice (some ⟨b + 1, 0, none⟩) 0 0) []) := by show Row _ _ _ _; rw [hW2, ← hsz.out]; exact Row.lit0 W1 9
  have k2 : Hid (Chg NoB W1 W2) := by show Chg _ _ _; rw [hW2]; exact (Chg.refl _ _).alloc _
  have k1' := Hid.mk' k1
  have e1' := Hid.mk' e1
  have hW' := Hid.mk' hW1
  have hW2' := Hid.mk' hW2
  have hbb' := Hid.mk' hbb
  obtain ⟨r, hr2⟩ : ∃ r, rngGo p most [] ks = r := ⟨_, rfl⟩
  rw [hr2]
  have hd := Hid.mk' (show rngGo p most [] (ks.drop 0) = r by simpa using hr2)
  clear hb hW1 hbb k1 hk hr2 hl e1 hW2
  go_enter Try.func37, Try.ntmps37
  go_wp2_with fail
  rw [← hW'.out, ← hbb'.out, ← hW2'.out]
  go_loopg [7, 8] nk (fun gq s7 s8 wr => ∃ (i : Nat) (out : List ByteArray), i + gq = nk ∧ s8 = .int .i64 (i : Int) ∧ Hid (rngGo p most out (ks.drop i) = r) ∧ Row wr 9 s7 (out.map Value.string) ∧ (∀ j, own s7 j → W1.heap.size ≤ j) ∧ Chg NoB W1 wr ∧ out.length ≤ i)
  case atStart => exact ⟨0, [], by omega, rfl, hd, by simpa using hz.out, fun j hj => by rw [own_slice] at hj; have := hsz.out; omega, k2.out, by simp⟩
  case round =>
    clear hd hz k2
    obtain ⟨i, out, hgi, rfl, hd, hrow, hown, kwr, hol⟩ := hrel
    obtain ⟨av, nv, cv, hvf, lv⟩ := hrow.form'
    subst hvf
    have hlv : Hid (nv = out.length) := by show _ = _; have := lv.out; simpa using this
    have hrow' := Hid.mk' hrow
    have hown' := Hid.mk' hown
    have kwr' := Hid.mk' kwr
    have hol' := Hid.mk' hol
    have e1 := kwr.cell (fun h => h) e1'.out
    have n3 : IntKind.i64.wrap ((i : Int) + 1) = (i : Int) + 1 := by rw [IntKind.wrap_i64]; omega
    clear hrow hown kwr lv hol
    by_cases hi : i < nk
    · have hi1 : i < ks.length := by have := hn.out; omega
      obtain ⟨g1, rfl, c1⟩ := row_str (hr.out.chg kwr'.out fun _ _ h => h) i hi1
      have hdr := hd.out
      rw [List.drop_eq_getElem_cons hi1, rngGo] at hdr
      obtain ⟨x, hx⟩ : ∃ x, ks[i] = x := ⟨_, rfl⟩
      rw [hx] at c1 hdr
      clear hx hi1 hd
      obtain ⟨g', rfl⟩ : ∃ g', gk = g' + 1 := ⟨gk - 1, by omega⟩
      have b1 : (i : Int) < (nk : Int) := by omega
      have b0 : (0 : Int) ≤ (i : Int) := by omega
      by_cases hm : (out.length : Int) < most
      · have hm1 : (nv : Int) < most := by rw [hlv.out]; exact hm
        rw [if_pos hm] at hdr
        by_cases hs : p.size ≤ x.size
        · have s1 : decide ((p.size : Int) ≤ (x.size : Int)) = true := by simp; omega
          have s2 : decide (p.size ≤ x.size) = true := by simp; omega
          have s3 : decide (0 ≤ (p.size : Int)) = true := by simp
          have s4 : (p.size ≤ x.size) = True := eq_true hs
          have hpe := pre_extract x p hs
          cases hp : preB p x
          · rw [hp] at hpe hdr
            have s5 : ((x.extract 0 p.size).toList == p.toList) = false := hpe
            rw [if_neg (by simp)] at hdr
            have hd' := Hid.mk' hdr
            clear hdr hm hp hpe hs
            go_wp2_with fail
            go_roundg g'
            case measure => omega
            case rel => exact ⟨i + 1, out, by omega, by simp, hd', hrow'.out, hown'.out, kwr'.out, by have := hol'.out; omega⟩
          · rw [hp] at hpe hdr
            have s5 : ((x.extract 0 p.size).toList == p.toList) = true := hpe
            rw [if_pos rfl] at hdr
            have hd' := Hid.mk' hdr
            obtain ⟨W3, hW3⟩ : ∃ W3, W3 = wr.alloc (.cells #[.string x] 9) := ⟨_, rfl⟩
            have rb : Hid (Row W3 9 (.slice av nv cv) (out.map Value.string)) := by show Row _ _ _ _; rw [hW3]; exact hrow'.out.al _
            have lit : Hid (Row W3 9 (.slice (some ⟨wr.heap.size, 0, none⟩) 1 1) [.string x]) := by show Row _ _ _ _; rw [hW3]; exact Row.lit wr 9 (.string x)
            have kW3 : Hid (Chg NoB wr W3) := by show Chg _ _ _; rw [hW3]; exact (Chg.refl _ _).alloc _
            have hW3' := Hid.mk' hW3
            have lA : Hid (((out.map Value.string).length + [Value.string x].length) * 16 ≤ 140737488355328 ∧ (out.map Value.string).length + [Value.string x].length ≤ 1099511627776) := by have := hol'.out; constructor <;> simp <;> omega
            clear hdr hm hp hpe hs hW3
            go_wp2_with (at_builtin; rw [← hW3'.out]; refine wpList_append_row _ rfl _ _ 34 9 (.string ⟨#[]⟩) 16 rfl Try.underlying34 info9 rfl (.slice av nv cv) (.slice (some ⟨wr.heap.size, 0, none⟩) 1 1) (out.map Value.string) [.string x] rfl rfl rb.out lit.out (by intro y hy; cases List.mem_singleton.1 hy; rfl) lA.out.1 lA.out.2 ?_; intro v5 w5 r5 o5 k5; obtain ⟨a5, n5, c5, rfl, l5⟩ := r5.form'; replace r5 := Hid.mk' r5; replace o5 := Hid.mk' o5; replace k5 := Hid.mk' k5)
            go_roundg g'
            case measure => omega
            case rel =>
              refine ⟨i + 1, out ++ [x], by omega, by simp, hd', by rw [List.map_append]; exact r5.out, fun j hj => (o5.out j hj).elim (hown'.out j) fun h => Nat.le_trans kwr'.out.size (Nat.le_trans kW3.out.size h.1), ?_, by have := hol'.out; simp; omega⟩
              exact (kwr'.out.trans kW3.out).trans' k5.out fun j hj => .inr (hown'.out j hj)
        · have s2 : decide (p.size ≤ x.size) = false := by simp; omega
          have s1 : decide ((p.size : Int) ≤ (x.size : Int)) = false := by simp; omega
          have hp : preB p x = false := by
            unfold preB
            cases hh : p.data.toList.isPrefixOf x.data.toList
            · rfl
            · have := (List.isPrefixOf_iff_prefix.1 hh).length_le
              simp only [Array.length_toList] at this
              exact (hs this).elim
          rw [hp, if_neg (by simp)] at hdr
          have hd' := Hid.mk' hdr
          clear hdr hm hp hs
          go_wp2_with fail
          go_roundg g'
          case measure => omega
          case rel => exact ⟨i + 1, out, by omega, by simp, hd', hrow'.out, hown'.out, kwr'.out, by have := hol'.out; omega⟩
      · have hm1 : ¬ ((nv : Int) < most) := by rw [hlv.out]; exact hm
        rw [if_neg hm] at hdr
        subst hdr
        clear hm
        go_wp2_with fail
        go_ret
        exact ⟨_, rfl, hrow'.out, k1'.out.trans kwr'.out⟩
    · have b1 : ¬ ((i : Int) < (nk : Int)) := by omega
      have b2 : decide ((i : Int) < (nk : Int)) = false := by simp; omega
      have b3 : decide (i < nk) = false := by simp; omega
      obtain rfl : out = r := by
        have := hd.out
        rw [List.drop_of_length_le (by have := hn.out; omega)] at this
        simpa [rngGo] using this
      clear hd
      go_wp2_with fail
      go_ret
      exact ⟨_, rfl, hrow'.out, k1'.out.trans kwr'.out⟩
end Go.Proofs.Ytamnmoejjjaegaa
