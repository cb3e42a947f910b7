/- What the law IndexOrdered returns: true, for every degree and every slice of calls. No conditions. -/
import Derived.Test.YtamnmoejjjaegaaOS
set_option linter.unusedVariables false
set_option linter.unusedSimpArgs false
namespace Go.Proofs.Ytamnmoejjjaegaa
open Go Go.RowKit Go.Proofs.YtamnmoejjjaegaaW.PrintLast

set_option maxHeartbeats 8000000 in
set_option maxRecDepth 100000 in
theorem ordered4 (d : Int) (A : Option Addr) (n c : Nat) (l : List St) (w : World) (h : Steps w A n l) :
    Calls Try.prog 4 #[.int .i64 d, .slice A n c] w fun e w' => e = .returned (.bool true) ∧ Chg NoB w w' := by
  have few : ∀ W, Chg NoB w W → Calls Try.prog 9 #[.slice A n c, .int .i64 300] W fun e w' => e = .returned (.bool (fewB 300 l)) ∧ W = w' := fun W hW => few9 A n c 300 l W (h.chg hW) (by omega)
  have few' := Hid.mk' few
  have lv := Hid.mk' (lives8 w)
  obtain ⟨r, hr⟩ : ∃ r, fewB 300 l = r := ⟨_, rfl⟩
  have hr' := Hid.mk' hr
  have h' := Hid.mk' h
  rw [hr] at few few'
  clear few hr h
  by_cases h1 : r = true ∧ 2 ≤ d ∧ d ≤ 32
  · obtain ⟨rfl, hd, hd2⟩ := h1
    obtain ⟨dd, rfl⟩ := Int.eq_ofNat_of_zero_le (show 0 ≤ d by omega)
    have hd' : 2 ≤ dd := by omega
    have hd2' : dd ≤ 32 := by omega
    have b1 : ¬ ((dd : Int) < 2) := by omega
    have b2 : ¬ (32 < (dd : Int)) := by omega
    have b1' : decide ((dd : Int) < 2) = false := by simp; omega
    have b2' : decide (32 < (dd : Int)) = false := by simp; omega
    have b1'' : decide (dd < 2) = false := by simp; omega
    have b2'' : decide (32 < dd) = false := by simp; omega
    have n300 : n ≤ 300 := by
      have := hr'.out
      simp only [fewB, Bool.and_eq_true, decide_eq_true_eq] at this
      have := h'.out.1
      omega
    go_enter Try.func4, Try.ntmps4
    go_wp2_with fail
    refine lv.out.mono ?_
    rintro e w1 ⟨rfl, k1⟩
    have k1' := Hid.mk' k1
    go_wp2_with fail
    refine (few'.out _ k1).mono ?_
    rintro e w2 ⟨rfl, rfl⟩
    go_wp2_with fail
    refine (TS.new k1 dd dd hd' hd2' rfl).mono ?_
    rintro e w2 ⟨p, rfl, t0⟩
    have o0 : Hid (OSt w ((w2.alloc (.cells #[] 9)).alloc (.cells #[] 3)) p dd [] (.slice (some ⟨w2.heap.size, 0, none⟩) 0 0) [] (.slice (some ⟨w2.heap.size + 1, 0, none⟩) 0 0) []) := OSt.start t0
    clear t0 k1
    go_wp2_with fail
    go_loopg [6, 7, 8] n (fun gq s6 s7 s8 wr => ∃ i L ks vs, i + gq = n ∧ s8 = .int .i64 (i : Int) ∧ OSt w wr p dd L s6 ks s7 vs ∧ Hid (Both ks vs L) ∧ L.length ≤ i)
    case atStart => exact ⟨0, [], [], [], by omega, rfl, o0.out, Both.nil, by simp⟩
    case round =>
      clear o0
      obtain ⟨i, L, ks, vs, hgi, rfl, ts, hB, hL⟩ := hrel
      have ts' := Hid.mk' ts
      have n3 : IntKind.i64.wrap ((i : Int) + 1) = (i : Int) + 1 := by rw [IntKind.wrap_i64]; omega
      obtain ⟨ak, nk, ck, hkf, lk⟩ := ts.rowK.form'
      obtain ⟨av, nv, cv, hvf, lw⟩ := ts.rowV.form'
      subst hkf
      subst hvf
      have lk' : Hid (nk = ks.length) := by show _ = _; have := lk.out; simpa using this
      have lw' : Hid (nv = nk) := by show _ = _; have := lw.out; have h2 := lk'.out; have h3 := hB.out.1; simp at this; omega
      obtain rfl : nv = nk := lw'.out
      have hkl : ks.length ≤ 300 := by have := hB.out.len; omega
      clear lk lw lw'
      by_cases hi : i < n
      · have hi2 : i < l.length := by have := h'.out.1; omega
        obtain ⟨s, hsi⟩ : ∃ s, l[i]? = some s := ⟨_, List.getElem?_eq_getElem hi2⟩
        obtain ⟨a, rfl, e0, e1, e2, e3⟩ := (h'.out.chg ts.chg0).2 i s hsi
        obtain ⟨kind, key, val, eq⟩ := s
        have hst : Hid (∀ W, Chg NoB w W → StepAt W (a.add (i * 4)) (kind, key, val, eq)) := fun W hW => by
          obtain ⟨a', ha', hs'⟩ := (h'.out.chg hW).2 i _ hsi
          cases ha'; exact hs'
        simp only at e0 e1 e2 e3
        have b3 : (i : Int) < (n : Int) := by omega
        obtain ⟨g', rfl⟩ : ∃ g', gk = g' + 1 := ⟨gk - 1, by omega⟩
        have hL1 : L.length ≤ 1000000 := by omega
        have pl := Hid.mk' (place15 _ key ks _ ts.rowK (by omega))
        have hpl := placeM_le key ks
        obtain ⟨m, hm⟩ : ∃ m, placeM key ks = m := ⟨_, rfl⟩
        rw [hm] at pl hpl
        have hm' := Hid.mk' hm
        have hm2 : m ≤ nv := by have := lk'.out; omega
        have hnk : nv ≤ 300 := by have := lk'.out; omega
        have hvl : Hid (vs.length = ks.length) := hB.out.1
        clear ts hsi hi2 hm
        by_cases hk1 : kind = 1
        · subst hk1
          have hdl := delM_le2 key L
          go_wp2_with fail
          refine pl.out.mono ?_
          rintro e w3 ⟨rfl, rfl⟩
          go_wp2_with fail
          refine (ts'.out.del key hd' hd2' hL1).mono ?_
          rintro e w3 ⟨⟨o, f, rfl⟩, t3⟩
          have t3' := Hid.mk' t3
          clear e0 e1 e2 e3 t3
          by_cases hlt : m < nv
          · have hlt1 : (m : Int) < (nv : Int) := by omega
            have hBd : Hid (Both (ks.take m ++ ks.drop (m + 1)) (vs.take m ++ vs.drop (m + 1)) (delM key L)) := by show Both _ _ _; rw [← hm'.out]; exact hB.out.drop key (by rw [hm'.out, ← lk'.out]; exact hlt)
            obtain ⟨gk, hgk, -⟩ := t3'.out.rowK.at (by simp; have := lk'.out; omega)
            obtain ⟨gv, hgv, -⟩ := t3'.out.rowV.at (by simp; have := lk'.out; have := hvl.out; omega)
            subst hgk
            subst hgv
            have cp2 := t3'.out.rowK.cap_le.2.1
            have s1 : Hid (Src w3 (.slice (some ⟨gk, 0, none⟩) m ck) ((ks.take m).map Value.string)) := by show Src _ _ _; rw [List.map_take]; exact (t3'.out.rowK.cut m (by omega)).src
            obtain ⟨q2, hq2, hif⟩ : ∃ q2, (nv - (m + 1) = 0 ∨ q2 = m + 1) ∧ (if ck = m + 1 then some (⟨gk, 0, none⟩ : Addr) else some ⟨gk, m + 1, none⟩) = some ⟨gk, q2, none⟩ := by
              by_cases hcap : ck = m + 1
              · exact ⟨0, .inl (by omega), by rw [if_pos hcap]⟩
              · exact ⟨m + 1, .inr rfl, by rw [if_neg hcap]⟩
            have s2 : Hid (Src w3 (.slice (some ⟨gk, q2, none⟩) (nv - (m + 1)) (ck - (m + 1))) ((ks.drop (m + 1)).map Value.string)) := by show Src _ _ _; rw [List.map_drop]; exact t3'.out.rowK.src_from (m + 1) _ _ rfl (by omega) _ hq2
            have m1 : (m : Int) ≤ (ck : Int) := by omega
            have m3 : (m : Int) + 1 ≤ (nv : Int) := by omega
            have lA : Hid (((([] : List Value)).length + ((ks.take m).map Value.string).length) * 16 ≤ 140737488355328 ∧ (([] : List Value)).length + ((ks.take m).map Value.string).length ≤ 1099511627776) := by constructor <;> simp <;> omega
            have lB : Hid ((((ks.take m).map Value.string).length + ((ks.drop (m + 1)).map Value.string).length) * 16 ≤ 140737488355328 ∧ ((ks.take m).map Value.string).length + ((ks.drop (m + 1)).map Value.string).length ≤ 1099511627776) := by constructor <;> simp <;> omega
            have m0 : (0 : Int) ≤ (m : Int) := by omega
            have m2 : (0 : Int) ≤ (m : Int) + 1 := by omega
            have m4 : ((m : Int) + 1).toNat = m + 1 := by omega
            have m5 : wrap64 ((m : Int) + 1) = (m : Int) + 1 := wrap64_small _ (by omega) (by omega)
            go_wp2_with fail
            refine start_ (n := 11) (S := fun w' => True) (ds := []) #[false, false, false, false, false, false, false, false, false, false, false] (by kernel_rfl) rfl rfl trivial (fun hHeld => ?_)
            refine pure_ (i := 1) (N := some 64) (v := ?_) (a' := ?_) #[false, true, false, false, false, false, false, false, false, false, false] rfl rfl (by kernel_rfl) (fun _ _ _ h => h) (Or.inl ⟨by rfl, ?_⟩) ?_ ?_
            rotate_left
            · intro w'
              go_simp
              with_reducible rfl
            rotate_left
            · simp only [Act.put, List.setIfInBounds_toArray, List.set_cons_zero, List.set_cons_succ, i64_w, i32_w]
              rfl
            refine pure_ (i := 2) (N := some 65) (v := ?_) (a' := ?_) #[false, true, true, false, false, false, false, false, false, false, false] rfl rfl (by kernel_rfl) (fun _ _ _ h => h) (Or.inl ⟨by rfl, ?_⟩) ?_ ?_
            rotate_left
            · intro w'
              go_simp
              with_reducible rfl
            rotate_left
            · simp only [Act.put, List.setIfInBounds_toArray, List.set_cons_zero, List.set_cons_succ, i64_w, i32_w]
              rfl
            refine pure_ (i := 3) (N := some 66) (v := ?_) (a' := ?_) #[false, true, true, true, false, false, false, false, false, false, false] rfl rfl (by kernel_rfl) (fun _ _ _ h => h) (Or.inl ⟨by rfl, ?_⟩) ?_ ?_
            rotate_left
            · intro w'
              go_simp
              with_reducible rfl
            rotate_left
            · simp only [Act.put, List.setIfInBounds_toArray, List.set_cons_zero, List.set_cons_succ, i64_w, i32_w]
              rfl
            refine pure_ (i := 5) (N := some 68) (v := ?_) (a' := ?_) #[false, true, true, true, false, true, false, false, false, false, false] rfl rfl (by kernel_rfl) (fun _ _ _ h => h) (Or.inl ⟨by rfl, ?_⟩) ?_ ?_
            rotate_left
            · intro w'
              go_simp
              with_reducible rfl
            rotate_left
            · simp only [Act.put, List.setIfInBounds_toArray, List.set_cons_zero, List.set_cons_succ, i64_w, i32_w]
              rfl
            refine pure_ (i := 6) (N := some 69) (v := ?_) (a' := ?_) #[false, true, true, true, false, true, true, false, false, false, false] rfl rfl (by kernel_rfl) (fun _ _ _ h => h) (Or.inl ⟨by rfl, ?_⟩) ?_ ?_
            rotate_left
            · intro w'
              go_simp
              with_reducible rfl
            rotate_left
            · simp only [Act.put, List.setIfInBounds_toArray, List.set_cons_zero, List.set_cons_succ, i64_w, i32_w]
              rfl
            refine pure_ (i := 7) (N := some 70) (v := ?_) (a' := ?_) #[false, true, true, true, false, true, true, true, false, false, false] rfl rfl (by kernel_rfl) (fun _ _ _ h => h) (Or.inl ⟨by rfl, ?_⟩) ?_ ?_
            rotate_left
            · intro w'
              go_simp
              with_reducible rfl
            rotate_left
            · simp only [Act.put, List.setIfInBounds_toArray, List.set_cons_zero, List.set_cons_succ, i64_w, i32_w]
              rfl
            refine pure_ (i := 8) (N := some 71) (v := ?_) (a' := ?_) #[false, true, true, true, false, true, true, true, true, false, false] rfl rfl (by kernel_rfl) (fun _ _ _ h => h) (Or.inl ⟨by rfl, ?_⟩) ?_ ?_
            rotate_left
            · intro w'
              go_simp
              with_reducible rfl
            rotate_left
            · simp only [Act.put, List.setIfInBounds_toArray, List.set_cons_zero, List.set_cons_succ, i64_w, i32_w]
              rfl
            refine one_ (i := 0) (N := some 63) #[true, true, true, true, false, true, true, true, true, false, false] rfl rfl (by kernel_rfl) (by decide) (fun K hK => ?_)
            refine value_ (w1 := ?_) (v := ?_) (by rfl) rfl ?_ ?_
            rotate_left 2
            · go_simp
              constructor
              · rfl
              · rfl
            refine hK.out _ _ trivial (fun hHeld => ?_)
            clear hK K
            refine norm_ (a' := ?_) ?_ ?_
            rotate_left
            · show Act.put _ (some 63) _ = _
              simp only [Act.put, List.setIfInBounds_toArray, List.set_cons_zero, List.set_cons_succ, i64_w, i32_w]
              rfl
            refine one_ (i := 4) (N := some 67) #[true, true, true, true, true, true, true, true, true, false, false] rfl rfl (by kernel_rfl) (by decide) (fun K hK => ?_)
            refine append_step_src (by rfl) rfl (.tmp 63) (.tmp 66) 34 9 (.string ⟨#[]⟩) 16 rfl Try.underlying34 info9 rfl (.slice (some ⟨w3.heap.size, 0, none⟩) 0 0) (.slice (some ⟨gk, 0, none⟩) m ck) [] ((ks.take m).map Value.string) (by rfl) (by rfl) (by first | exact Row.lit0D _ _ | exact Row.lit0 _ _) (by first | exact s1.out.alD _ | exact s1.out.al _) (str_cell _) lA.out.1 lA.out.2 ?_
            intro v5 w5 r5 o5 k5
            obtain ⟨a5, n5, c5, rfl, l5⟩ := r5.form'
            replace r5 := Hid.mk' r5; replace o5 := Hid.mk' o5; replace k5 := Hid.mk' k5
            refine hK.out _ _ trivial (fun hHeld => ?_)
            clear hK K
            refine norm_ (a' := ?_) ?_ ?_
            rotate_left
            · show Act.put _ (some 67) _ = _
              simp only [Act.put, List.setIfInBounds_toArray, List.set_cons_zero, List.set_cons_succ, i64_w, i32_w]
              rfl
            refine one_ (i := 9) (N := some 72) #[true, true, true, true, true, true, true, true, true, true, false] rfl rfl (by kernel_rfl) (by decide) (fun K hK => ?_)
            refine append_step_src (by rfl) rfl (.tmp 67) (.tmp 71) 34 9 (.string ⟨#[]⟩) 16 rfl Try.underlying34 info9 rfl (.slice a5 n5 c5) (.slice (some ⟨gk, q2, none⟩) (nv - (m + 1)) (ck - (m + 1))) ((ks.take m).map Value.string) ((ks.drop (m + 1)).map Value.string) (by rfl) (by rfl) (by simpa using r5.out) ?_ (str_cell _) lB.out.1 lB.out.2 ?_
            exact s2.out.chg (by first | exact lit_oneD k5.out | exact lit_one k5.out) (fun _ _ h => h)
            intro v6 w6 r6 o6 k6
            obtain ⟨a6, n6, c6, rfl, l6⟩ := r6.form'
            replace r6 := Hid.mk' r6; replace o6 := Hid.mk' o6; replace k6 := Hid.mk' k6
            refine hK.out _ _ trivial (fun hHeld => ?_)
            clear hK K
            refine norm_ (a' := ?_) ?_ ?_
            rotate_left
            · show Act.put _ (some 72) _ = _
              simp only [Act.put, List.setIfInBounds_toArray, List.set_cons_zero, List.set_cons_succ, i64_w, i32_w]
              rfl
            refine pure_ (i := 10) (N := some 6) (v := ?_) (a' := ?_) #[true, true, true, true, true, true, true, true, true, true, true] rfl rfl (by kernel_rfl) (fun _ _ _ h => h) (Or.inl ⟨by rfl, ?_⟩) ?_ ?_
            rotate_left
            · intro w'
              go_simp
              with_reducible rfl
            rotate_left
            · simp only [Act.put, List.setIfInBounds_toArray, List.set_cons_zero, List.set_cons_succ, i64_w, i32_w]
              rfl
            refine done_ (by kernel_rfl) ?_
            obtain ⟨k7, o7⟩ := lit_two (by first | exact k5.out | exact k5.out.undrew) o5.out k6.out o6.out
            have t4 : Hid (OSt w w6 p dd (delM key L) (.slice a6 n6 c6) (ks.take m ++ ks.drop (m + 1)) (.slice (some ⟨gv, 0, none⟩) nv cv) vs) := t3'.out.keys (k7.mono fun _ h => h.elim) (by rw [List.map_append]; exact r6.out) (fun j hj => .inr (o7 j hj))
            obtain ⟨A6, N6, C6, hS6⟩ : ∃ A6 N6 C6, (Value.slice a6 n6 c6) = .slice A6 N6 C6 := ⟨_, _, _, rfl⟩
            clear cp2 s1 hq2 hif s2 m1 m0 m2 m3 m4 m5 lA lB k7 o7 k5 o5 k6 o6 r5 r6 l5 l6 hS6
            go_wp2_with fail
            have hvl2 := hvl.out
            have cp2 := t4.out.rowV.cap_le.2.1
            have s1 : Hid (Src w6 (.slice (some ⟨gv, 0, none⟩) m cv) ((vs.take m).map (Value.int .i64))) := by show Src _ _ _; rw [List.map_take]; exact (t4.out.rowV.cut m (by omega)).src
            obtain ⟨q2, hq2, hif⟩ : ∃ q2, (nv - (m + 1) = 0 ∨ q2 = m + 1) ∧ (if cv = m + 1 then some (⟨gv, 0, none⟩ : Addr) else some ⟨gv, m + 1, none⟩) = some ⟨gv, q2, none⟩ := by
              by_cases hcap : cv = m + 1
              · exact ⟨0, .inl (by omega), by rw [if_pos hcap]⟩
              · exact ⟨m + 1, .inr rfl, by rw [if_neg hcap]⟩
            have s2 : Hid (Src w6 (.slice (some ⟨gv, q2, none⟩) (nv - (m + 1)) (cv - (m + 1))) ((vs.drop (m + 1)).map (Value.int .i64))) := by show Src _ _ _; rw [List.map_drop]; exact t4.out.rowV.src_from (m + 1) _ _ rfl (by omega) _ hq2
            have m1 : (m : Int) ≤ (cv : Int) := by omega
            have m3 : (m : Int) + 1 ≤ (nv : Int) := by omega
            have lA : Hid (((([] : List Value)).length + ((vs.take m).map (Value.int .i64)).length) * 8 ≤ 140737488355328 ∧ (([] : List Value)).length + ((vs.take m).map (Value.int .i64)).length ≤ 1099511627776) := by constructor <;> simp <;> omega
            have lB : Hid ((((vs.take m).map (Value.int .i64)).length + ((vs.drop (m + 1)).map (Value.int .i64)).length) * 8 ≤ 140737488355328 ∧ ((vs.take m).map (Value.int .i64)).length + ((vs.drop (m + 1)).map (Value.int .i64)).length ≤ 1099511627776) := by constructor <;> simp <;> omega
            have m0 : (0 : Int) ≤ (m : Int) := by omega
            have m2 : (0 : Int) ≤ (m : Int) + 1 := by omega
            have m4 : ((m : Int) + 1).toNat = m + 1 := by omega
            have m5 : wrap64 ((m : Int) + 1) = (m : Int) + 1 := wrap64_small _ (by omega) (by omega)
            replace hvl2 := Hid.mk' hvl2
            clear hvl2
            refine start_ (n := 11) (S := fun w' => True) (ds := []) #[false, false, false, false, false, false, false, false, false, false, false] (by kernel_rfl) rfl rfl trivial (fun hHeld => ?_)
            refine pure_ (i := 1) (N := some 74) (v := ?_) (a' := ?_) #[false, true, false, false, false, false, false, false, false, false, false] rfl rfl (by kernel_rfl) (fun _ _ _ h => h) (Or.inl ⟨by rfl, ?_⟩) ?_ ?_
            rotate_left
            · intro w'
              go_simp
              with_reducible rfl
            rotate_left
            · simp only [Act.put, List.setIfInBounds_toArray, List.set_cons_zero, List.set_cons_succ, i64_w, i32_w]
              rfl
            refine pure_ (i := 2) (N := some 75) (v := ?_) (a' := ?_) #[false, true, true, false, false, false, false, false, false, false, false] rfl rfl (by kernel_rfl) (fun _ _ _ h => h) (Or.inl ⟨by rfl, ?_⟩) ?_ ?_
            rotate_left
            · intro w'
              go_simp
              with_reducible rfl
            rotate_left
            · simp only [Act.put, List.setIfInBounds_toArray, List.set_cons_zero, List.set_cons_succ, i64_w, i32_w]
              rfl
            refine pure_ (i := 3) (N := some 76) (v := ?_) (a' := ?_) #[false, true, true, true, false, false, false, false, false, false, false] rfl rfl (by kernel_rfl) (fun _ _ _ h => h) (Or.inl ⟨by rfl, ?_⟩) ?_ ?_
            rotate_left
            · intro w'
              go_simp
              with_reducible rfl
            rotate_left
            · simp only [Act.put, List.setIfInBounds_toArray, List.set_cons_zero, List.set_cons_succ, i64_w, i32_w]
              rfl
            refine pure_ (i := 5) (N := some 78) (v := ?_) (a' := ?_) #[false, true, true, true, false, true, false, false, false, false, false] rfl rfl (by kernel_rfl) (fun _ _ _ h => h) (Or.inl ⟨by rfl, ?_⟩) ?_ ?_
            rotate_left
            · intro w'
              go_simp
              with_reducible rfl
            rotate_left
            · simp only [Act.put, List.setIfInBounds_toArray, List.set_cons_zero, List.set_cons_succ, i64_w, i32_w]
              rfl
            refine pure_ (i := 6) (N := some 79) (v := ?_) (a' := ?_) #[false, true, true, true, false, true, true, false, false, false, false] rfl rfl (by kernel_rfl) (fun _ _ _ h => h) (Or.inl ⟨by rfl, ?_⟩) ?_ ?_
            rotate_left
            · intro w'
              go_simp
              with_reducible rfl
            rotate_left
            · simp only [Act.put, List.setIfInBounds_toArray, List.set_cons_zero, List.set_cons_succ, i64_w, i32_w]
              rfl
            refine pure_ (i := 7) (N := some 80) (v := ?_) (a' := ?_) #[false, true, true, true, false, true, true, true, false, false, false] rfl rfl (by kernel_rfl) (fun _ _ _ h => h) (Or.inl ⟨by rfl, ?_⟩) ?_ ?_
            rotate_left
            · intro w'
              go_simp
              with_reducible rfl
            rotate_left
            · simp only [Act.put, List.setIfInBounds_toArray, List.set_cons_zero, List.set_cons_succ, i64_w, i32_w]
              rfl
            refine pure_ (i := 8) (N := some 81) (v := ?_) (a' := ?_) #[false, true, true, true, false, true, true, true, true, false, false] rfl rfl (by kernel_rfl) (fun _ _ _ h => h) (Or.inl ⟨by rfl, ?_⟩) ?_ ?_
            rotate_left
            · intro w'
              go_simp
              with_reducible rfl
            rotate_left
            · simp only [Act.put, List.setIfInBounds_toArray, List.set_cons_zero, List.set_cons_succ, i64_w, i32_w]
              rfl
            refine one_ (i := 0) (N := some 73) #[true, true, true, true, false, true, true, true, true, false, false] rfl rfl (by kernel_rfl) (by decide) (fun K hK => ?_)
            refine value_ (w1 := ?_) (v := ?_) (by rfl) rfl ?_ ?_
            rotate_left 2
            · go_simp
              constructor
              · rfl
              · rfl
            refine hK.out _ _ trivial (fun hHeld => ?_)
            clear hK K
            refine norm_ (a' := ?_) ?_ ?_
            rotate_left
            · show Act.put _ (some 73) _ = _
              simp only [Act.put, List.setIfInBounds_toArray, List.set_cons_zero, List.set_cons_succ, i64_w, i32_w]
              rfl
            refine one_ (i := 4) (N := some 77) #[true, true, true, true, true, true, true, true, true, false, false] rfl rfl (by kernel_rfl) (by decide) (fun K hK => ?_)
            refine append_step_src (by rfl) rfl (.tmp 73) (.tmp 76) 35 3 (.int .i64 0) 8 rfl Try.underlying35 info3 rfl (.slice (some ⟨w6.heap.size, 0, none⟩) 0 0) (.slice (some ⟨gv, 0, none⟩) m cv) [] ((vs.take m).map (Value.int .i64)) (by rfl) (by rfl) (by first | exact Row.lit0D _ _ | exact Row.lit0 _ _) (by first | exact s1.out.alD _ | exact s1.out.al _) (int_cell _) lA.out.1 lA.out.2 ?_
            intro v5 w8 r5 o5 k5
            obtain ⟨a8, n8, c8, rfl, l5⟩ := r5.form'
            replace r5 := Hid.mk' r5; replace o5 := Hid.mk' o5; replace k5 := Hid.mk' k5
            refine hK.out _ _ trivial (fun hHeld => ?_)
            clear hK K
            refine norm_ (a' := ?_) ?_ ?_
            rotate_left
            · show Act.put _ (some 77) _ = _
              simp only [Act.put, List.setIfInBounds_toArray, List.set_cons_zero, List.set_cons_succ, i64_w, i32_w]
              rfl
            refine one_ (i := 9) (N := some 82) #[true, true, true, true, true, true, true, true, true, true, false] rfl rfl (by kernel_rfl) (by decide) (fun K hK => ?_)
            refine append_step_src (by rfl) rfl (.tmp 77) (.tmp 81) 35 3 (.int .i64 0) 8 rfl Try.underlying35 info3 rfl (.slice a8 n8 c8) (.slice (some ⟨gv, q2, none⟩) (nv - (m + 1)) (cv - (m + 1))) ((vs.take m).map (Value.int .i64)) ((vs.drop (m + 1)).map (Value.int .i64)) (by rfl) (by rfl) (by simpa using r5.out) ?_ (int_cell _) lB.out.1 lB.out.2 ?_
            exact s2.out.chg (by first | exact lit_oneD k5.out | exact lit_one k5.out) (fun _ _ h => h)
            intro v6 w9 r6 o6 k6
            obtain ⟨a9, n9, c9, rfl, l6⟩ := r6.form'
            replace r6 := Hid.mk' r6; replace o6 := Hid.mk' o6; replace k6 := Hid.mk' k6
            refine hK.out _ _ trivial (fun hHeld => ?_)
            clear hK K
            refine norm_ (a' := ?_) ?_ ?_
            rotate_left
            · show Act.put _ (some 82) _ = _
              simp only [Act.put, List.setIfInBounds_toArray, List.set_cons_zero, List.set_cons_succ, i64_w, i32_w]
              rfl
            refine pure_ (i := 10) (N := some 7) (v := ?_) (a' := ?_) #[true, true, true, true, true, true, true, true, true, true, true] rfl rfl (by kernel_rfl) (fun _ _ _ h => h) (Or.inl ⟨by rfl, ?_⟩) ?_ ?_
            rotate_left
            · intro w'
              go_simp
              with_reducible rfl
            rotate_left
            · simp only [Act.put, List.setIfInBounds_toArray, List.set_cons_zero, List.set_cons_succ, i64_w, i32_w]
              rfl
            refine done_ (by kernel_rfl) ?_
            obtain ⟨k7, o7⟩ := lit_two (by first | exact k5.out | exact k5.out.undrew) o5.out k6.out o6.out
            have t5 : Hid (OSt w w9 p dd (delM key L) (.slice a6 n6 c6) (ks.take m ++ ks.drop (m + 1)) (.slice a9 n9 c9) (vs.take m ++ vs.drop (m + 1))) := t4.out.vals (k7.mono fun _ h => h.elim) (by rw [List.map_append]; exact r6.out) (fun j hj => .inr (o7 j hj))
            clear cp2 s1 hq2 hif s2 m1 m0 m2 m3 m4 m5 lA lB k7 o7 k5 o5 k6 o6 r5 r6 l5 l6
            go_wp2_with fail
            go_roundg g'
            case measure => omega
            case rel => exact ⟨i + 1, _, _, _, by omega, by simp, t5.out, hBd, by omega⟩
          · have hlt1 : ¬ ((m : Int) < (nv : Int)) := by omega
            have hlt2 : decide (m < nv) = false := by simp; omega
            go_wp2_with fail
            go_roundg g'
            case measure => omega
            case rel => exact ⟨i + 1, _, ks, vs, by omega, by simp, t3'.out, hB.out.keep key (by rw [hm'.out, ← lk'.out]; exact hlt), by omega⟩
        · have c1 : (kind == 1) = false := by rw [beq_eq_false_iff_ne]; exact hk1
          have hil := insM_le2 key val L
          have put1 : Hid (Calls Try.prog 13 #[.pointer (some ⟨p, 0, none⟩), .string key, .int .i64 val] wr fun e w' => (∃ o f, e = .returned (.tuple #[.int .i64 o, .bool f])) ∧ OSt w w' p dd (insM key val L) (.slice ak nv ck) ks (.slice av nv cv) vs) := ts'.out.put key val hd' hd2' hL1
          have put2 : Hid (Calls Try.prog 13 #[.pointer (some ⟨p, 0, none⟩), .string key, .int .i64 val] wr.drew fun e w' => (∃ o f, e = .returned (.tuple #[.int .i64 o, .bool f])) ∧ OSt w w' p dd (insM key val L) (.slice ak nv ck) ks (.slice av nv cv) vs) := (ts'.out.chg (Chg.refl NoB wr).drew).put key val hd' hd2' hL1
          go_wp2_with fail
          refine pl.out.mono ?_
          rintro e w3 ⟨rfl, rfl⟩
          go_upto_region 17 with (fail)
          refine start_ (n := 12) (S := fun w' => w'.cell? ⟨(a.add (i * 4)).block, (a.add (i * 4)).off + 1, none⟩ = some (.string key) ∧ w'.cell? ⟨(a.add (i * 4)).block, (a.add (i * 4)).off + 2, none⟩ = some (.int .i64 val)) (ds := [11]) #[false, false, false, false, false, false, false, false, false, false, false, false] (by kernel_rfl) rfl rfl ⟨e1, e2⟩ (fun hHeld => ?_)
          refine pure_ (i := 0) (N := some 83) (v := ?_) (a' := ?_) #[true, false, false, false, false, false, false, false, false, false, false, false] rfl rfl (by kernel_rfl) (fun _ _ _ h => h) (Or.inl ⟨by rfl, ?_⟩) ?_ ?_
          rotate_left
          · intro w'
            go_simp
            with_reducible rfl
          rotate_left
          · simp only [Act.put, List.setIfInBounds_toArray, List.set_cons_zero, List.set_cons_succ, i64_w, i32_w]
            rfl
          refine pure_ (i := 1) (N := some 84) (v := ?_) (a' := ?_) #[true, true, false, false, false, false, false, false, false, false, false, false] rfl rfl (by kernel_rfl) (fun _ _ _ h => h) (Or.inl ⟨by rfl, ?_⟩) ?_ ?_
          rotate_left
          · intro w'
            go_simp
            with_reducible rfl
          rotate_left
          · simp only [Act.put, List.setIfInBounds_toArray, List.set_cons_zero, List.set_cons_succ, i64_w, i32_w]
            rfl
          refine pure_ (i := 2) (N := some 85) (v := ?_) (a' := ?_) #[true, true, true, false, false, false, false, false, false, false, false, false] rfl rfl (by kernel_rfl) (fun _ _ _ h => h) (Or.inl ⟨by rfl, ?_⟩) ?_ ?_
          rotate_left
          · intro w'
            go_simp
            with_reducible rfl
          rotate_left
          · simp only [Act.put, List.setIfInBounds_toArray, List.set_cons_zero, List.set_cons_succ, i64_w, i32_w]
            rfl
          refine pure_ (i := 3) (N := some 86) (v := ?_) (a' := ?_) #[true, true, true, true, false, false, false, false, false, false, false, false] rfl rfl (by kernel_rfl) (fun _ _ _ h => h) (Or.inl ⟨by rfl, ?_⟩) ?_ ?_
          rotate_left
          · intro w'
            go_simp
            with_reducible rfl
          rotate_left
          · simp only [Act.put, List.setIfInBounds_toArray, List.set_cons_zero, List.set_cons_succ, i64_w, i32_w]
            rfl
          refine pure_ (i := 4) (N := some 87) (v := ?_) (a' := ?_) #[true, true, true, true, true, false, false, false, false, false, false, false] rfl rfl (by kernel_rfl) (fun _ _ _ h => h) (Or.inl ⟨by rfl, ?_⟩) ?_ ?_
          rotate_left
          · intro w'
            go_simp
            with_reducible rfl
          rotate_left
          · simp only [Act.put, List.setIfInBounds_toArray, List.set_cons_zero, List.set_cons_succ, i64_w, i32_w]
            rfl
          refine pure_ (i := 6) (N := some 89) (v := ?_) (a' := ?_) #[true, true, true, true, true, false, true, false, false, false, false, false] rfl rfl (by kernel_rfl) (fun _ _ _ h => h) (Or.inl ⟨by rfl, ?_⟩) ?_ ?_
          rotate_left
          · intro w'
            go_simp
            with_reducible rfl
          rotate_left
          · simp only [Act.put, List.setIfInBounds_toArray, List.set_cons_zero, List.set_cons_succ, i64_w, i32_w]
            rfl
          refine pure_ (i := 7) (N := some 90) (v := ?_) (a' := ?_) #[true, true, true, true, true, false, true, true, false, false, false, false] rfl rfl (by kernel_rfl) (fun _ _ _ h => h) (Or.inl ⟨by rfl, ?_⟩) ?_ ?_
          rotate_left
          · intro w'
            go_simp
            with_reducible rfl
          rotate_left
          · simp only [Act.put, List.setIfInBounds_toArray, List.set_cons_zero, List.set_cons_succ, i64_w, i32_w]
            rfl
          refine pure_ (i := 8) (N := some 91) (v := ?_) (a' := ?_) #[true, true, true, true, true, false, true, true, true, false, false, false] rfl rfl (by kernel_rfl) (fun _ _ _ h => h) (Or.inl ⟨by rfl, ?_⟩) ?_ ?_
          rotate_left
          · intro w'
            go_simp
            with_reducible rfl
          rotate_left
          · simp only [Act.put, List.setIfInBounds_toArray, List.set_cons_zero, List.set_cons_succ, i64_w, i32_w]
            rfl
          refine pure_ (i := 9) (N := some 92) (v := ?_) (a' := ?_) #[true, true, true, true, true, false, true, true, true, true, false, false] rfl rfl (by kernel_rfl) (fun _ _ _ h => h) (Or.inl ⟨by rfl, ?_⟩) ?_ ?_
          rotate_left
          · intro w'
            go_simp
            with_reducible rfl
          rotate_left
          · simp only [Act.put, List.setIfInBounds_toArray, List.set_cons_zero, List.set_cons_succ, i64_w, i32_w]
            rfl
          refine take_ (i := 5) (N := some 88) (v := ?_) (a' := ?_) #[true, true, true, true, true, true, true, true, true, true, false, false] rfl rfl (by kernel_rfl) (fun _ _ _ h => h) (Or.inl ⟨by rfl, ?_⟩) hHeld ?_ ?_
          rotate_left
          · rintro w' ⟨s0, s1⟩
            go_simp
            with_reducible rfl
          rotate_left
          · simp only [Act.put, List.setIfInBounds_toArray, List.set_cons_zero, List.set_cons_succ, i64_w, i32_w]
            rfl
          refine take_ (i := 10) (N := some 93) (v := ?_) (a' := ?_) #[true, true, true, true, true, true, true, true, true, true, true, false] rfl rfl (by kernel_rfl) (fun _ _ _ h => h) (Or.inl ⟨by rfl, ?_⟩) hHeld ?_ ?_
          rotate_left
          · rintro w' ⟨s0, s1⟩
            go_simp
            with_reducible rfl
          rotate_left
          · simp only [Act.put, List.setIfInBounds_toArray, List.set_cons_zero, List.set_cons_succ, i64_w, i32_w]
            rfl
          refine last_ (i := 11) (N := some 94) #[true, true, true, true, true, true, true, true, true, true, true, true] rfl rfl (by kernel_rfl) (by decide) (fun K hK => ?_)
          refine goes_ Try.func13 (by kernel_rfl) rfl #[.pointer (some ⟨p, 0, none⟩), .string key, .int .i64 val] (by rfl) rfl rfl (by simp only [List.map_toArray, List.map_cons, List.map_nil]; rfl) ?_
          first | with_reducible refine put1.out.mono ?_ | with_reducible refine put2.out.mono ?_
          rintro e w3 ⟨⟨o3, f3, rfl⟩, t3⟩
          refine ⟨_, rfl, ?_⟩
          replace t3 := Hid.mk' t3
          refine hK.out _ _ ?_
          clear hK K
          refine norm_ (a' := ?_) ?_ ?_
          rotate_left
          · show Act.put _ (some 94) _ = _
            simp only [Act.put, List.setIfInBounds_toArray, List.set_cons_zero, List.set_cons_succ, i64_w, i32_w]
            rfl
          refine done_ (by kernel_rfl) ?_
          clear e0 e1 e2 e3 put1 put2
          have hasc := Hid.mk' ts'.out.asc
          have st3 := hst.out w3 t3.out.chg0
          have f1 := st3.2.1
          have f2 := st3.2.2.1
          simp only at f1 f2
          clear st3
          by_cases hlt : m < nv
          · have hlt1 : ((m : Int) == (nv : Int)) = false := by rw [beq_eq_false_iff_ne]; omega
            have hlt2 : (m == nv) = false := by rw [beq_eq_false_iff_ne]; omega
            have hBs : Hid (Both ks (vs.set m val) (insM key val L)) := by show Both _ _ _; rw [← hm'.out]; exact hB.out.set key val (by rw [hm'.out, ← lk'.out]; exact hlt) hasc.out
            obtain ⟨gv, hgv, -, hce, hfr, -⟩ := t3.out.rowV.at (by simp; have := lk'.out; have := hvl.out; omega)
            subst hgv
            have hmv : m < vs.length := by have := hvl.out; have := lk'.out; omega
            have ce := hce m (.int .i64 vs[m]) (by simp [hmv])
            have fr := hfr m
            have x1 : (m : Int) < (nv : Int) := by omega
            have x0 : (0 : Int) ≤ (m : Int) := by omega
            have t4 : Hid (OSt w (w3.setCell ⟨gv, m, none⟩ (.int .i64 val)) p dd (insM key val L) (.slice ak nv ck) ks (.slice (some ⟨gv, 0, none⟩) nv cv) (vs.set m val)) := t3.out.vals ((Chg.refl _ _).setCell _ (.inl ((own_slice gv nv cv 0 none gv).2 rfl)) _) (by have := t3.out.rowV.set m (.int .i64 val); rwa [← List.map_set] at this) (fun j hj => .inl hj)
            obtain ⟨ov, hov⟩ : ∃ ov, vs[m] = ov := ⟨_, rfl⟩
            rw [hov] at ce
            clear hce hfr hov hmv
            go_wp2_with fail
            go_roundg g'
            case measure => omega
            case rel => exact ⟨i + 1, _, _, _, by omega, by simp, t4.out, hBs, by omega⟩
          · obtain rfl : m = nv := by omega
            have hlt1 : ((m : Int) == (m : Int)) = true := by simp
            have hBs : Hid (Both (ks ++ [key]) (vs ++ [val]) (insM key val L)) := hB.out.snoc key val (by rw [hm'.out, ← lk'.out]; exact hlt) hasc.out
            obtain ⟨W1, hW1⟩ : ∃ W1, W1 = w3.alloc (.cells #[.string key] 9) := ⟨_, rfl⟩
            have ra : Hid (Row W1 9 (.slice ak m ck) (ks.map Value.string)) := by show Row _ _ _ _; rw [hW1]; exact t3.out.rowK.al _
            have lit : Hid (Row W1 9 (.slice (some ⟨w3.heap.size, 0, none⟩) 1 1) [.string key]) := by show Row _ _ _ _; rw [hW1]; exact Row.lit w3 9 (.string key)
            have kW1 : Hid (Chg NoB w3 W1) := by show Chg _ _ _; rw [hW1]; exact (Chg.refl _ _).alloc _
            have hW1' := Hid.mk' hW1
            have lA : Hid (((ks.map Value.string).length + [Value.string key].length) * 16 ≤ 140737488355328 ∧ (ks.map Value.string).length + [Value.string key].length ≤ 1099511627776) := by constructor <;> simp <;> omega
            clear hW1
            go_upto_region 20 with (at_builtin; rw [← hW1'.out]; refine wpList_append_row _ rfl _ _ 34 9 (.string ⟨#[]⟩) 16 rfl Try.underlying34 info9 rfl (.slice ak m ck) (.slice (some ⟨w3.heap.size, 0, none⟩) 1 1) (ks.map Value.string) [.string key] rfl rfl ra.out lit.out (by intro y hy; cases List.mem_singleton.1 hy; rfl) lA.out.1 lA.out.2 ?_; intro v5 w5 r5 o5 k5; obtain ⟨a5, n5, c5, rfl, l5⟩ := r5.form'; replace r5 := Hid.mk' r5; replace o5 := Hid.mk' o5; replace k5 := Hid.mk' k5)
            have t5 : Hid (OSt w w5 p dd (insM key val L) (.slice a5 n5 c5) (ks ++ [key]) (.slice av m cv) vs) := t3.out.keys ((kW1.out.mono fun _ h => h.elim).trans k5.out) (by rw [List.map_append]; exact r5.out) (fun j hj => (o5.out j hj).imp id fun h => Nat.le_trans kW1.out.size h.1)
            clear f1 f2 ra lit kW1 hW1' lA r5 o5 k5 l5
            obtain ⟨W2, hW2⟩ : ∃ W2, W2 = w5.alloc (.cells #[.int .i64 0] 3) := ⟨_, rfl⟩
            have ra : Hid (Row W2 3 (.slice av m cv) (vs.map (Value.int .i64))) := by show Row _ _ _ _; rw [hW2]; exact t5.out.rowV.al _
            have lit : Hid (Row W2 3 (.slice (some ⟨w5.heap.size, 0, none⟩) 1 1) [.int .i64 0]) := by show Row _ _ _ _; rw [hW2]; exact Row.lit w5 3 (.int .i64 0)
            have kW2 : Hid (Chg NoB w5 W2) := by show Chg _ _ _; rw [hW2]; exact (Chg.refl _ _).alloc _
            have hW2' := Hid.mk' hW2
            have lA : Hid (((vs.map (Value.int .i64)).length + [Value.int .i64 0].length) * 8 ≤ 140737488355328 ∧ (vs.map (Value.int .i64)).length + [Value.int .i64 0].length ≤ 1099511627776) := by have := hvl.out; constructor <;> simp <;> omega
            clear hW2
            go_upto_region 21 with (at_builtin; rw [← hW2'.out]; refine wpList_append_row _ rfl _ _ 35 3 (.int .i64 0) 8 rfl Try.underlying35 info3 rfl (.slice av m cv) (.slice (some ⟨w5.heap.size, 0, none⟩) 1 1) (vs.map (Value.int .i64)) [.int .i64 0] rfl rfl ra.out lit.out (by intro y hy; cases List.mem_singleton.1 hy; rfl) lA.out.1 lA.out.2 ?_; intro v6 w6 r6 o6 k6; obtain ⟨a6, n6, c6, rfl, l6⟩ := r6.form'; replace r6 := Hid.mk' r6; replace o6 := Hid.mk' o6; replace k6 := Hid.mk' k6)
            have t6 : Hid (OSt w w6 p dd (insM key val L) (.slice a5 n5 c5) (ks ++ [key]) (.slice a6 n6 c6) (vs ++ [0])) := t5.out.vals ((kW2.out.mono fun _ h => h.elim).trans k6.out) (by rw [List.map_append]; exact r6.out) (fun j hj => (o6.out j hj).imp id fun h => Nat.le_trans kW2.out.size h.1)
            have hn6 : Hid (n6 = m + 1) := by show _ = _; have := l6.out; simp at this; have := hvl.out; have := lk'.out; omega
            clear ra lit kW2 hW2' lA r6 o6 k6 l6
            have f2 := (hst.out w6 t6.out.chg0).2.2.1
            simp only at f2
            obtain ⟨gv, hgv, -, hce, hfr, -⟩ := t6.out.rowV.at (by simp)
            subst hgv
            have ce := hce m (.int .i64 0) (by have e : m = vs.length := by rw [hvl.out, ← lk'.out]
                                               rw [e]; simp)
            have fr := hfr m
            have x1 : (m : Int) < (n6 : Int) := by have := hn6.out; omega
            have x0 : (0 : Int) ≤ (m : Int) := by omega
            have hset : Hid ((vs ++ [0]).set m val = vs ++ [val]) := by
              show _ = _
              have := hvl.out; have := lk'.out
              rw [List.set_append_right _ _ (by omega), show m - vs.length = 0 by omega]; rfl
            have t4 : Hid (OSt w (w6.setCell ⟨gv, m, none⟩ (.int .i64 val)) p dd (insM key val L) (.slice a5 n5 c5) (ks ++ [key]) (.slice (some ⟨gv, 0, none⟩) n6 c6) (vs ++ [val])) := t6.out.vals ((Chg.refl _ _).setCell _ (.inl ((own_slice gv n6 c6 0 none gv).2 rfl)) _) (by have := t6.out.rowV.set m (.int .i64 val); rwa [← List.map_set, hset.out] at this) (fun j hj => .inl hj)
            clear hce hfr
            go_wp2_with fail
            go_roundg g'
            case measure => omega
            case rel => exact ⟨i + 1, _, _, _, by omega, by simp, t4.out, hBs, by omega⟩
      · obtain rfl : i = n := by omega
        have hasc := Hid.mk' ts'.out.asc
        have hnL : Hid (L.length = nv) := by show _ = _; rw [lk'.out]; exact hB.out.len.symm
        have nx1 : Hid (Calls Try.prog 16 #[.pointer (some ⟨p, 0, none⟩), .string ⟨#[]⟩, .bool true] wr fun e w' => e = .returned (.tuple #[.string (keyO L.head?), .int .i64 (valO L.head?), .bool L.head?.isSome]) ∧ OSt w w' p dd L (.slice ak nv ck) ks (.slice av nv cv) vs) := by
          have := ts.next ⟨#[]⟩ true hd2'
          rwa [next_from, from_empty] at this
        have hnk : nv ≤ 300 := by have := lk'.out; omega
        clear ts hL few'
        go_wp2_with fail
        refine nx1.out.mono ?_
        rintro e w3 ⟨rfl, t3⟩
        replace t3 := Hid.mk' t3
        clear nx1
        go_wp2_with fail
        go_loopg [10, 11, 12, 13, 14] L.length (fun gq s10 s11 s12 s13 s14 wr => ∃ (A R : List E) (q : Nat) (bef kk : ByteArray) (vv : Int), gq = R.length ∧ Hid (L = A ++ R) ∧ s10 = .int .i64 (q : Int) ∧ Hid (q = A.length) ∧ s11 = .string bef ∧ s12 = .string kk ∧ Hid (kk = keyO R.head?) ∧ s13 = .int .i64 vv ∧ Hid (vv = valO R.head?) ∧ s14 = .bool R.head?.isSome ∧ OSt w wr p dd L (.slice ak nv ck) ks (.slice av nv cv) vs ∧ Hid (A = [] ∨ ∀ e ∈ R, kl bef e.1 = true))
        case atStart => exact ⟨[], L, 0, _, _, _, rfl, rfl, rfl, rfl, rfl, rfl, rfl, rfl, rfl, rfl, t3.out, .inl rfl⟩
        case round =>
          clear t3 ts'
          obtain ⟨A, R, q, bef, kk, y, hg, hA, rfl, hq, rfl, rfl, hkk, rfl, hy, rfl, ts, hbef⟩ := hrel
          have ts' := Hid.mk' ts
          clear ts
          cases R with
          | nil =>
            have hqn : Hid (q = nv) := by show _ = _; rw [hq.out, ← hnL.out, hA.out]; simp
            obtain rfl : q = nv := hqn.out
            have ln : Hid (∀ W, W = wr → Calls Try.prog 17 #[.pointer (some ⟨p, 0, none⟩)] W fun e w' => e = .returned (.int .i64 (q : Int)) ∧ W = w') := fun W hW => by
              subst hW; have := ts'.out.len; rwa [hnL.out] at this
            have rg : Hid (Calls Try.prog 18 #[.pointer (some ⟨p, 0, none⟩), .string ⟨#[]⟩, .int .i64 ((q : Int) + 1)] wr fun e w' => ∃ a c, e = .returned (.slice a q c) ∧ Chg NoB w w') := by
              refine (ts'.out.range ⟨#[]⟩ ((q : Int) + 1) hd2' (by have := hnL.out; omega)).mono ?_
              rintro e w' ⟨v, rfl, hr, ho⟩
              obtain ⟨a, c, rfl⟩ := hr.form
              have hl : (((rangeM ⟨#[]⟩ ((q : Int) + 1) L).map sv)).length = q := by
                rw [show ((q : Int) + 1) = ((q + 1 : Nat) : Int) by omega, range_all _ _ (by have := hnL.out; omega)]; simp; exact hnL.out
              rw [hl]
              exact ⟨a, c, rfl, ho.chg0⟩
            have n4 : IntKind.i64.wrap ((q : Int) + 1) = (q : Int) + 1 := by rw [IntKind.wrap_i64]; omega
            have z1 : ((q : Int) == (q : Int)) = true := by simp
            clear hbef hA hq hkk hy
            go_wp2_with (first
              | (go_at_call 17; refine (ln.out _ rfl).mono ?_; rintro e w' ⟨rfl, rfl⟩)
              | (go_at_call 18; refine rg.out.mono ?_; rintro e w' ⟨a9, c9, rfl, kf⟩; replace kf := Hid.mk' kf))
            go_ret
            exact ⟨rfl, kf.out⟩
          | cons e R =>
            obtain ⟨k, y'⟩ := e
            obtain rfl : kk = k := hkk.out
            obtain rfl : y = y' := hy.out
            have hget := hB.out.get kk y (by rw [hA.out]; simp)
            have pl := Hid.mk' (place15 _ kk ks _ ts'.out.rowK (by omega))
            obtain ⟨m, hm⟩ : ∃ m, placeM kk ks = m := ⟨_, rfl⟩
            rw [hm] at pl hget
            have x1 : m < nv := by have := hget.1; have := lk'.out; omega
            have x2 : (m : Int) < (nv : Int) := by omega
            have x0 : (0 : Int) ≤ (m : Int) := by omega
            have x3 : ((m : Int) == (nv : Int)) = false := by rw [beq_eq_false_iff_ne]; omega
            have x4 : (m == nv) = false := by rw [beq_eq_false_iff_ne]; omega
            obtain ⟨gv, rfl, -, hce, -, -⟩ := ts'.out.rowV.at (by have := List.getElem?_eq_some_iff.1 hget.2; obtain ⟨h9, -⟩ := this; simp; omega)
            have ce := hce m (.int .i64 y) (by rw [List.getElem?_map, hget.2]; rfl)
            have hqL : Hid (q < nv) := by show _ < _; rw [hq.out, ← hnL.out, hA.out]; simp
            have x5 : q < nv := hqL.out
            have x6 : ¬ ((nv : Int) < (q : Int)) := by omega
            have x7 : decide ((nv : Int) < (q : Int)) = false := by simp; omega
            have x8 : decide (nv < q) = false := by simp; omega
            have x9 : (y == y) = true := by simp
            have x10 : (y != y) = false := by simp
            have n4 : IntKind.i64.wrap ((q : Int) + 1) = (q : Int) + 1 := by rw [IntKind.wrap_i64]; omega
            have nx : Hid (∀ W, W = wr → Calls Try.prog 16 #[.pointer (some ⟨p, 0, none⟩), .string kk, .bool false] W fun e w' => e = .returned (.tuple #[.string (keyO R.head?), .int .i64 (valO R.head?), .bool R.head?.isSome]) ∧ OSt w w' p dd L (.slice ak nv ck) ks (.slice (some ⟨gv, 0, none⟩) nv cv) vs) := fun W hW => by
              subst hW
              have := ts'.out.next kk false hd2'
              rwa [show nextM kk false L = R.head? from by have h9 := next_after (A := A) (R := R) (e := (kk, y)) (by rw [← hA.out]; exact hasc.out); rw [← hA.out] at h9; exact h9] at this
            have hA2 : Hid (L = (A ++ [(kk, y)]) ++ R) := by show _ = _; rw [hA.out]; simp
            have hq2 : Hid (q + 1 = (A ++ [(kk, y)]).length) := by show _ = _; rw [hq.out]; simp
            have hb2 : Hid (A ++ [(kk, y)] = [] ∨ ∀ e ∈ R, kl kk e.1 = true) := .inr (by
              have := hasc.out
              rw [hA.out] at this
              exact (List.pairwise_cons.1 this.right).1)
            have hlb : Hid (q = 0 ∨ (Op.bytesLess kk.toList bef.toList = false ∧ (kk.toList == bef.toList) = false)) := by
              rcases hbef.out with h9 | h9
              · exact .inl (by rw [hq.out, h9]; rfl)
              · have h8 : kl bef kk = true := h9 (kk, y) (by simp)
                exact .inr ⟨kl_asymm h8, by rw [beq_toList]; simpa using fun h => kl_ne h8 h.symm⟩
            have hg' : Hid (gk = R.length + 1) := by show _ = _; simpa using hg
            clear hget hm hce hbef hkk hy hA hq hg
            by_cases hq0 : q = 0
            · subst hq0
              go_wp2_with (first
                | (go_at_call 15; refine pl.out.mono ?_; rintro e w' ⟨rfl, rfl⟩)
                | (go_at_call 16; refine (nx.out _ rfl).mono ?_; rintro e w' ⟨rfl, t9⟩; replace t9 := Hid.mk' t9))
              go_roundg R.length
              case measure => have := hg'.out; omega
              case rel => exact ⟨_, R, _, _, _, _, rfl, hA2, by simp, hq2, rfl, rfl, rfl, rfl, rfl, rfl, t9.out, hb2⟩
            · have z0 : 0 < q := by omega
              have z1 : (0 : Int) < (q : Int) := by omega
              obtain ⟨z2, z3⟩ := hlb.out.resolve_left hq0
              clear hq0
              go_wp2_with (first
                | (go_at_call 15; refine pl.out.mono ?_; rintro e w' ⟨rfl, rfl⟩)
                | (go_at_call 16; refine (nx.out _ rfl).mono ?_; rintro e w' ⟨rfl, t9⟩; replace t9 := Hid.mk' t9))
              go_roundg R.length
              case measure => have := hg'.out; omega
              case rel => exact ⟨_, R, _, _, _, _, rfl, hA2, by simp, hq2, rfl, rfl, rfl, rfl, rfl, rfl, t9.out, hb2⟩
  · cases r
    · go_enter Try.func4, Try.ntmps4
      go_wp2_with fail
      refine lv.out.mono ?_
      rintro e w1 ⟨rfl, k1⟩
      have k1' := Hid.mk' k1
      go_wp2_with fail
      refine (few'.out _ k1).mono ?_
      rintro e w2 ⟨rfl, rfl⟩
      go_wp2_with fail
      go_ret
      exact ⟨rfl, k1'.out⟩
    · have hb : d < 2 ∨ 32 < d := by
        by_cases h2 : 2 ≤ d
        · right
          by_cases h3 : d ≤ 32
          · exact (h1 ⟨rfl, h2, h3⟩).elim
          · omega
        · left; omega
      clear h1
      rcases hb with hb | hb
      · have b1 : decide (d < 2) = true := by simp; omega
        go_enter Try.func4, Try.ntmps4
        go_wp2_with fail
        refine lv.out.mono ?_
        rintro e w1 ⟨rfl, k1⟩
        have k1' := Hid.mk' k1
        go_wp2_with fail
        refine (few'.out _ k1).mono ?_
        rintro e w2 ⟨rfl, rfl⟩
        go_wp2_with fail
        go_ret
        exact ⟨rfl, k1'.out⟩
      · have b1 : decide (d < 2) = false := by simp; omega
        have b2 : decide (32 < d) = true := by simp; omega
        go_enter Try.func4, Try.ntmps4
        go_wp2_with fail
        refine lv.out.mono ?_
        rintro e w1 ⟨rfl, k1⟩
        have k1' := Hid.mk' k1
        go_wp2_with fail
        refine (few'.out _ k1).mono ?_
        rintro e w2 ⟨rfl, rfl⟩
        go_wp2_with fail
        go_ret
        exact ⟨rfl, k1'.out⟩
end Go.Proofs.Ytamnmoejjjaegaa
