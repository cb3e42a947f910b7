/- What the law IndexClones returns: true, for every degree and every two slices of calls. No conditions. -/
import Derived.Test.YtamnmoejjjaegaaCL
set_option linter.unusedVariables false
set_option linter.unusedSimpArgs false
namespace Go.Proofs.Ytamnmoejjjaegaa
open Go Go.RowKit Go.Proofs.YtamnmoejjjaegaaW.PrintLast

set_option maxHeartbeats 16000000 in
set_option maxRecDepth 100000 in
theorem clones6 (d : Int) (A : Option Addr) (n c : Nat) (l : List St) (B : Option Addr) (m c2 : Nat) (l2 : List St) (w : World) (h : Steps w A n l) (h2 : Steps w B m l2) :
    Calls Try.prog 6 #[.int .i64 d, .slice A n c, .slice B m c2] w fun e w' => e = .returned (.bool true) ∧ Chg NoB w w' := by
  have few1 : ∀ W, Chg NoB w W → Calls Try.prog 9 #[.slice A n c, .int .i64 200] W fun e w' => e = .returned (.bool (fewB 200 l)) ∧ W = w' := fun W hW => few9 A n c 200 l W (h.chg hW) (by omega)
  have few2 : ∀ W, Chg NoB w W → Calls Try.prog 9 #[.slice B m c2, .int .i64 100] W fun e w' => e = .returned (.bool (fewB 100 l2)) ∧ W = w' := fun W hW => few9 B m c2 100 l2 W (h2.chg hW) (by omega)
  have few1' := Hid.mk' few1
  have few2' := Hid.mk' few2
  have lv := Hid.mk' (lives8 w)
  obtain ⟨r, hr⟩ : ∃ r, fewB 200 l = r := ⟨_, rfl⟩
  obtain ⟨r2, hr2⟩ : ∃ r, fewB 100 l2 = r := ⟨_, rfl⟩
  have hr' := Hid.mk' hr
  have hr2' := Hid.mk' hr2
  have h' := Hid.mk' h
  have h2' := Hid.mk' h2
  rw [hr] at few1 few1'
  rw [hr2] at few2 few2'
  clear few1 few2 hr hr2 h h2
  by_cases h1 : r = true ∧ r2 = true ∧ 2 ≤ d ∧ d ≤ 32
  · obtain ⟨rfl, rfl, hd, hd2⟩ := h1
    obtain ⟨dd, rfl⟩ := Int.eq_ofNat_of_zero_le (show 0 ≤ d by omega)
    have hd' : 2 ≤ dd := by omega
    have hd2' : dd ≤ 32 := by omega
    have b1 : ¬ ((dd : Int) < 2) := by omega
    have b2 : ¬ (32 < (dd : Int)) := by omega
    have b1' : decide ((dd : Int) < 2) = false := by simp; omega
    have b2' : decide (32 < (dd : Int)) = false := by simp; omega
    have b1'' : decide (dd < 2) = false := by simp; omega
    have b2'' : decide (32 < dd) = false := by simp; omega
    have n200 : n ≤ 200 := by
      have := hr'.out
      simp only [fewB, Bool.and_eq_true, decide_eq_true_eq] at this
      have := h'.out.1
      omega
    have m100 : m ≤ 100 := by
      have := hr2'.out
      simp only [fewB, Bool.and_eq_true, decide_eq_true_eq] at this
      have := h2'.out.1
      omega
    go_enter Try.func6, Try.ntmps6
    go_wp2_with fail
    refine lv.out.mono ?_
    rintro e w1 ⟨rfl, k1⟩
    have k1' := Hid.mk' k1
    go_wp2_with fail
    refine (few1'.out _ k1).mono ?_
    rintro e w2 ⟨rfl, rfl⟩
    go_wp2_with fail
    refine (few2'.out _ k1).mono ?_
    rintro e w2 ⟨rfl, rfl⟩
    go_wp2_with fail
    refine (TS.new k1 dd dd hd' hd2' rfl).mono ?_
    rintro e w2 ⟨p, rfl, t0⟩
    have t0' := Hid.mk' t0
    clear t0 k1 few1' few2' lv
    go_wp2_with fail
    go_loopg [8] n (fun gq s8 wr => ∃ i L, i + gq = n ∧ s8 = .int .i64 (i : Int) ∧ TS w wr p dd L ∧ L.length ≤ i)
    case atStart => exact ⟨0, [], by omega, rfl, t0'.out, by simp⟩
    case round =>
      clear t0'
      obtain ⟨i, L, hgi, rfl, ts, hL⟩ := hrel
      have ts' := Hid.mk' ts
      have n3 : IntKind.i64.wrap ((i : Int) + 1) = (i : Int) + 1 := by rw [IntKind.wrap_i64]; omega
      by_cases hi : i < n
      · have b3 : (i : Int) < (n : Int) := by omega
        have hi2 : i < l.length := by have := h'.out.1; omega
        obtain ⟨s, hsi⟩ : ∃ s, l[i]? = some s := ⟨_, List.getElem?_eq_getElem hi2⟩
        obtain ⟨a, rfl, e0, e1, e2, e3⟩ := (h'.out.chg ts.2).2 i s hsi
        obtain ⟨kind, key, val, eq⟩ := s
        have hst : Hid (∀ W, Chg NoB w W → StepAt W (a.add (i * 4)) (kind, key, val, eq)) := fun W hW => by
          obtain ⟨a', ha', hs'⟩ := (h'.out.chg hW).2 i _ hsi
          cases ha'; exact hs'
        simp only at e0 e1 e2 e3
        obtain ⟨g', rfl⟩ : ∃ g', gk = g' + 1 := ⟨gk - 1, by omega⟩
        have hL1 : L.length ≤ 1000000 := by omega
        clear ts hsi hi2
        have hil := insM_le2 key val L
        have put1 : Hid (Calls Try.prog 13 #[.pointer (some ⟨p, 0, none⟩), .string key, .int .i64 val] wr fun e w' => (∃ o f, e = .returned (.tuple #[.int .i64 o, .bool f])) ∧ TS w w' p dd (insM key val L)) := (ts'.out.put key val hd' hd2' hL1).mono fun e w' ⟨he, h⟩ => ⟨⟨_, _, he⟩, h⟩
        have put2 : Hid (Calls Try.prog 13 #[.pointer (some ⟨p, 0, none⟩), .string key, .int .i64 val] wr.drew fun e w' => (∃ o f, e = .returned (.tuple #[.int .i64 o, .bool f])) ∧ TS w w' p dd (insM key val L)) := ((ts'.out.chg (Chg.refl NoB wr).drew).put key val hd' hd2' hL1).mono fun e w' ⟨he, h⟩ => ⟨⟨_, _, he⟩, h⟩
        go_upto_region 9 with (fail)
        refine start_ (n := 12) (S := fun w' => w'.cell? ⟨(a.add (i * 4)).block, (a.add (i * 4)).off + 1, none⟩ = some (.string key) ∧ w'.cell? ⟨(a.add (i * 4)).block, (a.add (i * 4)).off + 2, none⟩ = some (.int .i64 val)) (ds := [11]) #[false, false, false, false, false, false, false, false, false, false, false, false] (by kernel_rfl) rfl rfl ⟨e1, e2⟩ (fun hHeld => ?_)
        refine pure_ (i := 0) (N := some 46) (v := ?_) (a' := ?_) #[true, false, false, false, false, false, false, false, false, false, false, false] rfl rfl (by kernel_rfl) (fun _ _ _ h => h) (Or.inl ⟨by rfl, ?_⟩) ?_ ?_
        rotate_left
        · intro w'
          go_simp
          with_reducible rfl
        rotate_left
        · simp only [Act.put, List.setIfInBounds_toArray, List.set_cons_zero, List.set_cons_succ, i64_w, i32_w]
          rfl
        refine pure_ (i := 1) (N := some 47) (v := ?_) (a' := ?_) #[true, true, false, false, false, false, false, false, false, false, false, false] rfl rfl (by kernel_rfl) (fun _ _ _ h => h) (Or.inl ⟨by rfl, ?_⟩) ?_ ?_
        rotate_left
        · intro w'
          go_simp
          with_reducible rfl
        rotate_left
        · simp only [Act.put, List.setIfInBounds_toArray, List.set_cons_zero, List.set_cons_succ, i64_w, i32_w]
          rfl
        refine pure_ (i := 2) (N := some 48) (v := ?_) (a' := ?_) #[true, true, true, false, false, false, false, false, false, false, false, false] rfl rfl (by kernel_rfl) (fun _ _ _ h => h) (Or.inl ⟨by rfl, ?_⟩) ?_ ?_
        rotate_left
        · intro w'
          go_simp
          with_reducible rfl
        rotate_left
        · simp only [Act.put, List.setIfInBounds_toArray, List.set_cons_zero, List.set_cons_succ, i64_w, i32_w]
          rfl
        refine pure_ (i := 3) (N := some 49) (v := ?_) (a' := ?_) #[true, true, true, true, false, false, false, false, false, false, false, false] rfl rfl (by kernel_rfl) (fun _ _ _ h => h) (Or.inl ⟨by rfl, ?_⟩) ?_ ?_
        rotate_left
        · intro w'
          go_simp
          with_reducible rfl
        rotate_left
        · simp only [Act.put, List.setIfInBounds_toArray, List.set_cons_zero, List.set_cons_succ, i64_w, i32_w]
          rfl
        refine pure_ (i := 4) (N := some 50) (v := ?_) (a' := ?_) #[true, true, true, true, true, false, false, false, false, false, false, false] rfl rfl (by kernel_rfl) (fun _ _ _ h => h) (Or.inl ⟨by rfl, ?_⟩) ?_ ?_
        rotate_left
        · intro w'
          go_simp
          with_reducible rfl
        rotate_left
        · simp only [Act.put, List.setIfInBounds_toArray, List.set_cons_zero, List.set_cons_succ, i64_w, i32_w]
          rfl
        refine pure_ (i := 6) (N := some 52) (v := ?_) (a' := ?_) #[true, true, true, true, true, false, true, false, false, false, false, false] rfl rfl (by kernel_rfl) (fun _ _ _ h => h) (Or.inl ⟨by rfl, ?_⟩) ?_ ?_
        rotate_left
        · intro w'
          go_simp
          with_reducible rfl
        rotate_left
        · simp only [Act.put, List.setIfInBounds_toArray, List.set_cons_zero, List.set_cons_succ, i64_w, i32_w]
          rfl
        refine pure_ (i := 7) (N := some 53) (v := ?_) (a' := ?_) #[true, true, true, true, true, false, true, true, false, false, false, false] rfl rfl (by kernel_rfl) (fun _ _ _ h => h) (Or.inl ⟨by rfl, ?_⟩) ?_ ?_
        rotate_left
        · intro w'
          go_simp
          with_reducible rfl
        rotate_left
        · simp only [Act.put, List.setIfInBounds_toArray, List.set_cons_zero, List.set_cons_succ, i64_w, i32_w]
          rfl
        refine pure_ (i := 8) (N := some 54) (v := ?_) (a' := ?_) #[true, true, true, true, true, false, true, true, true, false, false, false] rfl rfl (by kernel_rfl) (fun _ _ _ h => h) (Or.inl ⟨by rfl, ?_⟩) ?_ ?_
        rotate_left
        · intro w'
          go_simp
          with_reducible rfl
        rotate_left
        · simp only [Act.put, List.setIfInBounds_toArray, List.set_cons_zero, List.set_cons_succ, i64_w, i32_w]
          rfl
        refine pure_ (i := 9) (N := some 55) (v := ?_) (a' := ?_) #[true, true, true, true, true, false, true, true, true, true, false, false] rfl rfl (by kernel_rfl) (fun _ _ _ h => h) (Or.inl ⟨by rfl, ?_⟩) ?_ ?_
        rotate_left
        · intro w'
          go_simp
          with_reducible rfl
        rotate_left
        · simp only [Act.put, List.setIfInBounds_toArray, List.set_cons_zero, List.set_cons_succ, i64_w, i32_w]
          rfl
        refine take_ (i := 5) (N := some 51) (v := ?_) (a' := ?_) #[true, true, true, true, true, true, true, true, true, true, false, false] rfl rfl (by kernel_rfl) (fun _ _ _ h => h) (Or.inl ⟨by rfl, ?_⟩) hHeld ?_ ?_
        rotate_left
        · rintro w' ⟨s0, s1⟩
          go_simp
          with_reducible rfl
        rotate_left
        · simp only [Act.put, List.setIfInBounds_toArray, List.set_cons_zero, List.set_cons_succ, i64_w, i32_w]
          rfl
        refine take_ (i := 10) (N := some 56) (v := ?_) (a' := ?_) #[true, true, true, true, true, true, true, true, true, true, true, false] rfl rfl (by kernel_rfl) (fun _ _ _ h => h) (Or.inl ⟨by rfl, ?_⟩) hHeld ?_ ?_
        rotate_left
        · rintro w' ⟨s0, s1⟩
          go_simp
          with_reducible rfl
        rotate_left
        · simp only [Act.put, List.setIfInBounds_toArray, List.set_cons_zero, List.set_cons_succ, i64_w, i32_w]
          rfl
        refine last_ (i := 11) (N := some 57) #[true, true, true, true, true, true, true, true, true, true, true, true] rfl rfl (by kernel_rfl) (by decide) (fun K hK => ?_)
        refine goes_ Try.func13 (by kernel_rfl) rfl #[.pointer (some ⟨p, 0, none⟩), .string key, .int .i64 val] (by rfl) rfl rfl (by simp only [List.map_toArray, List.map_cons, List.map_nil]; rfl) ?_
        first | with_reducible refine put1.out.mono ?_ | with_reducible refine put2.out.mono ?_
        rintro e w3 ⟨⟨o3, f3, rfl⟩, t3⟩
        refine ⟨_, rfl, ?_⟩
        replace t3 := Hid.mk' t3
        refine hK.out _ _ ?_
        clear hK K
        refine norm_ (a' := ?_) ?_ ?_
        rotate_left
        · show Act.put _ (some 57) _ = _
          simp only [Act.put, List.setIfInBounds_toArray, List.set_cons_zero, List.set_cons_succ, i64_w, i32_w]
          rfl
        refine done_ (by kernel_rfl) ?_
        clear e0 e1 e2 e3 put1 put2
        go_wp2_with fail
        go_roundg g'
        case measure => omega
        case rel => exact ⟨i + 1, _, by omega, by simp, t3.out, by omega⟩
      · obtain rfl : i = n := by omega
        have hL2 : L.length ≤ 200 := by omega
        have hasc := Hid.mk' ts.1.asc
        have kts := Hid.mk' ts.2
        clear ts
        go_wp2_with fail
        refine (clone12 p dd L _ _ hd2' ts'.out.1).mono ?_
        rintro e w3 ⟨u, rfl, tu, ku⟩
        have tu' := Hid.mk' tu
        have ku' := Hid.mk' ku
        have hrg := range18 w3 p dd L _ ⟨#[]⟩ (i : Int) hd2' (by omega) (ts'.out.1.chg ku (fun _ _ h => h))
        rw [range_all i L (by omega)] at hrg
        have hrg' := Hid.mk' hrg
        clear tu ku hrg
        go_wp2_with fail
        refine hrg'.out.mono ?_
        rintro e w4 ⟨va, rfl, ra, oa, ka⟩
        obtain ⟨aa, na, ca, rfl, la⟩ := ra.form'
        have hna : Hid (na = L.length) := by show _ = _; have := la.out; simpa using this
        have q0 : Hid (QSt w (w4.alloc (.cells #[] 3)) dd p L u L (.slice aa na ca) (L.map Prod.fst) (.slice (some ⟨w4.heap.size, 0, none⟩) 0 0) []) := QSt.start ts'.out tu'.out ku'.out ka ra oa
        have hna2 : na ≤ 200 := by have := hna.out; omega
        clear ra oa ka la tu' ku' hrg' ts' kts hgi
        go_wp2_with fail
        go_loopg [11, 12] na (fun gq s11 s12 wr => ∃ i : Nat, i + gq = na ∧ s12 = .int .i64 (i : Int) ∧ QSt w wr dd p L u L (.slice aa na ca) (L.map Prod.fst) s11 ((L.map Prod.snd).take i))
        case atStart => exact ⟨0, by omega, rfl, by simpa using q0.out⟩
        case round =>
          clear q0 hi n3
          obtain ⟨i, hgi, rfl, qs⟩ := hrel
          have qs' := Hid.mk' qs
          obtain ⟨av, nv, cv, hvf, lw⟩ := qs.rowV.form'
          subst hvf
          clear qs lw
          have n3 : IntKind.i64.wrap ((i : Int) + 1) = (i : Int) + 1 := by rw [IntKind.wrap_i64]; omega
          by_cases hi : i < na
          · have b3 : (i : Int) < (na : Int) := by omega
            have b0 : (0 : Int) ≤ (i : Int) := by omega
            obtain ⟨g', rfl⟩ : ∃ g', gk = g' + 1 := ⟨gk - 1, by omega⟩
            have hiL : i < L.length := by have := hna.out; omega
            obtain ⟨k, y, hky⟩ : ∃ k y, L[i]? = some (k, y) := ⟨_, _, List.getElem?_eq_getElem hiL⟩
            have hgm := getM_at hasc.out i k y hky
            obtain ⟨ga, rfl, ce⟩ := row_str qs'.out.rowA i (by simpa using hiL)
            have hk1 : (L.map Prod.fst)[i]'(by simpa using hiL) = k := by
              have := (List.getElem?_eq_some_iff.1 hky).2
              simp [this]
            rw [hk1] at ce
            have gt : Hid (Calls Try.prog 21 #[.pointer (some ⟨p, 0, none⟩), .string k] wr fun e w' => e = .returned (.tuple #[.int .i64 y, .bool true]) ∧ wr = w') := by
              have := qs'.out.get k hd2'
              rwa [hgm] at this
            have htk : Hid ((L.map Prod.snd).take i ++ [y] = (L.map Prod.snd).take (i + 1)) := by
              show _ = _
              have hi2 : i < (L.map Prod.snd).length := by simpa using hiL
              rw [List.take_succ_eq_append_getElem hi2]
              have := (List.getElem?_eq_some_iff.1 hky).2
              simp [this]
            obtain ⟨W1, hW1⟩ : ∃ W1, W1 = wr.alloc (.cells #[.int .i64 y] 3) := ⟨_, rfl⟩
            have rb : Hid (Row W1 3 (.slice av nv cv) (((L.map Prod.snd).take i).map (Value.int .i64))) := by show Row _ _ _ _; rw [hW1]; exact qs'.out.rowV.al _
            have lit : Hid (Row W1 3 (.slice (some ⟨wr.heap.size, 0, none⟩) 1 1) [.int .i64 y]) := by show Row _ _ _ _; rw [hW1]; exact Row.lit wr 3 (.int .i64 y)
            have kW1 : Hid (Chg NoB wr W1) := by show Chg _ _ _; rw [hW1]; exact (Chg.refl _ _).alloc _
            have hW1' := Hid.mk' hW1
            have lA : Hid (((((L.map Prod.snd).take i).map (Value.int .i64)).length + [Value.int .i64 y].length) * 8 ≤ 140737488355328 ∧ (((L.map Prod.snd).take i).map (Value.int .i64)).length + [Value.int .i64 y].length ≤ 1099511627776) := by constructor <;> simp <;> omega
            clear hW1 hky hgm hk1 hiL
            go_wp2_with (first
              | (go_at_call 21; refine gt.out.mono ?_; rintro e w' ⟨rfl, rfl⟩)
              | (at_builtin; rw [← hW1'.out]; refine wpList_append_row _ rfl _ _ 35 3 (.int .i64 0) 8 rfl Try.underlying35 info3 rfl (.slice av nv cv) (.slice (some ⟨wr.heap.size, 0, none⟩) 1 1) (((L.map Prod.snd).take i).map (Value.int .i64)) [.int .i64 y] rfl rfl rb.out lit.out (by intro y hy; cases List.mem_singleton.1 hy; rfl) lA.out.1 lA.out.2 ?_; intro v5 w5 r5 o5 k5; obtain ⟨a5, n5, c5, rfl, l5⟩ := r5.form'; replace r5 := Hid.mk' r5; replace o5 := Hid.mk' o5; replace k5 := Hid.mk' k5))
            have q5 : Hid (QSt w w5 dd p L u L (.slice (some ⟨ga, 0, none⟩) na ca) (L.map Prod.fst) (.slice a5 n5 c5) ((L.map Prod.snd).take (i + 1))) := qs'.out.vals ((kW1.out.mono fun _ h => h.elim).trans k5.out) (by rw [← htk.out, List.map_append]; exact r5.out) (fun j hj => (o5.out j hj).imp id fun h => Nat.le_trans kW1.out.size h.1)
            clear rb lit kW1 hW1' lA r5 o5 k5 l5
            go_roundg g'
            case measure => omega
            case rel => exact ⟨i + 1, by omega, by simp, q5.out⟩
          · obtain rfl : i = na := by omega
            have q6 : Hid (QSt w wr dd p L u L (.slice aa i ca) (L.map Prod.fst) (.slice av nv cv) (L.map Prod.snd)) := by
              have := qs'.out
              rwa [List.take_of_length_le (by simp; have := hna.out; omega)] at this
            obtain ⟨na, hna3⟩ : ∃ na, na = i := ⟨_, rfl⟩
            subst hna3
            clear qs' n3 hgi hi
            go_wp2_with fail
            refine (q6.out.clone hd2').mono ?_
            rintro e w5 ⟨x, rfl, c0⟩
            have c0' := Hid.mk' c0
            clear c0 q6
            go_wp2_with fail
            go_loopg [16] m (fun gq s16 wr => ∃ (i : Nat) (Lt Lx : List E), i + gq = m ∧ s16 = .int .i64 (i : Int) ∧ CSt w wr dd p Lt x Lx u L (.slice aa na ca) (L.map Prod.fst) (.slice av nv cv) (L.map Prod.snd) ∧ Lt.length ≤ 200 + i ∧ Lx.length ≤ 200 + i)
            case atStart => exact ⟨0, L, L, by omega, rfl, c0'.out, by omega, by omega⟩
            case round =>
              clear c0'
              obtain ⟨i, Lt, Lx, hgi, rfl, cs, hLt, hLx⟩ := hrel
              have cs' := Hid.mk' cs
              have n3 : IntKind.i64.wrap ((i : Int) + 1) = (i : Int) + 1 := by rw [IntKind.wrap_i64]; omega
              by_cases hi : i < m
              · have b3 : (i : Int) < (m : Int) := by omega
                have hi2 : i < l2.length := by have := h2'.out.1; omega
                obtain ⟨s, hsi⟩ : ∃ s, l2[i]? = some s := ⟨_, List.getElem?_eq_getElem hi2⟩
                obtain ⟨a, rfl, e0, e1, e2, e3⟩ := (h2'.out.chg cs.chg0).2 i s hsi
                obtain ⟨kind, key, val, eq⟩ := s
                have hst : Hid (∀ W, Chg NoB w W → StepAt W (a.add (i * 4)) (kind, key, val, eq)) := fun W hW => by
                  obtain ⟨a', ha', hs'⟩ := (h2'.out.chg hW).2 i _ hsi
                  cases ha'; exact hs'
                simp only at e0 e1 e2 e3
                obtain ⟨g', rfl⟩ : ∃ g', gk = g' + 1 := ⟨gk - 1, by omega⟩
                have hLt1 : Lt.length ≤ 1000000 := by omega
                have hLx1 : Lx.length ≤ 1000000 := by omega
                have hit := insM_le2 key val Lt
                have hix := insM_le2 key val Lx
                have hdt := delM_le2 key Lt
                have hdx := delM_le2 key Lx
                clear cs hsi hi2
                by_cases hk1 : kind = 1
                · subst hk1
                  go_wp2_with fail
                  refine (cs'.out.delT key hd' hd2' hLt1).mono ?_
                  rintro e w6 ⟨⟨o, f, rfl⟩, t6⟩
                  have t6' := Hid.mk' t6
                  obtain ⟨-, e1, e2, -⟩ := hst.out w6 t6.chg0
                  simp only at e1 e2
                  clear t6
                  have put1 : Hid (Calls Try.prog 13 #[.pointer (some ⟨x, 0, none⟩), .string key, .int .i64 val] w6 fun e w' => (∃ o f, e = .returned (.tuple #[.int .i64 o, .bool f])) ∧ CSt w w' dd p (delM key Lt) x (insM key val Lx) u L (.slice aa na ca) (L.map Prod.fst) (.slice av nv cv) (L.map Prod.snd)) := t6'.out.putX key val hd' hd2' hLx1
                  have put2 : Hid (Calls Try.prog 13 #[.pointer (some ⟨x, 0, none⟩), .string key, .int .i64 val] w6.drew fun e w' => (∃ o f, e = .returned (.tuple #[.int .i64 o, .bool f])) ∧ CSt w w' dd p (delM key Lt) x (insM key val Lx) u L (.slice aa na ca) (L.map Prod.fst) (.slice av nv cv) (L.map Prod.snd)) := (t6'.out.chg (Chg.refl NoB w6).drew).putX key val hd' hd2' hLx1
                  go_upto_region 24 with (fail)
                  refine start_ (n := 12) (S := fun w' => w'.cell? ⟨(a.add (i * 4)).block, (a.add (i * 4)).off + 1, none⟩ = some (.string key) ∧ w'.cell? ⟨(a.add (i * 4)).block, (a.add (i * 4)).off + 2, none⟩ = some (.int .i64 val)) (ds := [11]) #[false, false, false, false, false, false, false, false, false, false, false, false] (by kernel_rfl) rfl rfl ⟨e1, e2⟩ (fun hHeld => ?_)
                  refine pure_ (i := 0) (N := some 105) (v := ?_) (a' := ?_) #[true, false, false, false, false, false, false, false, false, false, false, false] rfl rfl (by kernel_rfl) (fun _ _ _ h => h) (Or.inl ⟨by rfl, ?_⟩) ?_ ?_
                  rotate_left
                  · intro w'
                    go_simp
                    with_reducible rfl
                  rotate_left
                  · simp only [Act.put, List.setIfInBounds_toArray, List.set_cons_zero, List.set_cons_succ, i64_w, i32_w]
                    rfl
                  refine pure_ (i := 1) (N := some 106) (v := ?_) (a' := ?_) #[true, true, false, false, false, false, false, false, false, false, false, false] rfl rfl (by kernel_rfl) (fun _ _ _ h => h) (Or.inl ⟨by rfl, ?_⟩) ?_ ?_
                  rotate_left
                  · intro w'
                    go_simp
                    with_reducible rfl
                  rotate_left
                  · simp only [Act.put, List.setIfInBounds_toArray, List.set_cons_zero, List.set_cons_succ, i64_w, i32_w]
                    rfl
                  refine pure_ (i := 2) (N := some 107) (v := ?_) (a' := ?_) #[true, true, true, false, false, false, false, false, false, false, false, false] rfl rfl (by kernel_rfl) (fun _ _ _ h => h) (Or.inl ⟨by rfl, ?_⟩) ?_ ?_
                  rotate_left
                  · intro w'
                    go_simp
                    with_reducible rfl
                  rotate_left
                  · simp only [Act.put, List.setIfInBounds_toArray, List.set_cons_zero, List.set_cons_succ, i64_w, i32_w]
                    rfl
                  refine pure_ (i := 3) (N := some 108) (v := ?_) (a' := ?_) #[true, true, true, true, false, false, false, false, false, false, false, false] rfl rfl (by kernel_rfl) (fun _ _ _ h => h) (Or.inl ⟨by rfl, ?_⟩) ?_ ?_
                  rotate_left
                  · intro w'
                    go_simp
                    with_reducible rfl
                  rotate_left
                  · simp only [Act.put, List.setIfInBounds_toArray, List.set_cons_zero, List.set_cons_succ, i64_w, i32_w]
                    rfl
                  refine pure_ (i := 4) (N := some 109) (v := ?_) (a' := ?_) #[true, true, true, true, true, false, false, false, false, false, false, false] rfl rfl (by kernel_rfl) (fun _ _ _ h => h) (Or.inl ⟨by rfl, ?_⟩) ?_ ?_
                  rotate_left
                  · intro w'
                    go_simp
                    with_reducible rfl
                  rotate_left
                  · simp only [Act.put, List.setIfInBounds_toArray, List.set_cons_zero, List.set_cons_succ, i64_w, i32_w]
                    rfl
                  refine pure_ (i := 6) (N := some 111) (v := ?_) (a' := ?_) #[true, true, true, true, true, false, true, false, false, false, false, false] rfl rfl (by kernel_rfl) (fun _ _ _ h => h) (Or.inl ⟨by rfl, ?_⟩) ?_ ?_
                  rotate_left
                  · intro w'
                    go_simp
                    with_reducible rfl
                  rotate_left
                  · simp only [Act.put, List.setIfInBounds_toArray, List.set_cons_zero, List.set_cons_succ, i64_w, i32_w]
                    rfl
                  refine pure_ (i := 7) (N := some 112) (v := ?_) (a' := ?_) #[true, true, true, true, true, false, true, true, false, false, false, false] rfl rfl (by kernel_rfl) (fun _ _ _ h => h) (Or.inl ⟨by rfl, ?_⟩) ?_ ?_
                  rotate_left
                  · intro w'
                    go_simp
                    with_reducible rfl
                  rotate_left
                  · simp only [Act.put, List.setIfInBounds_toArray, List.set_cons_zero, List.set_cons_succ, i64_w, i32_w]
                    rfl
                  refine pure_ (i := 8) (N := some 113) (v := ?_) (a' := ?_) #[true, true, true, true, true, false, true, true, true, false, false, false] rfl rfl (by kernel_rfl) (fun _ _ _ h => h) (Or.inl ⟨by rfl, ?_⟩) ?_ ?_
                  rotate_left
                  · intro w'
                    go_simp
                    with_reducible rfl
                  rotate_left
                  · simp only [Act.put, List.setIfInBounds_toArray, List.set_cons_zero, List.set_cons_succ, i64_w, i32_w]
                    rfl
                  refine pure_ (i := 9) (N := some 114) (v := ?_) (a' := ?_) #[true, true, true, true, true, false, true, true, true, true, false, false] rfl rfl (by kernel_rfl) (fun _ _ _ h => h) (Or.inl ⟨by rfl, ?_⟩) ?_ ?_
                  rotate_left
                  · intro w'
                    go_simp
                    with_reducible rfl
                  rotate_left
                  · simp only [Act.put, List.setIfInBounds_toArray, List.set_cons_zero, List.set_cons_succ, i64_w, i32_w]
                    rfl
                  refine take_ (i := 5) (N := some 110) (v := ?_) (a' := ?_) #[true, true, true, true, true, true, true, true, true, true, false, false] rfl rfl (by kernel_rfl) (fun _ _ _ h => h) (Or.inl ⟨by rfl, ?_⟩) hHeld ?_ ?_
                  rotate_left
                  · rintro w' ⟨s0, s1⟩
                    go_simp
                    with_reducible rfl
                  rotate_left
                  · simp only [Act.put, List.setIfInBounds_toArray, List.set_cons_zero, List.set_cons_succ, i64_w, i32_w]
                    rfl
                  refine take_ (i := 10) (N := some 115) (v := ?_) (a' := ?_) #[true, true, true, true, true, true, true, true, true, true, true, false] rfl rfl (by kernel_rfl) (fun _ _ _ h => h) (Or.inl ⟨by rfl, ?_⟩) hHeld ?_ ?_
                  rotate_left
                  · rintro w' ⟨s0, s1⟩
                    go_simp
                    with_reducible rfl
                  rotate_left
                  · simp only [Act.put, List.setIfInBounds_toArray, List.set_cons_zero, List.set_cons_succ, i64_w, i32_w]
                    rfl
                  refine last_ (i := 11) (N := some 116) #[true, true, true, true, true, true, true, true, true, true, true, true] rfl rfl (by kernel_rfl) (by decide) (fun K hK => ?_)
                  refine goes_ Try.func13 (by kernel_rfl) rfl #[.pointer (some ⟨x, 0, none⟩), .string key, .int .i64 val] (by rfl) rfl rfl (by simp only [List.map_toArray, List.map_cons, List.map_nil]; rfl) ?_
                  first | with_reducible refine put1.out.mono ?_ | with_reducible refine put2.out.mono ?_
                  rintro e w3 ⟨⟨o3, f3, rfl⟩, t3⟩
                  refine ⟨_, rfl, ?_⟩
                  replace t3 := Hid.mk' t3
                  refine hK.out _ _ ?_
                  clear hK K
                  refine norm_ (a' := ?_) ?_ ?_
                  rotate_left
                  · show Act.put _ (some 116) _ = _
                    simp only [Act.put, List.setIfInBounds_toArray, List.set_cons_zero, List.set_cons_succ, i64_w, i32_w]
                    rfl
                  refine done_ (by kernel_rfl) ?_
                  clear e1 e2 put1 put2
                  go_wp2_with fail
                  go_roundg g'
                  case measure => omega
                  case rel => exact ⟨i + 1, _, _, by omega, by simp, t3.out, by omega, by omega⟩
                · have c1 : (kind == 1) = false := by rw [beq_eq_false_iff_ne]; exact hk1
                  have put1 : Hid (Calls Try.prog 13 #[.pointer (some ⟨p, 0, none⟩), .string key, .int .i64 val] wr fun e w' => (∃ o f, e = .returned (.tuple #[.int .i64 o, .bool f])) ∧ CSt w w' dd p (insM key val Lt) x Lx u L (.slice aa na ca) (L.map Prod.fst) (.slice av nv cv) (L.map Prod.snd)) := cs'.out.putT key val hd' hd2' hLt1
                  have put2 : Hid (Calls Try.prog 13 #[.pointer (some ⟨p, 0, none⟩), .string key, .int .i64 val] wr.drew fun e w' => (∃ o f, e = .returned (.tuple #[.int .i64 o, .bool f])) ∧ CSt w w' dd p (insM key val Lt) x Lx u L (.slice aa na ca) (L.map Prod.fst) (.slice av nv cv) (L.map Prod.snd)) := (cs'.out.chg (Chg.refl NoB wr).drew).putT key val hd' hd2' hLt1
                  go_upto_region 25 with (fail)
                  refine start_ (n := 12) (S := fun w' => w'.cell? ⟨(a.add (i * 4)).block, (a.add (i * 4)).off + 1, none⟩ = some (.string key) ∧ w'.cell? ⟨(a.add (i * 4)).block, (a.add (i * 4)).off + 2, none⟩ = some (.int .i64 val)) (ds := [11]) #[false, false, false, false, false, false, false, false, false, false, false, false] (by kernel_rfl) rfl rfl ⟨e1, e2⟩ (fun hHeld => ?_)
                  refine pure_ (i := 0) (N := some 117) (v := ?_) (a' := ?_) #[true, false, false, false, false, false, false, false, false, false, false, false] rfl rfl (by kernel_rfl) (fun _ _ _ h => h) (Or.inl ⟨by rfl, ?_⟩) ?_ ?_
                  rotate_left
                  · intro w'
                    go_simp
                    with_reducible rfl
                  rotate_left
                  · simp only [Act.put, List.setIfInBounds_toArray, List.set_cons_zero, List.set_cons_succ, i64_w, i32_w]
                    rfl
                  refine pure_ (i := 1) (N := some 118) (v := ?_) (a' := ?_) #[true, true, false, false, false, false, false, false, false, false, false, false] rfl rfl (by kernel_rfl) (fun _ _ _ h => h) (Or.inl ⟨by rfl, ?_⟩) ?_ ?_
                  rotate_left
                  · intro w'
                    go_simp
                    with_reducible rfl
                  rotate_left
                  · simp only [Act.put, List.setIfInBounds_toArray, List.set_cons_zero, List.set_cons_succ, i64_w, i32_w]
                    rfl
                  refine pure_ (i := 2) (N := some 119) (v := ?_) (a' := ?_) #[true, true, true, false, false, false, false, false, false, false, false, false] rfl rfl (by kernel_rfl) (fun _ _ _ h => h) (Or.inl ⟨by rfl, ?_⟩) ?_ ?_
                  rotate_left
                  · intro w'
                    go_simp
                    with_reducible rfl
                  rotate_left
                  · simp only [Act.put, List.setIfInBounds_toArray, List.set_cons_zero, List.set_cons_succ, i64_w, i32_w]
                    rfl
                  refine pure_ (i := 3) (N := some 120) (v := ?_) (a' := ?_) #[true, true, true, true, false, false, false, false, false, false, false, false] rfl rfl (by kernel_rfl) (fun _ _ _ h => h) (Or.inl ⟨by rfl, ?_⟩) ?_ ?_
                  rotate_left
                  · intro w'
                    go_simp
                    with_reducible rfl
                  rotate_left
                  · simp only [Act.put, List.setIfInBounds_toArray, List.set_cons_zero, List.set_cons_succ, i64_w, i32_w]
                    rfl
                  refine pure_ (i := 4) (N := some 121) (v := ?_) (a' := ?_) #[true, true, true, true, true, false, false, false, false, false, false, false] rfl rfl (by kernel_rfl) (fun _ _ _ h => h) (Or.inl ⟨by rfl, ?_⟩) ?_ ?_
                  rotate_left
                  · intro w'
                    go_simp
                    with_reducible rfl
                  rotate_left
                  · simp only [Act.put, List.setIfInBounds_toArray, List.set_cons_zero, List.set_cons_succ, i64_w, i32_w]
                    rfl
                  refine pure_ (i := 6) (N := some 123) (v := ?_) (a' := ?_) #[true, true, true, true, true, false, true, false, false, false, false, false] rfl rfl (by kernel_rfl) (fun _ _ _ h => h) (Or.inl ⟨by rfl, ?_⟩) ?_ ?_
                  rotate_left
                  · intro w'
                    go_simp
                    with_reducible rfl
                  rotate_left
                  · simp only [Act.put, List.setIfInBounds_toArray, List.set_cons_zero, List.set_cons_succ, i64_w, i32_w]
                    rfl
                  refine pure_ (i := 7) (N := some 124) (v := ?_) (a' := ?_) #[true, true, true, true, true, false, true, true, false, false, false, false] rfl rfl (by kernel_rfl) (fun _ _ _ h => h) (Or.inl ⟨by rfl, ?_⟩) ?_ ?_
                  rotate_left
                  · intro w'
                    go_simp
                    with_reducible rfl
                  rotate_left
                  · simp only [Act.put, List.setIfInBounds_toArray, List.set_cons_zero, List.set_cons_succ, i64_w, i32_w]
                    rfl
                  refine pure_ (i := 8) (N := some 125) (v := ?_) (a' := ?_) #[true, true, true, true, true, false, true, true, true, false, false, false] rfl rfl (by kernel_rfl) (fun _ _ _ h => h) (Or.inl ⟨by rfl, ?_⟩) ?_ ?_
                  rotate_left
                  · intro w'
                    go_simp
                    with_reducible rfl
                  rotate_left
                  · simp only [Act.put, List.setIfInBounds_toArray, List.set_cons_zero, List.set_cons_succ, i64_w, i32_w]
                    rfl
                  refine pure_ (i := 9) (N := some 126) (v := ?_) (a' := ?_) #[true, true, true, true, true, false, true, true, true, true, false, false] rfl rfl (by kernel_rfl) (fun _ _ _ h => h) (Or.inl ⟨by rfl, ?_⟩) ?_ ?_
                  rotate_left
                  · intro w'
                    go_simp
                    with_reducible rfl
                  rotate_left
                  · simp only [Act.put, List.setIfInBounds_toArray, List.set_cons_zero, List.set_cons_succ, i64_w, i32_w]
                    rfl
                  refine take_ (i := 5) (N := some 122) (v := ?_) (a' := ?_) #[true, true, true, true, true, true, true, true, true, true, false, false] rfl rfl (by kernel_rfl) (fun _ _ _ h => h) (Or.inl ⟨by rfl, ?_⟩) hHeld ?_ ?_
                  rotate_left
                  · rintro w' ⟨s0, s1⟩
                    go_simp
                    with_reducible rfl
                  rotate_left
                  · simp only [Act.put, List.setIfInBounds_toArray, List.set_cons_zero, List.set_cons_succ, i64_w, i32_w]
                    rfl
                  refine take_ (i := 10) (N := some 127) (v := ?_) (a' := ?_) #[true, true, true, true, true, true, true, true, true, true, true, false] rfl rfl (by kernel_rfl) (fun _ _ _ h => h) (Or.inl ⟨by rfl, ?_⟩) hHeld ?_ ?_
                  rotate_left
                  · rintro w' ⟨s0, s1⟩
                    go_simp
                    with_reducible rfl
                  rotate_left
                  · simp only [Act.put, List.setIfInBounds_toArray, List.set_cons_zero, List.set_cons_succ, i64_w, i32_w]
                    rfl
                  refine last_ (i := 11) (N := some 128) #[true, true, true, true, true, true, true, true, true, true, true, true] rfl rfl (by kernel_rfl) (by decide) (fun K hK => ?_)
                  refine goes_ Try.func13 (by kernel_rfl) rfl #[.pointer (some ⟨p, 0, none⟩), .string key, .int .i64 val] (by rfl) rfl rfl (by simp only [List.map_toArray, List.map_cons, List.map_nil]; rfl) ?_
                  first | with_reducible refine put1.out.mono ?_ | with_reducible refine put2.out.mono ?_
                  rintro e w3 ⟨⟨o3, f3, rfl⟩, t3⟩
                  refine ⟨_, rfl, ?_⟩
                  replace t3 := Hid.mk' t3
                  refine hK.out _ _ ?_
                  clear hK K
                  refine norm_ (a' := ?_) ?_ ?_
                  rotate_left
                  · show Act.put _ (some 128) _ = _
                    simp only [Act.put, List.setIfInBounds_toArray, List.set_cons_zero, List.set_cons_succ, i64_w, i32_w]
                    rfl
                  refine done_ (by kernel_rfl) ?_
                  clear e0 e1 e2 e3 put1 put2
                  obtain ⟨-, f1, -, -⟩ := hst.out w3 t3.out.chg0
                  simp only at f1
                  go_wp2_with fail
                  refine (t3.out.delX key hd' hd2' hLx1).mono ?_
                  rintro e w6 ⟨⟨o, f, rfl⟩, t6⟩
                  have t6' := Hid.mk' t6
                  clear t6
                  go_wp2_with fail
                  go_roundg g'
                  case measure => omega
                  case rel => exact ⟨i + 1, _, _, by omega, by simp, t6'.out, by omega, by omega⟩
              · obtain rfl : i = m := by omega
                clear cs n3
                have ln : Hid (Calls Try.prog 17 #[.pointer (some ⟨u, 0, none⟩)] wr fun e w' => e = .returned (.int .i64 (na : Int)) ∧ wr = w') := by
                  have := cs'.out.lenU; rwa [← hna.out] at this
                have rg : Hid (Calls Try.prog 18 #[.pointer (some ⟨u, 0, none⟩), .string ⟨#[]⟩, .int .i64 ((na : Int) + 1)] wr fun e w' => ∃ v, e = .returned v ∧ Row w' 9 v ((L.map Prod.fst).map Value.string) ∧ CSt w w' dd p Lt x Lx u L (.slice aa na ca) (L.map Prod.fst) (.slice av nv cv) (L.map Prod.snd)) := by
                  have := cs'.out.rangeU ⟨#[]⟩ ((na : Int) + 1) hd2' (by omega)
                  rw [show ((na : Int) + 1) = ((na + 1 : Nat) : Int) by omega, range_all _ _ (by have := hna.out; omega)] at this
                  rw [show ((na : Int) + 1) = ((na + 1 : Nat) : Int) by omega]
                  exact this
                have n4 : IntKind.i64.wrap ((na : Int) + 1) = (na : Int) + 1 := by rw [IntKind.wrap_i64]; omega
                have z1 : ((na : Int) != (na : Int)) = false := by simp
                go_wp2_with fail
                refine ln.out.mono ?_
                rintro e w6 ⟨rfl, rfl⟩
                go_wp2_with fail
                refine rg.out.mono ?_
                rintro e w6 ⟨v, rfl, rv, c6⟩
                have sm : Hid (Calls Try.prog 22 #[v, .slice aa na ca] w6 fun e w' => e = .returned (.bool true) ∧ CSt w w' dd p Lt x Lx u L (.slice aa na ca) (L.map Prod.fst) (.slice av nv cv) (L.map Prod.snd)) := (same22 v _ _ _ w6 rv c6.rowA (by simp; omega)).mono fun e w' ⟨he, k, hw⟩ => ⟨by rw [he]; simp, by rw [hw]; exact c6.chg ((Chg.refl NoB w6).drewN k)⟩
                clear rv c6 ln rg n4
                go_wp2_with fail
                refine sm.out.mono ?_
                rintro e w7 ⟨rfl, c7⟩
                have k7 := Hid.mk' (c7.checkU hd' hd2' (by omega))
                clear sm c7
                go_wp2_with fail
                refine k7.out.mono ?_
                rintro e w8 ⟨rfl, c8⟩
                have k8 := Hid.mk' (c8.checkT hd' hd2' (by omega))
                clear k7 c8
                go_wp2_with fail
                refine k8.out.mono ?_
                rintro e w9 ⟨rfl, c9⟩
                have k9 := Hid.mk' (c9.checkX hd' hd2' (by omega))
                clear k8 c9
                go_wp2_with fail
                refine k9.out.mono ?_
                rintro e w10 ⟨rfl, c10⟩
                have c10' := Hid.mk' c10
                clear k9 c10 cs'
                go_wp2_with fail
                go_loopg [17] na (fun gq s17 wr => ∃ i : Nat, i + gq = na ∧ s17 = .int .i64 (i : Int) ∧ CSt w wr dd p Lt x Lx u L (.slice aa na ca) (L.map Prod.fst) (.slice av nv cv) (L.map Prod.snd))
                case atStart => exact ⟨0, by omega, rfl, c10'.out⟩
                case round =>
                  clear c10'
                  obtain ⟨i, hgi, rfl, cs⟩ := hrel
                  have cs' := Hid.mk' cs
                  clear cs
                  have n3 : IntKind.i64.wrap ((i : Int) + 1) = (i : Int) + 1 := by rw [IntKind.wrap_i64]; omega
                  by_cases hi : i < na
                  · have b3 : (i : Int) < (na : Int) := by omega
                    have b0 : (0 : Int) ≤ (i : Int) := by omega
                    obtain ⟨g', rfl⟩ : ∃ g', gk = g' + 1 := ⟨gk - 1, by omega⟩
                    have hiL : i < L.length := by have := hna.out; omega
                    obtain ⟨k, y, hky⟩ : ∃ k y, L[i]? = some (k, y) := ⟨_, _, List.getElem?_eq_getElem hiL⟩
                    have hgm := getM_at hasc.out i k y hky
                    have hl9 := cs'.out.rowV.cap_le.1
                    obtain ⟨ga, rfl, ce⟩ := row_str cs'.out.rowA i (by simpa using hiL)
                    obtain ⟨gv, rfl, cf⟩ := row_int cs'.out.rowV i (by simpa using hiL)
                    have hk1 : (L.map Prod.fst)[i]'(by simpa using hiL) = k := by
                      have := (List.getElem?_eq_some_iff.1 hky).2
                      simp [this]
                    have hk2 : (L.map Prod.snd)[i]'(by simpa using hiL) = y := by
                      have := (List.getElem?_eq_some_iff.1 hky).2
                      simp [this]
                    rw [hk1] at ce
                    rw [hk2] at cf
                    have b4 : (i : Int) < (nv : Int) := by simp at hl9; omega
                    have gt : Hid (Calls Try.prog 21 #[.pointer (some ⟨u, 0, none⟩), .string k] wr fun e w' => e = .returned (.tuple #[.int .i64 y, .bool true]) ∧ wr = w') := by
                      have := cs'.out.getU k hd2'
                      rwa [hgm] at this
                    have z2 : (y == y) = true := by simp
                    have z3 : (y != y) = false := by simp
                    clear hky hgm hk1 hk2 hiL hl9
                    go_wp2_with (go_at_call 21; refine gt.out.mono ?_; rintro e w' ⟨rfl, rfl⟩)
                    go_roundg g'
                    case measure => omega
                    case rel => exact ⟨i + 1, by omega, by simp, cs'.out⟩
                  · obtain rfl : i = na := by omega
                    have kf := Hid.mk' cs'.out.chg0
                    go_wp2_with fail
                    go_ret
                    exact ⟨rfl, kf.out⟩
  · by_cases hr1 : r = true
    · subst hr1
      by_cases hr2 : r2 = true
      · subst hr2
        have hb : d < 2 ∨ 32 < d := by
          by_cases h2 : 2 ≤ d
          · right
            by_cases h3 : d ≤ 32
            · exact (h1 ⟨rfl, rfl, h2, h3⟩).elim
            · omega
          · left; omega
        clear h1
        rcases hb with hb | hb
        · have b1 : decide (d < 2) = true := by simp; omega
          go_enter Try.func6, Try.ntmps6
          go_wp2_with fail
          refine lv.out.mono ?_
          rintro e w1 ⟨rfl, k1⟩
          have k1' := Hid.mk' k1
          go_wp2_with fail
          refine (few1'.out _ k1).mono ?_
          rintro e w2 ⟨rfl, rfl⟩
          go_wp2_with fail
          refine (few2'.out _ k1).mono ?_
          rintro e w2 ⟨rfl, rfl⟩
          go_wp2_with fail
          go_ret
          exact ⟨rfl, k1'.out⟩
        · have b1 : decide (d < 2) = false := by simp; omega
          have b2 : decide (32 < d) = true := by simp; omega
          go_enter Try.func6, Try.ntmps6
          go_wp2_with fail
          refine lv.out.mono ?_
          rintro e w1 ⟨rfl, k1⟩
          have k1' := Hid.mk' k1
          go_wp2_with fail
          refine (few1'.out _ k1).mono ?_
          rintro e w2 ⟨rfl, rfl⟩
          go_wp2_with fail
          refine (few2'.out _ k1).mono ?_
          rintro e w2 ⟨rfl, rfl⟩
          go_wp2_with fail
          go_ret
          exact ⟨rfl, k1'.out⟩
      · obtain rfl : r2 = false := by simpa using hr2
        clear h1
        go_enter Try.func6, Try.ntmps6
        go_wp2_with fail
        refine lv.out.mono ?_
        rintro e w1 ⟨rfl, k1⟩
        have k1' := Hid.mk' k1
        go_wp2_with fail
        refine (few1'.out _ k1).mono ?_
        rintro e w2 ⟨rfl, rfl⟩
        go_wp2_with fail
        refine (few2'.out _ k1).mono ?_
        rintro e w2 ⟨rfl, rfl⟩
        go_wp2_with fail
        go_ret
        exact ⟨rfl, k1'.out⟩
    · obtain rfl : r = false := by simpa using hr1
      clear h1
      go_enter Try.func6, Try.ntmps6
      go_wp2_with fail
      refine lv.out.mono ?_
      rintro e w1 ⟨rfl, k1⟩
      have k1' := Hid.mk' k1
      go_wp2_with fail
      refine (few1'.out _ k1).mono ?_
      rintro e w2 ⟨rfl, rfl⟩
      go_wp2_with fail
      go_ret
      exact ⟨rfl, k1'.out⟩
end Go.Proofs.Ytamnmoejjjaegaa
