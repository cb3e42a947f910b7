/- What the law IndexPlays returns: true, for every degree and every slice of calls. No conditions. -/
import Derived.Test.YtamnmoejjjaegaaMT
set_option linter.unusedVariables false
set_option linter.unusedSimpArgs false
namespace Go.Proofs.Ytamnmoejjjaegaa
open Go Go.RowKit Go.Proofs.YtamnmoejjjaegaaW.PrintLast

theorem new10P (d : Int) (bad : Bool) (w : World) (hb : (decide (d < 2) || decide (32 < d)) = bad) : Calls Try.prog 10 #[.int .i64 d] w fun e w' => ∃ pp, e = .returned (.pointer pp) ∧ Chg NoB w w' ∧ ((bad = true ∧ pp = none) ∨ (bad = false ∧ ∃ p, pp = some (⟨p, 0, none⟩ : Addr))) ∧
    ∀ (Q : Nat → Prop) w2, Chg NoB w' w2 → (∀ j, w.heap.size ≤ j → j < w'.heap.size → Q j) → (∀ j, w2.heap.size ≤ j → Q j) → ∃ dd, PSt Q w2 w2.heap.size dd bad pp (.agg #[.bool bad, .slice none 0 0, .slice none 0 0]) [] := by
  have nm : ∀ j, ¬ mown (.agg #[.bool bad, .slice none 0 0, .slice none 0 0]) j := fun j hj => by rcases hj with hj | hj <;> exact own_none _ _ _ hj
  by_cases hd : 2 ≤ d ∧ d ≤ 32
  · obtain ⟨h1, h2⟩ := hd
    obtain ⟨dd, rfl⟩ := Int.eq_ofNat_of_zero_le (show 0 ≤ d by omega)
    obtain rfl : bad = false := by rw [← hb]; simp; omega
    refine (new_good dd dd w (by omega) (by omega) rfl).mono ?_
    rintro e w' ⟨p, rfl, t, k⟩
    exact ⟨_, rfl, k, .inr ⟨rfl, p, rfl⟩, fun Q w2 k2 q1 q2 => ⟨dd, .inl ⟨rfl, rfl⟩, by omega, by omega, ⟨Nat.le_refl _, q2, fun j hj => (nm j hj).elim⟩, .inr ⟨rfl, p, _, rfl, t.there.chg k2 (fun _ _ h => h), fun j hj => ⟨q1 j hj.1 hj.2, Nat.lt_of_lt_of_le hj.2 k2.size⟩, fun j hj => (nm j hj).elim⟩⟩⟩
  · obtain rfl : bad = true := by rw [← hb]; simp; omega
    refine (new_bad d w (by omega)).mono ?_
    rintro e w' ⟨rfl, rfl⟩
    exact ⟨_, rfl, Chg.refl _ _, .inl ⟨rfl, rfl⟩, fun Q w2 k2 q1 q2 => ⟨2, .inl ⟨rfl, rfl⟩, by omega, by omega, ⟨Nat.le_refl _, q2, fun j hj => (nm j hj).elim⟩, .inl ⟨rfl, rfl, rfl⟩⟩⟩

theorem PSt.chgQ {Q T : Nat → Prop} {w w' : World} {lim d : Nat} {bad : Bool} {pp : Option Addr} {mv : Value} {L : List E} (h : PSt Q w lim d bad pp mv L) (k : Chg T w w') (hT : ∀ j, T j → ¬ Q j) (ho : ∀ j, mown mv j → ¬ T j) : PSt Q w' lim d bad pp mv L := by
  obtain ⟨h1, h3, h4, hm, h5⟩ := h
  refine ⟨h1.chgS k ho, h3, h4, ⟨Nat.le_trans hm.1 k.size, hm.2⟩, h5.imp id ?_⟩
  rintro ⟨g1, p, S, g2, g3, g4, g5⟩
  exact ⟨g1, p, S, g2, g3.chg k fun j a b => hT j b (g4 j a).1, g4, g5⟩
abbrev Sl := Option Addr × Nat × Nat
def aggV (bad : Bool) (a b : Sl) : Value := .agg #[.bool bad, .slice a.1 a.2.1 a.2.2, .slice b.1 b.2.1 b.2.2]
/-- What a step and the block laid beside it leave, whatever their order. -/
def PlayF (Q : Nat → Prop) (W : World) (d : Nat) (bad : Bool) (m : Nat) (s : Nat × Option Addr × Sl × Sl) (w' : World) : Prop :=
  ∃ L', w'.heap[s.1]? = some (.cells #[.bool false, .slice none 0 0, .slice none 0 0] 42 (0, 0)) ∧ W.heap.size ≤ s.1 ∧ Chg (fun j => Q j ∧ j < W.heap.size) W w' ∧
    (∀ w2, Chg (fun j => j = s.1) w' w2 → PSt Q w2 w2.heap.size d bad s.2.1 (.agg #[.bool bad, .slice s.2.2.1.1 s.2.2.1.2.1 s.2.2.1.2.2, .slice s.2.2.2.1 s.2.2.2.2.1 s.2.2.2.2.2]) L') ∧ L'.length ≤ m

set_option maxHeartbeats 8000000 in
set_option maxRecDepth 100000 in
theorem plays5 (d : Int) (A : Option Addr) (n c : Nat) (l : List St) (w : World) (h : Steps w A n l) :
    Calls Try.prog 5 #[.int .i64 d, .slice A n c] w fun e w' => e = .returned (.bool true) ∧ Chg NoB w w' := by
  have few : ∀ W, Chg NoB w W → Calls Try.prog 9 #[.slice A n c, .int .i64 300] W fun e w' => e = .returned (.bool (fewB 300 l)) ∧ W = w' := fun W hW => few9 A n c 300 l W (h.chg hW) (by omega)
  have few' := Hid.mk' few
  have lv := Hid.mk' (lives8 w)
  obtain ⟨r, hr⟩ : ∃ r, fewB 300 l = r := ⟨_, rfl⟩
  have hr' := Hid.mk' hr
  have h' := Hid.mk' h
  rw [hr] at few few'
  clear few hr h
  cases r
  · go_enter Try.func5, Try.ntmps5
    go_wp2_with fail
    refine lv.out.mono ?_
    rintro e w1 ⟨rfl, k1⟩
    have k1' := Hid.mk' k1
    go_wp2_with fail
    refine (few'.out _ k1).mono ?_
    rintro e w2 ⟨rfl, rfl⟩
    go_wp2_with fail
    go_ret
    exact ⟨rfl, k1'.out⟩
  · have n300 : n ≤ 300 := by
      have := hr'.out
      simp only [fewB, Bool.and_eq_true, decide_eq_true_eq] at this
      have := h'.out.1
      omega
    obtain ⟨bad, hbad⟩ : ∃ bad, (decide (d < 2) || decide (32 < d)) = bad := ⟨_, rfl⟩
    have cN := Hid.mk' (fun W => new10P d bad W hbad)
    have cM : Hid (∀ W, Calls Try.prog 19 #[.int .i64 d] W fun e w' => e = .returned (.agg #[.bool bad, .slice none 0 0, .slice none 0 0]) ∧ Chg NoB W w') := fun W => by have := new19 d W; rwa [hbad] at this
    clear hbad
    go_enter Try.func5, Try.ntmps5
    go_wp2_with fail
    refine lv.out.mono ?_
    rintro e w1 ⟨rfl, k1⟩
    have k1' := Hid.mk' k1
    go_wp2_with fail
    refine (few'.out _ k1).mono ?_
    rintro e w2 ⟨rfl, rfl⟩
    clear k1 few' lv
    go_wp2_with fail
    refine (cN.out w1).mono ?_
    rintro e w2 ⟨pp, rfl, k2, hpp, mk⟩
    have k2' := Hid.mk' k2
    have mk' := Hid.mk' mk
    have hpp' := Hid.mk' hpp
    clear k2 mk hpp cN
    go_wp2_with fail
    refine (cM.out w2).mono ?_
    rintro e w3 ⟨rfl, k3⟩
    have k3' := Hid.mk' k3
    clear k3 cM
    obtain ⟨W6, hW6⟩ : ∃ W6, W6 = w3.alloc (.cells #[.bool bad, .slice none 0 0, .slice none 0 0] 42) := ⟨_, rfl⟩
    obtain ⟨g6, hg6⟩ : ∃ g6, g6 = w3.heap.size := ⟨_, rfl⟩
    have k6 := Hid.mk' (show Chg NoB w3 W6 by rw [hW6]; exact (Chg.refl _ _).alloc _)
    have hG6 := Hid.mk' (show W6.heap[g6]? = some (.cells #[.bool bad, .slice none 0 0, .slice none 0 0] 42 (0, 0)) by rw [hW6, hg6]; exact heap_alloc_new _ _)
    have hs6 := Hid.mk' (show W6.heap.size = g6 + 1 by rw [hW6, hg6]; simp)
    have hW6' := Hid.mk' hW6
    have hg6' := Hid.mk' hg6
    clear hW6 hg6
    go_upto_region 6 with (fail)
    rw [← hW6'.out, ← hg6'.out]
    have c0 : W6.cell? ⟨g6, 0, none⟩ = some (.bool bad) := by rw [cell_of_row W6 g6 0 _ _ _ hG6.out]; rfl
    have i1 : pp.isNone = bad := by rcases hpp'.out with ⟨h1, h2⟩ | ⟨h1, p, h2⟩ <;> rw [h1, h2] <;> rfl
    have i2 : (bad == bad) = true := by simp
    go_upto_region 8 with (fail)
    obtain ⟨Q, hQ⟩ : ∃ Q : Nat → Prop, Q = fun j => w.heap.size ≤ j ∧ j ≠ g6 := ⟨_, rfl⟩
    have k16 : Hid (Chg NoB w W6) := ((k1'.out.trans k2'.out).trans k3'.out).trans k6.out
    have hgw : Hid (w.heap.size ≤ g6) := by show _ ≤ _; rw [hg6'.out]; exact ((k1'.out.trans k2'.out).trans k3'.out).size
    have st0 := mk'.out Q W6 (k3'.out.trans k6.out) (fun j h1 h2 => by rw [hQ]; have := k1'.out.size; have := k3'.out.size; have := hg6'.out; exact ⟨by omega, by omega⟩) (fun j hj => by rw [hQ]; have := hs6.out; have := hgw.out; exact ⟨by omega, by omega⟩)
    obtain ⟨dd, st1⟩ := st0
    have st1' := Hid.mk' st1
    have hQ' := Hid.mk' hQ
    clear c0 i1 i2 st1 hQ mk' hpp' k3' k2' k1' k6 hs6
    go_wp2_with fail
    go_loopg [5, 7] n (fun gq s5 s7 wr => ∃ (i : Nat) (pp ak av : Option Addr) (nk ck nv cv : Nat) (L : List E), i + gq = n ∧ s7 = .int .i64 (i : Int) ∧ s5 = .pointer pp ∧ PSt Q wr wr.heap.size dd bad pp (.agg #[.bool bad, .slice ak nk ck, .slice av nv cv]) L ∧
      Hid (wr.heap[g6]? = some (.cells #[.bool bad, .slice ak nk ck, .slice av nv cv] 42 (0, 0))) ∧ Chg NoB w wr ∧ L.length ≤ i)
    case atStart => exact ⟨0, pp, none, none, 0, 0, 0, 0, [], by omega, rfl, rfl, st1'.out, hG6, k16.out, by simp⟩
    case round =>
      clear st1' hG6 k16
      obtain ⟨i, pp, ak, av, nk, ck, nv, cv, L, hgi, rfl, rfl, ps, hG, kwr, hL⟩ := hrel
      have ps' := Hid.mk' ps
      have kwr' := Hid.mk' kwr
      have n3 : IntKind.i64.wrap ((i : Int) + 1) = (i : Int) + 1 := by rw [IntKind.wrap_i64]; omega
      by_cases hi : i < n
      · have b3 : (i : Int) < (n : Int) := by omega
        have hi2 : i < l.length := by have := h'.out.1; omega
        obtain ⟨s, hsi⟩ : ∃ s, l[i]? = some s := ⟨_, List.getElem?_eq_getElem hi2⟩
        obtain ⟨a, rfl, e0, e1, e2, e3⟩ := (h'.out.chg kwr).2 i s hsi
        obtain ⟨kind, key, val, eq⟩ := s
        have hst : Hid (∀ W, Chg NoB w W → StepAt W (a.add (i * 4)) (kind, key, val, eq)) := fun W hW => by
          obtain ⟨a', ha', hs'⟩ := (h'.out.chg hW).2 i _ hsi
          cases ha'; exact hs'
        simp only at e0 e1 e2 e3
        obtain ⟨g', rfl⟩ : ∃ g', gk = g' + 1 := ⟨gk - 1, by omega⟩
        have m0 : wr.cell? ⟨g6, 0, none⟩ = some (.bool bad) := by rw [cell_of_row wr g6 0 _ _ _ hG.out]; rfl
        have m1 : wr.cell? ⟨g6, 1, none⟩ = some (.slice ak nk ck) := by rw [cell_of_row wr g6 1 _ _ _ hG.out]; rfl
        have m2 : wr.cell? ⟨g6, 2, none⟩ = some (.slice av nv cv) := by rw [cell_of_row wr g6 2 _ _ _ hG.out]; rfl
        have st : Hid (∀ W, Chg NoB wr W → Calls Try.prog 20 #[.pointer pp, .agg #[.bool bad, .slice ak nk ck, .slice av nv cv], .agg #[.int .i64 kind, .string key, .int .i64 val, .bool eq]] W fun e w' => ∃ pp' mv' L', e = .returned (.tuple #[.pointer pp', mv', .bool true]) ∧ StepEnd Q W w' wr.heap.size dd bad pp' mv' L' ∧ L'.length ≤ L.length + 1) :=
          fun W hW => step20 Q W wr.heap.size dd bad pp _ L kind key val eq (ps'.out.chg hW) (by omega)
        have zg : Hid (g6 < wr.heap.size) := (Array.getElem?_eq_some_iff.1 hG.out).1
        have nQ : Hid (¬ Q g6) := by show ¬ _; rw [hQ'.out]; exact fun h => h.2 rfl
        have qw : Hid (∀ j, Q j → w.heap.size ≤ j) := fun j hj => by rw [hQ'.out] at hj; exact hj.1
        clear ps kwr hsi hi2
        go_upto_region 11 with (fail)
        refine start_ (n := 15) (S := fun w' => w'.cell? ⟨g6, 0, none⟩ = some (.bool bad) ∧ w'.cell? ⟨g6, 1, none⟩ = some (.slice ak nk ck) ∧ w'.cell? ⟨g6, 2, none⟩ = some (.slice av nv cv) ∧ w'.cell? (a.add (i * 4)) = some (.int .i64 kind) ∧ w'.cell? ⟨(a.add (i * 4)).block, (a.add (i * 4)).off + 1, none⟩ = some (.string key) ∧ w'.cell? ⟨(a.add (i * 4)).block, (a.add (i * 4)).off + 2, none⟩ = some (.int .i64 val) ∧ w'.cell? ⟨(a.add (i * 4)).block, (a.add (i * 4)).off + 3, none⟩ = some (.bool eq)) (ds := [13]) #[false, false, false, false, false, false, false, false, false, false, false, false, false, false, false] (by kernel_rfl) rfl rfl ⟨m0, m1, m2, e0, e1, e2, e3⟩ (fun hHeld => ?_)
        refine pure_ (i := 0) (N := some 32) (v := ?_) (a' := ?_) #[true, false, false, false, false, false, false, false, false, false, false, false, false, false, false] rfl rfl (by kernel_rfl) (fun _ _ _ h => h) (Or.inl ⟨by rfl, ?_⟩) ?_ ?_
        rotate_left
        · intro w'
          go_simp
          with_reducible rfl
        rotate_left
        · simp only [Act.put, List.setIfInBounds_toArray, List.set_cons_zero, List.set_cons_succ, i64_w, i32_w]
          rfl
        refine pure_ (i := 2) (N := some 34) (v := ?_) (a' := ?_) #[true, false, true, false, false, false, false, false, false, false, false, false, false, false, false] rfl rfl (by kernel_rfl) (fun _ _ _ h => h) (Or.inl ⟨by rfl, ?_⟩) ?_ ?_
        rotate_left
        · intro w'
          go_simp
          with_reducible rfl
        rotate_left
        · simp only [Act.put, List.setIfInBounds_toArray, List.set_cons_zero, List.set_cons_succ, i64_w, i32_w]
          rfl
        refine pure_ (i := 3) (N := some 35) (v := ?_) (a' := ?_) #[true, false, true, true, false, false, false, false, false, false, false, false, false, false, false] rfl rfl (by kernel_rfl) (fun _ _ _ h => h) (Or.inl ⟨by rfl, ?_⟩) ?_ ?_
        rotate_left
        · intro w'
          go_simp
          with_reducible rfl
        rotate_left
        · simp only [Act.put, List.setIfInBounds_toArray, List.set_cons_zero, List.set_cons_succ, i64_w, i32_w]
          rfl
        refine pure_ (i := 4) (N := some 36) (v := ?_) (a' := ?_) #[true, false, true, true, true, false, false, false, false, false, false, false, false, false, false] rfl rfl (by kernel_rfl) (fun _ _ _ h => h) (Or.inl ⟨by rfl, ?_⟩) ?_ ?_
        rotate_left
        · intro w'
          go_simp
          with_reducible rfl
        rotate_left
        · simp only [Act.put, List.setIfInBounds_toArray, List.set_cons_zero, List.set_cons_succ, i64_w, i32_w]
          rfl
        refine take_ (i := 1) (N := some 33) (v := ?_) (a' := ?_) #[true, true, true, true, true, false, false, false, false, false, false, false, false, false, false] rfl rfl (by kernel_rfl) (fun _ _ _ h => h) (Or.inl ⟨by rfl, ?_⟩) hHeld ?_ ?_
        rotate_left
        · rintro w' ⟨s0, s1, s2, s3, s4, s5, s6⟩
          go_simp
          with_reducible rfl
        rotate_left
        · simp only [Act.put, List.setIfInBounds_toArray, List.set_cons_zero, List.set_cons_succ, i64_w, i32_w]
          rfl
        refine take_ (i := 5) (N := some 37) (v := ?_) (a' := ?_) #[true, true, true, true, true, true, false, false, false, false, false, false, false, false, false] rfl rfl (by kernel_rfl) (fun _ _ _ h => h) (Or.inl ⟨by rfl, ?_⟩) hHeld ?_ ?_
        rotate_left
        · rintro w' ⟨s0, s1, s2, s3, s4, s5, s6⟩
          go_simp
          with_reducible rfl
        rotate_left
        · simp only [Act.put, List.setIfInBounds_toArray, List.set_cons_zero, List.set_cons_succ, i64_w, i32_w]
          rfl
        refine join_ (σ := Nat × Option Addr × Sl × Sl) 3 #[true, true, true, true, true, true, true, true, true, true, true, true, false, false, false] (fun s => [(38, .tuple #[.pointer s.2.1, .agg #[.bool bad, .slice s.2.2.1.1 s.2.2.1.2.1 s.2.2.1.2.2, .slice s.2.2.2.1 s.2.2.2.2.1 s.2.2.2.2.2], .bool true]), (31, .tuple #[.pointer s.2.1, .agg #[.bool bad, .slice s.2.2.1.1 s.2.2.1.2.1 s.2.2.1.2.2, .slice s.2.2.2.1 s.2.2.2.2.1 s.2.2.2.2.2], .bool true]), (39, .pointer s.2.1), (40, .agg #[.bool bad, .slice s.2.2.1.1 s.2.2.1.2.1 s.2.2.1.2.2, .slice s.2.2.2.1 s.2.2.2.2.1 s.2.2.2.2.2]), (41, .bool true), (9, .pointer (some ⟨s.1, 0, none⟩))]) (PlayF Q wr dd bad (L.length + 1)) ?_ ?_
        rotate_left
        · intro hCont
          refine two_ (i := 6) (j := 11) (Ni := some 38) (Nj := some 9) #[true, true, true, true, true, true, true, false, false, false, false, false, false, false, false] #[true, true, true, true, true, true, false, false, false, false, false, true, false, false, false] rfl rfl rfl rfl (by kernel_rfl) (by decide) (by decide) (fun K hK => ?_) (fun K hK => ?_)
          · skip
            refine goes_ Try.func20 (by kernel_rfl) rfl #[.pointer pp, .agg #[.bool bad, .slice ak nk ck, .slice av nv cv], .agg #[.int .i64 kind, .string key, .int .i64 val, .bool eq]] (by rfl) rfl rfl (by simp only [List.map_toArray, List.map_cons, List.map_nil]; rfl) ?_
            first | with_reducible refine (st.out wr (Chg.refl _ _)).mono ?_ | with_reducible refine (st.out wr.drew (Chg.refl _ _).drew).mono ?_
            rintro e w4 ⟨p2, mv2, L2, rfl, se, l2⟩
            obtain ⟨ak2, nk2, ck2, av2, nv2, cv2, rfl, -⟩ := se.2.1.open
            refine ⟨_, rfl, ?_⟩
            replace se : StepEnd Q wr w4 wr.heap.size dd bad p2 (.agg #[.bool bad, .slice ak2 nk2 ck2, .slice av2 nv2 cv2]) L2 := by first | exact se | exact ⟨se.1.undrew, se.2⟩
            have k4 : Chg (fun j => Q j ∧ j < wr.heap.size) wr w4 := se.1
            have sK := hst.out w4 (kwr'.out.trans' k4 fun j hj => .inr (qw.out j hj.1))
            obtain ⟨sa, sb, sc, sd⟩ := sK
            simp only at sa sb sc sd
            replace se := Hid.mk' se; replace l2 := Hid.mk' l2; replace k4 := Hid.mk' k4
            refine hK.out _ _ ⟨(k4.out.cell (fun h => nQ.out h.1) m0), (k4.out.cell (fun h => nQ.out h.1) m1), (k4.out.cell (fun h => nQ.out h.1) m2), sa, sb, sc, sd⟩ (fun hHeld => ?_)
            clear hK K
            refine norm_ (a' := ?_) ?_ ?_
            rotate_left
            · show Act.put _ (some 38) _ = _
              simp only [Act.put, List.setIfInBounds_toArray, List.set_cons_zero, List.set_cons_succ, i64_w, i32_w]
              rfl
            refine pure_ (i := 7) (N := some 31) (v := ?_) (a' := ?_) #[true, true, true, true, true, true, true, true, false, false, false, false, false, false, false] rfl rfl (by kernel_rfl) (fun _ _ _ h => h) (Or.inl ⟨by rfl, ?_⟩) ?_ ?_
            rotate_left
            · intro w'
              go_simp
              with_reducible rfl
            rotate_left
            · simp only [Act.put, List.setIfInBounds_toArray, List.set_cons_zero, List.set_cons_succ, i64_w, i32_w]
              rfl
            refine pure_ (i := 8) (N := some 39) (v := ?_) (a' := ?_) #[true, true, true, true, true, true, true, true, true, false, false, false, false, false, false] rfl rfl (by kernel_rfl) (fun _ _ _ h => h) (Or.inl ⟨by rfl, ?_⟩) ?_ ?_
            rotate_left
            · intro w'
              go_simp
              with_reducible rfl
            rotate_left
            · simp only [Act.put, List.setIfInBounds_toArray, List.set_cons_zero, List.set_cons_succ, i64_w, i32_w]
              rfl
            refine pure_ (i := 9) (N := some 40) (v := ?_) (a' := ?_) #[true, true, true, true, true, true, true, true, true, true, false, false, false, false, false] rfl rfl (by kernel_rfl) (fun _ _ _ h => h) (Or.inl ⟨by rfl, ?_⟩) ?_ ?_
            rotate_left
            · intro w'
              go_simp
              with_reducible rfl
            rotate_left
            · simp only [Act.put, List.setIfInBounds_toArray, List.set_cons_zero, List.set_cons_succ, i64_w, i32_w]
              rfl
            refine pure_ (i := 10) (N := some 41) (v := ?_) (a' := ?_) #[true, true, true, true, true, true, true, true, true, true, true, false, false, false, false] rfl rfl (by kernel_rfl) (fun _ _ _ h => h) (Or.inl ⟨by rfl, ?_⟩) ?_ ?_
            rotate_left
            · intro w'
              go_simp
              with_reducible rfl
            rotate_left
            · simp only [Act.put, List.setIfInBounds_toArray, List.set_cons_zero, List.set_cons_succ, i64_w, i32_w]
              rfl
            refine one_ (i := 11) (N := some 9) #[true, true, true, true, true, true, true, true, true, true, true, true, false, false, false] rfl rfl (by kernel_rfl) (by decide) (fun K hK => ?_)
            refine value_ (w1 := ?_) (v := ?_) (by rfl) rfl ?_ ?_
            rotate_left 2
            · go_simp
              constructor
              · rfl
              · rfl
            refine named fun X6 hX6 => ?_
            have kX6 : Hid (Chg NoB w4 X6) := by show Chg _ _ _; rw [hX6]; first | exact ((Chg.refl _ w4).alloc _).drew | exact (Chg.refl _ w4).alloc _
            have hz6 : Hid (X6.heap[w4.heap.size]? = some (.cells #[.bool false, .slice none 0 0, .slice none 0 0] 42 (0, 0))) := by show _ = _; rw [hX6]; first | exact heap_alloc_new _ _ | simp
            clear hX6
            refine hK.out _ _ ⟨(kX6.out.cell (fun h => h) (k4.out.cell (fun h => nQ.out h.1) m0)), (kX6.out.cell (fun h => h) (k4.out.cell (fun h => nQ.out h.1) m1)), (kX6.out.cell (fun h => h) (k4.out.cell (fun h => nQ.out h.1) m2)), (kX6.out.cell (fun h => h) sa), (kX6.out.cell (fun h => h) sb), (kX6.out.cell (fun h => h) sc), (kX6.out.cell (fun h => h) sd)⟩ (fun hHeld => ?_)
            clear hK K
            refine norm_ (a' := ?_) ?_ ?_
            rotate_left
            · show Act.put _ (some 9) _ = _
              simp only [Act.put, List.setIfInBounds_toArray, List.set_cons_zero, List.set_cons_succ, i64_w, i32_w]
              rfl
            exact norm_ (by simp only [putAll, Act.put, List.setIfInBounds_toArray, List.set_cons_zero, List.set_cons_succ]) (hCont (w4.heap.size, p2, (ak2, nk2, ck2), (av2, nv2, cv2)) _ ⟨L2, hz6.out, k4.out.size, k4.out.trans (kX6.out.mono fun _ h => h.elim), fun w2 k2 => se.out.2.2 NoB w2 (fun _ h => h.elim) (kX6.out.trans' k2 fun j hj => .inr (Nat.le_of_eq hj.symm)), l2.out⟩)
          · skip
            refine value_ (w1 := ?_) (v := ?_) (by rfl) rfl ?_ ?_
            rotate_left 2
            · go_simp
              constructor
              · rfl
              · rfl
            refine named fun X11 hX11 => ?_
            have kX11 : Hid (Chg NoB wr X11) := by show Chg _ _ _; rw [hX11]; first | exact ((Chg.refl _ wr).alloc _).drew | exact (Chg.refl _ wr).alloc _
            have hz11 : Hid (X11.heap[wr.heap.size]? = some (.cells #[.bool false, .slice none 0 0, .slice none 0 0] 42 (0, 0)) ∧ X11.heap.size = wr.heap.size + 1) := by refine ⟨?_, ?_⟩ <;> rw [hX11] <;> first | exact heap_alloc_new _ _ | simp
            clear hX11
            refine hK.out _ _ ⟨(kX11.out.cell (fun h => h) m0), (kX11.out.cell (fun h => h) m1), (kX11.out.cell (fun h => h) m2), (kX11.out.cell (fun h => h) e0), (kX11.out.cell (fun h => h) e1), (kX11.out.cell (fun h => h) e2), (kX11.out.cell (fun h => h) e3)⟩ (fun hHeld => ?_)
            clear hK K
            refine norm_ (a' := ?_) ?_ ?_
            rotate_left
            · show Act.put _ (some 9) _ = _
              simp only [Act.put, List.setIfInBounds_toArray, List.set_cons_zero, List.set_cons_succ, i64_w, i32_w]
              rfl
            refine one_ (i := 6) (N := some 38) #[true, true, true, true, true, true, true, false, false, false, false, true, false, false, false] rfl rfl (by kernel_rfl) (by decide) (fun K hK => ?_)
            refine goes_ Try.func20 (by kernel_rfl) rfl #[.pointer pp, .agg #[.bool bad, .slice ak nk ck, .slice av nv cv], .agg #[.int .i64 kind, .string key, .int .i64 val, .bool eq]] (by rfl) rfl rfl (by simp only [List.map_toArray, List.map_cons, List.map_nil]; rfl) ?_
            with_reducible refine (st.out _ kX11.out).mono ?_
            rintro e w4 ⟨p2, mv2, L2, rfl, se, l2⟩
            obtain ⟨ak2, nk2, ck2, av2, nv2, cv2, rfl, -⟩ := se.2.1.open
            refine ⟨_, rfl, ?_⟩
            replace se : StepEnd Q X11 w4 wr.heap.size dd bad p2 (.agg #[.bool bad, .slice ak2 nk2 ck2, .slice av2 nv2 cv2]) L2 := by first | exact se | exact ⟨se.1.undrew, se.2⟩
            have k4 : Chg (fun j => Q j ∧ j < wr.heap.size) wr w4 := (kX11.out.mono fun _ h => h.elim).trans se.1
            have sK := hst.out w4 (kwr'.out.trans' k4 fun j hj => .inr (qw.out j hj.1))
            obtain ⟨sa, sb, sc, sd⟩ := sK
            simp only at sa sb sc sd
            replace se := Hid.mk' se; replace l2 := Hid.mk' l2; replace k4 := Hid.mk' k4
            refine hK.out _ _ ⟨(k4.out.cell (fun h => nQ.out h.1) m0), (k4.out.cell (fun h => nQ.out h.1) m1), (k4.out.cell (fun h => nQ.out h.1) m2), sa, sb, sc, sd⟩ (fun hHeld => ?_)
            clear hK K
            refine norm_ (a' := ?_) ?_ ?_
            rotate_left
            · show Act.put _ (some 38) _ = _
              simp only [Act.put, List.setIfInBounds_toArray, List.set_cons_zero, List.set_cons_succ, i64_w, i32_w]
              rfl
            refine pure_ (i := 7) (N := some 31) (v := ?_) (a' := ?_) #[true, true, true, true, true, true, true, true, false, false, false, true, false, false, false] rfl rfl (by kernel_rfl) (fun _ _ _ h => h) (Or.inl ⟨by rfl, ?_⟩) ?_ ?_
            rotate_left
            · intro w'
              go_simp
              with_reducible rfl
            rotate_left
            · simp only [Act.put, List.setIfInBounds_toArray, List.set_cons_zero, List.set_cons_succ, i64_w, i32_w]
              rfl
            refine pure_ (i := 8) (N := some 39) (v := ?_) (a' := ?_) #[true, true, true, true, true, true, true, true, true, false, false, true, false, false, false] rfl rfl (by kernel_rfl) (fun _ _ _ h => h) (Or.inl ⟨by rfl, ?_⟩) ?_ ?_
            rotate_left
            · intro w'
              go_simp
              with_reducible rfl
            rotate_left
            · simp only [Act.put, List.setIfInBounds_toArray, List.set_cons_zero, List.set_cons_succ, i64_w, i32_w]
              rfl
            refine pure_ (i := 9) (N := some 40) (v := ?_) (a' := ?_) #[true, true, true, true, true, true, true, true, true, true, false, true, false, false, false] rfl rfl (by kernel_rfl) (fun _ _ _ h => h) (Or.inl ⟨by rfl, ?_⟩) ?_ ?_
            rotate_left
            · intro w'
              go_simp
              with_reducible rfl
            rotate_left
            · simp only [Act.put, List.setIfInBounds_toArray, List.set_cons_zero, List.set_cons_succ, i64_w, i32_w]
              rfl
            refine pure_ (i := 10) (N := some 41) (v := ?_) (a' := ?_) #[true, true, true, true, true, true, true, true, true, true, true, true, false, false, false] rfl rfl (by kernel_rfl) (fun _ _ _ h => h) (Or.inl ⟨by rfl, ?_⟩) ?_ ?_
            rotate_left
            · intro w'
              go_simp
              with_reducible rfl
            rotate_left
            · simp only [Act.put, List.setIfInBounds_toArray, List.set_cons_zero, List.set_cons_succ, i64_w, i32_w]
              rfl
            exact norm_ (by simp only [putAll, Act.put, List.setIfInBounds_toArray, List.set_cons_zero, List.set_cons_succ]) (hCont (wr.heap.size, p2, (ak2, nk2, ck2), (av2, nv2, cv2)) _ ⟨L2, se.out.1.heap (fun h => Nat.lt_irrefl _ h.2) hz11.out.1, Nat.le_refl _, k4.out, fun w2 k2 => se.out.2.2 _ w2 (fun j hj => by have := hz11.out.2; subst hj; exact ⟨Nat.le_refl _, by omega⟩) k2, l2.out⟩)
        rintro ⟨g9, p2, ⟨ak2, nk2, ck2⟩, av2, nv2, cv2⟩ wJ ⟨L2, hzJ, bJ, kJ, fJ, lJ⟩
        simp only at hzJ bJ fJ
        have sK := hst.out wJ (kwr'.out.trans' kJ fun j hj => .inr (qw.out j hj.1))
        obtain ⟨sa, sb, sc, sd⟩ := sK
        simp only at sa sb sc sd
        have hHeld : (wJ.cell? ⟨g6, 0, none⟩ = some (.bool bad)) ∧ (wJ.cell? ⟨g6, 1, none⟩ = some (.slice ak nk ck)) ∧ (wJ.cell? ⟨g6, 2, none⟩ = some (.slice av nv cv)) ∧ (wJ.cell? (a.add (i * 4)) = some (.int .i64 kind)) ∧ (wJ.cell? ⟨(a.add (i * 4)).block, (a.add (i * 4)).off + 1, none⟩ = some (.string key)) ∧ (wJ.cell? ⟨(a.add (i * 4)).block, (a.add (i * 4)).off + 2, none⟩ = some (.int .i64 val)) ∧ (wJ.cell? ⟨(a.add (i * 4)).block, (a.add (i * 4)).off + 3, none⟩ = some (.bool eq)) := ⟨kJ.cell (fun h => nQ.out h.1) m0, kJ.cell (fun h => nQ.out h.1) m1, kJ.cell (fun h => nQ.out h.1) m2, sa, sb, sc, sd⟩
        have x0 : wJ.cell? ⟨g9, 0, none⟩ = some (.bool false) := by rw [cell_of_row wJ g9 0 _ _ _ hzJ]; rfl
        have x1 : wJ.cell? ⟨g9, 1, none⟩ = some (.slice none 0 0) := by rw [cell_of_row wJ g9 1 _ _ _ hzJ]; rfl
        have x2 : wJ.cell? ⟨g9, 2, none⟩ = some (.slice none 0 0) := by rw [cell_of_row wJ g9 2 _ _ _ hzJ]; rfl
        have y0 := frozen_of_row wJ g9 0 _ _ hzJ
        have y1 := frozen_of_row wJ g9 1 _ _ hzJ
        have y2 := frozen_of_row wJ g9 2 _ _ hzJ
        clear sa sb sc sd
        replace hzJ := Hid.mk' hzJ; replace bJ : Hid (wr.heap.size ≤ g9) := bJ; replace kJ := Hid.mk' kJ; replace fJ := Hid.mk' fJ; replace lJ := Hid.mk' lJ
        refine norm_ (a' := ?_) ?_ ?_
        rotate_left
        · simp only [putAll, Act.put, List.setIfInBounds_toArray, List.set_cons_zero, List.set_cons_succ]
          rfl
        refine pure_ (i := 12) (N := some 8) (v := ?_) (a' := ?_) #[true, true, true, true, true, true, true, true, true, true, true, true, true, false, false] rfl rfl (by kernel_rfl) (fun _ _ _ h => h) (Or.inl ⟨by rfl, ?_⟩) ?_ ?_
        rotate_left
        · intro w'
          go_simp
          with_reducible rfl
        rotate_left
        · simp only [Act.put, List.setIfInBounds_toArray, List.set_cons_zero, List.set_cons_succ, i64_w, i32_w]
          rfl
        refine last_ (i := 13) (N := none) #[true, true, true, true, true, true, true, true, true, true, true, true, true, true, false] rfl rfl (by kernel_rfl) (by decide) (fun K hK => ?_)
        refine skip_ (w1 := ?_) (by rfl) rfl ?_ ?_
        rotate_left
        · go_simp
          rfl
        refine hK.out _ _ ?_
        clear hK K
        refine pure_ (i := 14) (N := some 10) (v := ?_) (a' := ?_) #[true, true, true, true, true, true, true, true, true, true, true, true, true, true, true] rfl rfl (by kernel_rfl) (fun _ _ _ h => h) (Or.inl ⟨by rfl, ?_⟩) ?_ ?_
        rotate_left
        · intro w'
          go_simp
          with_reducible rfl
        rotate_left
        · simp only [Act.put, List.setIfInBounds_toArray, List.set_cons_zero, List.set_cons_succ, i64_w, i32_w]
          rfl
        refine done_ (by kernel_rfl) ?_
        clear e0 e1 e2 e3 m0 m1 m2 hHeld x0 x1 x2 y0 y1 y2 st
        obtain ⟨W8, hW8⟩ : ∃ W8, W8 = ((wJ.setCell ⟨g9, 0, none⟩ (.bool bad)).setCell ⟨g9, 1, none⟩ (.slice ak2 nk2 ck2)).setCell ⟨g9, 2, none⟩ (.slice av2 nv2 cv2) := ⟨_, rfl⟩
        have k8 : Chg (fun j => j = g9) wJ W8 := by rw [hW8]; exact (((Chg.refl (fun j => j = g9) wJ).setCell _ (.inl rfl) _).setCell _ (.inl rfl) _).setCell _ (.inl rfl) _
        have ps8 := Hid.mk' (fJ.out W8 k8)
        have hG9 : Hid (W8.heap[g9]? = some (.cells #[.bool bad, .slice ak2 nk2 ck2, .slice av2 nv2 cv2] 42 (0, 0))) := by show _ = _; rw [hW8]; exact blk3 hzJ.out _ _ _
        have hG8 : Hid (W8.heap[g6]? = some (.cells #[.bool bad, .slice ak nk ck, .slice av nv cv] 42 (0, 0))) := k8.heap (by have := bJ.out; have := zg.out; omega) (kJ.out.heap (fun h => nQ.out h.1) hG.out)
        have kw8 : Hid (Chg NoB w W8) := (kwr'.out.trans' kJ.out fun j hj => .inr (qw.out j hj.1)).trans' k8 fun j hj => .inr (by have := bJ.out; have := kwr'.out.size; omega)
        have hW8' := Hid.mk' hW8
        clear k8 hW8 hzJ fJ
        rw [← hW8'.out]
        have c1 : W8.cell? ⟨g9, 1, none⟩ = some (.slice ak2 nk2 ck2) := by rw [cell_of_row W8 g9 1 _ _ _ hG9.out]; rfl
        have hno := ps8.out.map.open
        obtain ⟨xa, xn, xc, ya, yn, yc, hag, hrk, hrv, -⟩ := hno
        simp only [Value.agg.injEq, Array.mk.injEq, List.cons.injEq, Value.slice.injEq, and_true, true_and] at hag
        obtain ⟨⟨rfl, rfl, rfl⟩, rfl, rfl, rfl⟩ := hag
        have hnl : nk2 = L2.length := by simpa using hrk.cap_le.1
        have ne9 : Hid (∀ j, mown (.agg #[.bool bad, .slice ak2 nk2 ck2, .slice av2 nv2 cv2]) j → j ≠ g6) := fun j hj he => by
          subst he
          rcases hj with hj | hj
          · exact hrk.ne hG8.out (by decide) hj
          · exact hrv.ne hG8.out (by decide) hj
        have cl : Hid (∀ W, Chg NoB W8 W → Calls Try.prog 17 #[.pointer p2] W fun e w' => e = .returned (.int .i64 (nk2 : Int)) ∧ W = w') := fun W hW => by have := (ps8.out.chg hW).len; rwa [← hnl] at this
        have t1 : ((nk2 : Int) != (nk2 : Int)) = false := by simp
        have t2 : (nk2 != nk2) = false := by simp
        clear hnl hrk hrv
        go_upto_region 12 with (fail)
        refine start_ (n := 10) (S := fun w' => w'.cell? ⟨g9, 1, none⟩ = some (.slice ak2 nk2 ck2)) (ds := []) #[false, false, false, false, false, false, false, false, false, false] (by kernel_rfl) rfl rfl (c1) (fun hHeld => ?_)
        refine pure_ (i := 0) (N := some 42) (v := ?_) (a' := ?_) #[true, false, false, false, false, false, false, false, false, false] rfl rfl (by kernel_rfl) (fun _ _ _ h => h) (Or.inl ⟨by rfl, ?_⟩) ?_ ?_
        rotate_left
        · intro w'
          go_simp
          with_reducible rfl
        rotate_left
        · simp only [Act.put, List.setIfInBounds_toArray, List.set_cons_zero, List.set_cons_succ, i64_w, i32_w]
          rfl
        refine pure_ (i := 1) (N := some 43) (v := ?_) (a' := ?_) #[true, true, false, false, false, false, false, false, false, false] rfl rfl (by kernel_rfl) (fun _ _ _ h => h) (Or.inl ⟨by rfl, ?_⟩) ?_ ?_
        rotate_left
        · intro w'
          go_simp
          with_reducible rfl
        rotate_left
        · simp only [Act.put, List.setIfInBounds_toArray, List.set_cons_zero, List.set_cons_succ, i64_w, i32_w]
          rfl
        refine pure_ (i := 2) (N := some 44) (v := ?_) (a' := ?_) #[true, true, true, false, false, false, false, false, false, false] rfl rfl (by kernel_rfl) (fun _ _ _ h => h) (Or.inl ⟨by rfl, ?_⟩) ?_ ?_
        rotate_left
        · intro w'
          go_simp
          with_reducible rfl
        rotate_left
        · simp only [Act.put, List.setIfInBounds_toArray, List.set_cons_zero, List.set_cons_succ, i64_w, i32_w]
          rfl
        refine pure_ (i := 3) (N := some 45) (v := ?_) (a' := ?_) #[true, true, true, true, false, false, false, false, false, false] rfl rfl (by kernel_rfl) (fun _ _ _ h => h) (Or.inl ⟨by rfl, ?_⟩) ?_ ?_
        rotate_left
        · intro w'
          go_simp
          with_reducible rfl
        rotate_left
        · simp only [Act.put, List.setIfInBounds_toArray, List.set_cons_zero, List.set_cons_succ, i64_w, i32_w]
          rfl
        refine pure_ (i := 5) (N := some 47) (v := ?_) (a' := ?_) #[true, true, true, true, false, true, false, false, false, false] rfl rfl (by kernel_rfl) (fun _ _ _ h => h) (Or.inl ⟨by rfl, ?_⟩) ?_ ?_
        rotate_left
        · intro w'
          go_simp
          with_reducible rfl
        rotate_left
        · simp only [Act.put, List.setIfInBounds_toArray, List.set_cons_zero, List.set_cons_succ, i64_w, i32_w]
          rfl
        refine take_ (i := 6) (N := some 48) (v := ?_) (a' := ?_) #[true, true, true, true, false, true, true, false, false, false] rfl rfl (by kernel_rfl) (fun _ _ _ h => h) (Or.inl ⟨by rfl, ?_⟩) hHeld ?_ ?_
        rotate_left
        · intro w' s0
          go_simp
          with_reducible rfl
        rotate_left
        · simp only [Act.put, List.setIfInBounds_toArray, List.set_cons_zero, List.set_cons_succ, i64_w, i32_w]
          rfl
        refine pure_ (i := 7) (N := some 49) (v := ?_) (a' := ?_) #[true, true, true, true, false, true, true, true, false, false] rfl rfl (by kernel_rfl) (fun _ _ _ h => h) (Or.inl ⟨by rfl, ?_⟩) ?_ ?_
        rotate_left
        · intro w'
          go_simp
          with_reducible rfl
        rotate_left
        · simp only [Act.put, List.setIfInBounds_toArray, List.set_cons_zero, List.set_cons_succ, i64_w, i32_w]
          rfl
        refine one_ (i := 4) (N := some 46) #[true, true, true, true, true, true, true, true, false, false] rfl rfl (by kernel_rfl) (by decide) (fun K hK => ?_)
        refine goes_ Try.func17 (by kernel_rfl) rfl #[.pointer p2] (by rfl) rfl rfl (by simp only [List.map_toArray, List.map_cons, List.map_nil]; rfl) ?_
        first | with_reducible refine (cl.out W8 (Chg.refl _ _)).mono ?_ | with_reducible refine (cl.out W8.drew (Chg.refl _ _).drew).mono ?_
        rintro e W9 ⟨rfl, hw9⟩
        refine ⟨_, rfl, ?_⟩
        have k89 : Chg NoB W8 W9 := by rw [← hw9]; first | exact Chg.refl _ _ | exact (Chg.refl _ _).drew
        have ps9 := Hid.mk' (ps8.out.chg k89)
        have hG99 := Hid.mk' (k89.heap (fun h => h) hG9.out)
        have hG96 := Hid.mk' (k89.heap (fun h => h) hG8.out)
        have kw9 := Hid.mk' (kw8.out.trans k89)
        replace hw9 := Hid.mk' hw9
        refine hK.out _ _ ((k89.cell (fun h => h) c1)) (fun hHeld => ?_)
        clear hK K
        refine norm_ (a' := ?_) ?_ ?_
        rotate_left
        · show Act.put _ (some 46) _ = _
          simp only [Act.put, List.setIfInBounds_toArray, List.set_cons_zero, List.set_cons_succ, i64_w, i32_w]
          rfl
        refine pure_ (i := 8) (N := some 50) (v := ?_) (a' := ?_) #[true, true, true, true, true, true, true, true, true, false] rfl rfl (by kernel_rfl) (fun _ _ _ h => h) (Or.inl ⟨by rfl, ?_⟩) ?_ ?_
        rotate_left
        · intro w'
          go_simp
          with_reducible rfl
        rotate_left
        · simp only [Act.put, List.setIfInBounds_toArray, List.set_cons_zero, List.set_cons_succ, i64_w, i32_w]
          rfl
        refine pure_ (i := 9) (N := some 51) (v := ?_) (a' := ?_) #[true, true, true, true, true, true, true, true, true, true] rfl rfl (by kernel_rfl) (fun _ _ _ h => h) (Or.inl ⟨by rfl, ?_⟩) ?_ ?_
        rotate_left
        · intro w'
          go_simp
          with_reducible rfl
        rotate_left
        · simp only [Act.put, List.setIfInBounds_toArray, List.set_cons_zero, List.set_cons_succ, i64_w, i32_w]
          rfl
        refine done_ (by kernel_rfl) ?_
        clear c1 t1 t2 hHeld cl
        have c0 : W9.cell? ⟨g9, 0, none⟩ = some (.bool bad) := by rw [cell_of_row W9 g9 0 _ _ _ hG99.out]; rfl
        have c1 : W9.cell? ⟨g9, 1, none⟩ = some (.slice ak2 nk2 ck2) := by rw [cell_of_row W9 g9 1 _ _ _ hG99.out]; rfl
        have c2 : W9.cell? ⟨g9, 2, none⟩ = some (.slice av2 nv2 cv2) := by rw [cell_of_row W9 g9 2 _ _ _ hG99.out]; rfl
        have y0 : W9.cell? ⟨g6, 0, none⟩ = some (.bool bad) := by rw [cell_of_row W9 g6 0 _ _ _ hG96.out]; rfl
        have y1 : W9.cell? ⟨g6, 1, none⟩ = some (.slice ak nk ck) := by rw [cell_of_row W9 g6 1 _ _ _ hG96.out]; rfl
        have y2 : W9.cell? ⟨g6, 2, none⟩ = some (.slice av nv cv) := by rw [cell_of_row W9 g6 2 _ _ _ hG96.out]; rfl
        have z0 := frozen_of_row W9 g6 0 _ _ hG96.out
        have z1 := frozen_of_row W9 g6 1 _ _ hG96.out
        have z2 := frozen_of_row W9 g6 2 _ _ hG96.out
        go_upto_region 14 with (fail)
        refine start_ (n := 4) (S := fun w' => w'.cell? ⟨g9, 0, none⟩ = some (.bool bad) ∧ w'.cell? ⟨g9, 1, none⟩ = some (.slice ak2 nk2 ck2) ∧ w'.cell? ⟨g9, 2, none⟩ = some (.slice av2 nv2 cv2)) (ds := [3]) #[false, false, false, false] (by kernel_rfl) rfl rfl ⟨c0, c1, c2⟩ (fun hHeld => ?_)
        refine pure_ (i := 0) (N := some 52) (v := ?_) (a' := ?_) #[true, false, false, false] rfl rfl (by kernel_rfl) (fun _ _ _ h => h) (Or.inl ⟨by rfl, ?_⟩) ?_ ?_
        rotate_left
        · intro w'
          go_simp
          with_reducible rfl
        rotate_left
        · simp only [Act.put, List.setIfInBounds_toArray, List.set_cons_zero, List.set_cons_succ, i64_w, i32_w]
          rfl
        refine pure_ (i := 2) (N := some 5) (v := ?_) (a' := ?_) #[true, false, true, false] rfl rfl (by kernel_rfl) (fun _ _ _ h => h) (Or.inl ⟨by rfl, ?_⟩) ?_ ?_
        rotate_left
        · intro w'
          go_simp
          with_reducible rfl
        rotate_left
        · simp only [Act.put, List.setIfInBounds_toArray, List.set_cons_zero, List.set_cons_succ, i64_w, i32_w]
          rfl
        refine take_ (i := 1) (N := some 53) (v := ?_) (a' := ?_) #[true, true, true, false] rfl rfl (by kernel_rfl) (fun _ _ _ h => h) (Or.inl ⟨by rfl, ?_⟩) hHeld ?_ ?_
        rotate_left
        · rintro w' ⟨s0, s1, s2⟩
          go_simp
          with_reducible rfl
        rotate_left
        · simp only [Act.put, List.setIfInBounds_toArray, List.set_cons_zero, List.set_cons_succ, i64_w, i32_w]
          rfl
        refine last_ (i := 3) (N := none) #[true, true, true, true] rfl rfl (by kernel_rfl) (by decide) (fun K hK => ?_)
        refine skip_ (w1 := ?_) (by rfl) rfl ?_ ?_
        rotate_left
        · go_simp
          rfl
        refine hK.out _ _ ?_
        clear hK K
        refine done_ (by kernel_rfl) ?_
        clear c0 c1 c2 y0 y1 y2 z0 z1 z2 hHeld
        have kf0 : Chg (fun j => j = g6) W9 (((W9.setCell ⟨g6, 0, none⟩ (.bool bad)).setCell ⟨g6, 1, none⟩ (.slice ak2 nk2 ck2)).setCell ⟨g6, 2, none⟩ (.slice av2 nv2 cv2)) := (((Chg.refl (fun j => j = g6) W9).setCell _ (.inl rfl) _).setCell _ (.inl rfl) _).setCell _ (.inl rfl) _
        go_wp2_with fail
        go_roundg g'
        case measure => omega
        case rel =>
          first
          | exact ⟨i + 1, p2, ak2, av2, nk2, ck2, nv2, cv2, L2, by omega, by simp, rfl, (ps9.out.chgQ kf0 (fun j hj => hj ▸ nQ.out) (fun j hj he => ne9.out j hj he)).up, blk3 hG96.out _ _ _, kw9.out.trans' kf0 (fun j hj => .inr (by have := hgw.out; omega)), by have := lJ.out; omega⟩
          | exact ⟨i + 1, p2, ak2, av2, nk2, ck2, nv2, cv2, L2, by omega, by simp, rfl, (ps9.out.chgQ kf0.drew (fun j hj => hj ▸ nQ.out) (fun j hj he => ne9.out j hj he)).up, blk3 hG96.out _ _ _, kw9.out.trans' kf0.drew (fun j hj => .inr (by have := hgw.out; omega)), by have := lJ.out; omega⟩
      · obtain rfl : i = n := by omega
        clear ps kwr
        go_wp2_with fail
        go_ret
        exact ⟨rfl, kwr'.out⟩
end Go.Proofs.Ytamnmoejjjaegaa
