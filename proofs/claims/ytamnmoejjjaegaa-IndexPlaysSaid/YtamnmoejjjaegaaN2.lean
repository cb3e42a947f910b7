/- What (*node).join does to a node and two of its children: the nodes before and behind, apart from each other. Conditions: rows of at most 1000 elements. -/
import Derived.Test.YtamnmoejjjaegaaN0
import Derived.Test.YtamnmoejjjaegaaH
import Derived.Test.YtamnmoejjjaegaaW
set_option linter.unusedVariables false
set_option linter.unusedSimpArgs false
namespace Go.Proofs.Ytamnmoejjjaegaa
open Go Go.RowKit Go.Proofs.YtamnmoejjjaegaaW.PrintLast

set_option maxHeartbeats 8000000 in
set_option maxRecDepth 100000 in
theorem join42 (n a b i : Nat) (vi : Int) (ks : List ByteArray) (vs : List Int) (bs : List Nat) (aks : List ByteArray) (avs : List Int) (abs : List Nat) (bks : List ByteArray) (bvs : List Int) (bbs : List Nat) (vk vv vc uk uv uc tk tv tc : Value) (x : ByteArray) (y : Int) (w : World)
    (hN : Nd w n vk vv vc ks vs bs) (hA : Nd w a uk uv uc aks avs abs) (hB : Nd w b tk tv tc bks bvs bbs) (aNA : Apart (nset n vk vv vc) (nset a uk uv uc)) (aNB : Apart (nset n vk vv vc) (nset b tk tv tc)) (aAB : Apart (nset a uk uv uc) (nset b tk tv tc))
    (hi : i < ks.length) (ha : bs[i]? = some a) (hb : bs[i + 1]? = some b) (hvi : vi = i) (hx : ks[i]? = some x) (hy : vs[i]? = some y) (hl1 : vs.length = ks.length) (hl2 : bs.length = ks.length + 1) (hl3 : ks.length ≤ 1000)
    (hla0 : aks.length + bks.length ≤ 1000) (hla1 : avs.length + bvs.length ≤ 1000) (hla2 : abs.length + bbs.length ≤ 1000) :
    Calls Try.prog 42 #[.pointer (some ⟨n, 0, none⟩), .int .i64 vi] w fun e w' => ∃ vk' vv' vc' uk' uv' uc', e = .returned (.tuple #[]) ∧ Nd w' n vk' vv' vc' (ks.take i ++ ks.drop (i + 1)) (vs.take i ++ vs.drop (i + 1)) (bs.take (i + 1) ++ bs.drop (i + 2)) ∧
        Nd w' a uk' uv' uc' (aks ++ x :: bks) (avs ++ y :: bvs) (abs ++ bbs) ∧ Apart (nset n vk' vv' vc') (nset a uk' uv' uc') ∧
        Sub (nset n vk' vv' vc') (fun k => nset n vk vv vc k ∨ w.heap.size ≤ k) ∧ Sub (nset a uk' uv' uc') (fun k => nset a uk uv uc k ∨ w.heap.size ≤ k) ∧ Chg (fun k => nset n vk vv vc k ∨ nset a uk uv uc k) w w' := by
  subst hvi
  have ex0 := Hid.mk' (show (ks.map sv)[i]? = some (.string x) by rw [List.getElem?_map, hx]; rfl)
  have ex1 := Hid.mk' (show (vs.map iv)[i]? = some (.int .i64 y) by rw [List.getElem?_map, hy]; rfl)
  obtain ⟨ak, nk, ck, av, nv, cv, ac, nc, cc, rfl, rfl, rfl, lk0, lv0, lc0⟩ := hN.form'
  obtain ⟨ak0, nk0, ck0, av0, nv0, cv0, zc0, zn0, zk0, rfl, rfl, rfl, -, -, -⟩ := hA.form'
  obtain ⟨ak1, nk1, ck1, av1, nv1, cv1, zc1, zn1, zk1, rfl, rfl, rfl, -, -, -⟩ := hB.form'
  obtain ⟨gk, rfl, _⟩ := hN.rk.at (by simp; omega)
  obtain ⟨gv, rfl, _⟩ := hN.rv.at (by simp; omega)
  obtain ⟨gc, rfl, _, ccell, _⟩ := hN.rc.at (by simp; omega)
  have ce0 : w.cell? ⟨gc, i, none⟩ = some (.pointer (some ⟨a, 0, none⟩)) := ccell i _ (by rw [List.getElem?_map, ha]; rfl)
  have ce1 : w.cell? ⟨gc, i + 1, none⟩ = some (.pointer (some ⟨b, 0, none⟩)) := ccell (i + 1) _ (by rw [List.getElem?_map, hb]; rfl)
  have cc2 := hN.c2
  have b1 : (i : Int) < (nc : Int) := by have := lc0.out; omega
  have b2 : (i : Int) + 1 < (nc : Int) := by have := lc0.out; omega
  have b3 : (i : Int) < (nk : Int) := by have := lk0.out; omega
  have b4 : (i : Int) < (nv : Int) := by have := lv0.out; omega
  have i1000 : i ≤ 1000 := by omega
  have w1 : IntKind.i64.wrap ((i : Int) + 1) = (i : Int) + 1 := by rw [IntKind.wrap_i64]; omega
  have w2 : (0 : Int) ≤ (i : Int) + 1 := by omega
  have w4 : ((i : Int) + 1).toNat = i + 1 := by omega
  have hnl := Hid.mk' hi
  replace hl1 := Hid.mk' hl1
  replace hl2 := Hid.mk' hl2
  have la0 := Hid.mk' hla0
  have la1 := Hid.mk' hla1
  have la2 := Hid.mk' hla2
  have kC0 : Chg (fun k => nset n (.slice (some ⟨gk, 0, none⟩) nk ck) (.slice (some ⟨gv, 0, none⟩) nv cv) (.slice (some ⟨gc, 0, none⟩) nc cc) k ∨ nset a (.slice ak0 nk0 ck0) (.slice av0 nv0 cv0) (.slice zc0 zn0 zk0) k) w w := Chg.refl _ _
  have sN0 : Sub (nset n (.slice (some ⟨gk, 0, none⟩) nk ck) (.slice (some ⟨gv, 0, none⟩) nv cv) (.slice (some ⟨gc, 0, none⟩) nc cc)) (fun k => nset n (.slice (some ⟨gk, 0, none⟩) nk ck) (.slice (some ⟨gv, 0, none⟩) nv cv) (.slice (some ⟨gc, 0, none⟩) nc cc) k ∨ w.heap.size ≤ k) := fun k h => .inl h
  have sA0 : Sub (nset a (.slice ak0 nk0 ck0) (.slice av0 nv0 cv0) (.slice zc0 zn0 zk0)) (fun k => nset a (.slice ak0 nk0 ck0) (.slice av0 nv0 cv0) (.slice zc0 zn0 zk0) k ∨ w.heap.size ≤ k) := fun k h => .inl h
  have sB0 : Sub (nset b (.slice ak1 nk1 ck1) (.slice av1 nv1 cv1) (.slice zc1 zn1 zk1)) (fun k => nset b (.slice ak1 nk1 ck1) (.slice av1 nv1 cv1) (.slice zc1 zn1 zk1) k ∨ w.heap.size ≤ k) := fun k h => .inl h
  have nN0 := Hid.mk' hN
  have nA0 := Hid.mk' hA
  have nB0 := Hid.mk' hB
  have aNA0 := Hid.mk' aNA
  have aNB0 := Hid.mk' aNB
  have aAB0 := Hid.mk' aAB
  clear hN hA hB aNA aNB aAB hi ha hb hx hy hla0 hla1 hla2 ccell
  replace kC0 := Hid.mk' kC0
  replace sN0 := Hid.mk' sN0
  replace sA0 := Hid.mk' sA0
  replace sB0 := Hid.mk' sB0
  go_enter Try.func42, Try.ntmps42
  go_wp2_with fail
  refine start_ (n := 17) (S := fun w' => w'.cell? ⟨n, 2, none⟩ = some (.slice (some ⟨gc, 0, none⟩) nc cc) ∧ w'.cell? ⟨gc, i, none⟩ = some (.pointer (some ⟨a, 0, none⟩)) ∧ w'.cell? ⟨gc, i + 1, none⟩ = some (.pointer (some ⟨b, 0, none⟩))) (ds := []) #[false, false, false, false, false, false, false, false, false, false, false, false, false, false, false, false, false] (by kernel_rfl) rfl rfl ⟨cc2, ce0, ce1⟩ (fun hHeld => ?_)
  refine pure_ (i := 0) (N := some 6) (v := ?_) (a' := ?_) #[true, false, false, false, false, false, false, false, false, false, false, false, false, false, false, false, false] rfl rfl (by kernel_rfl) (fun _ _ _ h => h) (Or.inl ⟨by rfl, ?_⟩) ?_ ?_
  rotate_left
  · intro w'
    go_simp
    with_reducible rfl
  rotate_left
  · simp only [Act.put, List.setIfInBounds_toArray, List.set_cons_zero, List.set_cons_succ, i64_w, i32_w]
    rfl
  refine pure_ (i := 1) (N := some 7) (v := ?_) (a' := ?_) #[true, true, false, false, false, false, false, false, false, false, false, false, false, false, false, false, false] rfl rfl (by kernel_rfl) (fun _ _ _ h => h) (Or.inl ⟨by rfl, ?_⟩) ?_ ?_
  rotate_left
  · intro w'
    go_simp
    with_reducible rfl
  rotate_left
  · simp only [Act.put, List.setIfInBounds_toArray, List.set_cons_zero, List.set_cons_succ, i64_w, i32_w]
    rfl
  refine pure_ (i := 2) (N := some 8) (v := ?_) (a' := ?_) #[true, true, true, false, false, false, false, false, false, false, false, false, false, false, false, false, false] rfl rfl (by kernel_rfl) (fun _ _ _ h => h) (Or.inl ⟨by rfl, ?_⟩) ?_ ?_
  rotate_left
  · intro w'
    go_simp
    with_reducible rfl
  rotate_left
  · simp only [Act.put, List.setIfInBounds_toArray, List.set_cons_zero, List.set_cons_succ, i64_w, i32_w]
    rfl
  refine pure_ (i := 4) (N := some 10) (v := ?_) (a' := ?_) #[true, true, true, false, true, false, false, false, false, false, false, false, false, false, false, false, false] rfl rfl (by kernel_rfl) (fun _ _ _ h => h) (Or.inl ⟨by rfl, ?_⟩) ?_ ?_
  rotate_left
  · intro w'
    go_simp
    with_reducible rfl
  rotate_left
  · simp only [Act.put, List.setIfInBounds_toArray, List.set_cons_zero, List.set_cons_succ, i64_w, i32_w]
    rfl
  refine pure_ (i := 7) (N := some 13) (v := ?_) (a' := ?_) #[true, true, true, false, true, false, false, true, false, false, false, false, false, false, false, false, false] rfl rfl (by kernel_rfl) (fun _ _ _ h => h) (Or.inl ⟨by rfl, ?_⟩) ?_ ?_
  rotate_left
  · intro w'
    go_simp
    with_reducible rfl
  rotate_left
  · simp only [Act.put, List.setIfInBounds_toArray, List.set_cons_zero, List.set_cons_succ, i64_w, i32_w]
    rfl
  refine pure_ (i := 8) (N := some 14) (v := ?_) (a' := ?_) #[true, true, true, false, true, false, false, true, true, false, false, false, false, false, false, false, false] rfl rfl (by kernel_rfl) (fun _ _ _ h => h) (Or.inl ⟨by rfl, ?_⟩) ?_ ?_
  rotate_left
  · intro w'
    go_simp
    with_reducible rfl
  rotate_left
  · simp only [Act.put, List.setIfInBounds_toArray, List.set_cons_zero, List.set_cons_succ, i64_w, i32_w]
    rfl
  refine pure_ (i := 9) (N := some 15) (v := ?_) (a' := ?_) #[true, true, true, false, true, false, false, true, true, true, false, false, false, false, false, false, false] rfl rfl (by kernel_rfl) (fun _ _ _ h => h) (Or.inl ⟨by rfl, ?_⟩) ?_ ?_
  rotate_left
  · intro w'
    go_simp
    with_reducible rfl
  rotate_left
  · simp only [Act.put, List.setIfInBounds_toArray, List.set_cons_zero, List.set_cons_succ, i64_w, i32_w]
    rfl
  refine pure_ (i := 11) (N := some 17) (v := ?_) (a' := ?_) #[true, true, true, false, true, false, false, true, true, true, false, true, false, false, false, false, false] rfl rfl (by kernel_rfl) (fun _ _ _ h => h) (Or.inl ⟨by rfl, ?_⟩) ?_ ?_
  rotate_left
  · intro w'
    go_simp
    with_reducible rfl
  rotate_left
  · simp only [Act.put, List.setIfInBounds_toArray, List.set_cons_zero, List.set_cons_succ, i64_w, i32_w]
    rfl
  refine pure_ (i := 12) (N := some 18) (v := ?_) (a' := ?_) #[true, true, true, false, true, false, false, true, true, true, false, true, true, false, false, false, false] rfl rfl (by kernel_rfl) (fun _ _ _ h => h) (Or.inl ⟨by rfl, ?_⟩) ?_ ?_
  rotate_left
  · intro w'
    go_simp
    with_reducible rfl
  rotate_left
  · simp only [Act.put, List.setIfInBounds_toArray, List.set_cons_zero, List.set_cons_succ, i64_w, i32_w]
    rfl
  refine take_ (i := 3) (N := some 9) (v := ?_) (a' := ?_) #[true, true, true, true, true, false, false, true, true, true, false, true, true, false, false, false, false] rfl rfl (by kernel_rfl) (fun _ _ _ h => h) (Or.inl ⟨by rfl, ?_⟩) hHeld ?_ ?_
  rotate_left
  · rintro w' ⟨s0, s1, s2⟩
    go_simp
    with_reducible rfl
  rotate_left
  · simp only [Act.put, List.setIfInBounds_toArray, List.set_cons_zero, List.set_cons_succ, i64_w, i32_w]
    rfl
  refine pure_ (i := 5) (N := some 11) (v := ?_) (a' := ?_) #[true, true, true, true, true, true, false, true, true, true, false, true, true, false, false, false, false] rfl rfl (by kernel_rfl) (fun _ _ _ h => h) (Or.inl ⟨by rfl, ?_⟩) ?_ ?_
  rotate_left
  · intro w'
    go_simp
    with_reducible rfl
  rotate_left
  · simp only [Act.put, List.setIfInBounds_toArray, List.set_cons_zero, List.set_cons_succ, i64_w, i32_w]
    rfl
  refine take_ (i := 6) (N := some 12) (v := ?_) (a' := ?_) #[true, true, true, true, true, true, true, true, true, true, false, true, true, false, false, false, false] rfl rfl (by kernel_rfl) (fun _ _ _ h => h) (Or.inl ⟨by rfl, ?_⟩) hHeld ?_ ?_
  rotate_left
  · rintro w' ⟨s0, s1, s2⟩
    go_simp
    with_reducible rfl
  rotate_left
  · simp only [Act.put, List.setIfInBounds_toArray, List.set_cons_zero, List.set_cons_succ, i64_w, i32_w]
    rfl
  refine pure_ (i := 15) (N := some 4) (v := ?_) (a' := ?_) #[true, true, true, true, true, true, true, true, true, true, false, true, true, false, false, true, false] rfl rfl (by kernel_rfl) (fun _ _ _ h => h) (Or.inl ⟨by rfl, ?_⟩) ?_ ?_
  rotate_left
  · intro w'
    go_simp
    with_reducible rfl
  rotate_left
  · simp only [Act.put, List.setIfInBounds_toArray, List.set_cons_zero, List.set_cons_succ, i64_w, i32_w]
    rfl
  refine take_ (i := 10) (N := some 16) (v := ?_) (a' := ?_) #[true, true, true, true, true, true, true, true, true, true, true, true, true, false, false, true, false] rfl rfl (by kernel_rfl) (fun _ _ _ h => h) (Or.inl ⟨by rfl, ?_⟩) hHeld ?_ ?_
  rotate_left
  · rintro w' ⟨s0, s1, s2⟩
    go_simp
    with_reducible rfl
  rotate_left
  · simp only [Act.put, List.setIfInBounds_toArray, List.set_cons_zero, List.set_cons_succ, i64_w, i32_w]
    rfl
  refine pure_ (i := 13) (N := some 19) (v := ?_) (a' := ?_) #[true, true, true, true, true, true, true, true, true, true, true, true, true, true, false, true, false] rfl rfl (by kernel_rfl) (fun _ _ _ h => h) (Or.inl ⟨by rfl, ?_⟩) ?_ ?_
  rotate_left
  · intro w'
    go_simp
    with_reducible rfl
  rotate_left
  · simp only [Act.put, List.setIfInBounds_toArray, List.set_cons_zero, List.set_cons_succ, i64_w, i32_w]
    rfl
  refine take_ (i := 14) (N := some 20) (v := ?_) (a' := ?_) #[true, true, true, true, true, true, true, true, true, true, true, true, true, true, true, true, false] rfl rfl (by kernel_rfl) (fun _ _ _ h => h) (Or.inl ⟨by rfl, ?_⟩) hHeld ?_ ?_
  rotate_left
  · rintro w' ⟨s0, s1, s2⟩
    go_simp
    with_reducible rfl
  rotate_left
  · simp only [Act.put, List.setIfInBounds_toArray, List.set_cons_zero, List.set_cons_succ, i64_w, i32_w]
    rfl
  refine pure_ (i := 16) (N := some 5) (v := ?_) (a' := ?_) #[true, true, true, true, true, true, true, true, true, true, true, true, true, true, true, true, true] rfl rfl (by kernel_rfl) (fun _ _ _ h => h) (Or.inl ⟨by rfl, ?_⟩) ?_ ?_
  rotate_left
  · intro w'
    go_simp
    with_reducible rfl
  rotate_left
  · simp only [Act.put, List.setIfInBounds_toArray, List.set_cons_zero, List.set_cons_succ, i64_w, i32_w]
    rfl
  refine done_ (by kernel_rfl) ?_
  go_upto_region 1 with (fail)
  obtain ⟨W1, hW1d⟩ : ∃ W1, W1 = w.drew := ⟨_, rfl⟩
  rw [← hW1d]
  have kk1 : Chg NoB w W1 := by rw [hW1d]; exact (Chg.refl _ _).drew
  have nN1 := nN0.out.chg kk1 (fun _ _ h => h)
  have nA1 := nA0.out.chg kk1 (fun _ _ h => h)
  have nB1 := nB0.out.chg kk1 (fun _ _ h => h)
  have aNA1 := aNA0.out
  have aNB1 := aNB0.out
  have aAB1 := aAB0.out
  have sN1 := sN0.out
  have sA1 := sA0.out
  have sB1 := sB0.out
  have kC1 := kC0.out.trans' kk1 (fun _ h => h.elim)
  replace hW1d := Hid.mk' hW1d
  replace kk1 := Hid.mk' kk1
  replace nN1 := Hid.mk' nN1
  replace nA1 := Hid.mk' nA1
  replace nB1 := Hid.mk' nB1
  replace aNA1 := Hid.mk' aNA1
  replace aNB1 := Hid.mk' aNB1
  replace aAB1 := Hid.mk' aAB1
  replace sN1 := Hid.mk' sN1
  replace sA1 := Hid.mk' sA1
  replace sB1 := Hid.mk' sB1
  replace kC1 := Hid.mk' kC1
  clear ce0 ce1 cc2
  have ac0 := nA1.out.c0
  have nc0 := nN1.out.c0
  have bc0 := nB1.out.c0
  have ablk0 := Hid.mk' nA1.out.blk
  have ec0 : W1.cell? ⟨gk, i, none⟩ = some (.string x) := by
    obtain ⟨_, h, _, hc, _⟩ := nN1.out.rk.at (by have := hnl.out; have := hl1.out; simp; omega)
    cases h
    exact hc _ _ ex0.out
  have RA0 := Hid.mk' nA1.out.rk
  have RB0 := Hid.mk' nB1.out.rk
  have na0 : Hid (¬ own (.slice ak0 nk0 ck0) a) := RA0.out.ne ablk0.out (by decide)
  have nn0 : Hid (¬ own (.slice ak0 nk0 ck0) n) := fun h => aNA1.out n (.inl rfl) (.inr (.inl h))
  have nb0 : Hid (¬ own (.slice ak0 nk0 ck0) b) := fun h => aAB1.out b (.inr (.inl h)) (.inl rfl)
  have ng0 : Hid (¬ own (.slice ak0 nk0 ck0) gk) := fun h => aNA1.out gk (.inr (.inl rfl)) (.inr (.inl h))
  refine start_ (n := 22) (S := fun w' => w'.cell? ⟨a, 0, none⟩ = some (.slice ak0 nk0 ck0) ∧ w'.cell? ⟨n, 0, none⟩ = some (.slice (some ⟨gk, 0, none⟩) nk ck) ∧ w'.cell? ⟨gk, i, none⟩ = some (.string x) ∧ w'.cell? ⟨b, 0, none⟩ = some (.slice ak1 nk1 ck1)) (ds := [21]) #[false, false, false, false, false, false, false, false, false, false, false, false, false, false, false, false, false, false, false, false, false, false] (by kernel_rfl) rfl rfl ⟨ac0, nc0, ec0, bc0⟩ (fun hHeld => ?_)
  refine pure_ (i := 0) (N := some 21) (v := ?_) (a' := ?_) #[true, false, false, false, false, false, false, false, false, false, false, false, false, false, false, false, false, false, false, false, false, false] rfl rfl (by kernel_rfl) (fun _ _ _ h => h) (Or.inl ⟨by rfl, ?_⟩) ?_ ?_
  rotate_left
  · intro w'
    go_simp
    with_reducible rfl
  rotate_left
  · simp only [Act.put, List.setIfInBounds_toArray, List.set_cons_zero, List.set_cons_succ, i64_w, i32_w]
    rfl
  refine pure_ (i := 1) (N := some 22) (v := ?_) (a' := ?_) #[true, true, false, false, false, false, false, false, false, false, false, false, false, false, false, false, false, false, false, false, false, false] rfl rfl (by kernel_rfl) (fun _ _ _ h => h) (Or.inl ⟨by rfl, ?_⟩) ?_ ?_
  rotate_left
  · intro w'
    go_simp
    with_reducible rfl
  rotate_left
  · simp only [Act.put, List.setIfInBounds_toArray, List.set_cons_zero, List.set_cons_succ, i64_w, i32_w]
    rfl
  refine pure_ (i := 2) (N := some 23) (v := ?_) (a' := ?_) #[true, true, true, false, false, false, false, false, false, false, false, false, false, false, false, false, false, false, false, false, false, false] rfl rfl (by kernel_rfl) (fun _ _ _ h => h) (Or.inl ⟨by rfl, ?_⟩) ?_ ?_
  rotate_left
  · intro w'
    go_simp
    with_reducible rfl
  rotate_left
  · simp only [Act.put, List.setIfInBounds_toArray, List.set_cons_zero, List.set_cons_succ, i64_w, i32_w]
    rfl
  refine pure_ (i := 3) (N := some 24) (v := ?_) (a' := ?_) #[true, true, true, true, false, false, false, false, false, false, false, false, false, false, false, false, false, false, false, false, false, false] rfl rfl (by kernel_rfl) (fun _ _ _ h => h) (Or.inl ⟨by rfl, ?_⟩) ?_ ?_
  rotate_left
  · intro w'
    go_simp
    with_reducible rfl
  rotate_left
  · simp only [Act.put, List.setIfInBounds_toArray, List.set_cons_zero, List.set_cons_succ, i64_w, i32_w]
    rfl
  refine pure_ (i := 5) (N := some 26) (v := ?_) (a' := ?_) #[true, true, true, true, false, true, false, false, false, false, false, false, false, false, false, false, false, false, false, false, false, false] rfl rfl (by kernel_rfl) (fun _ _ _ h => h) (Or.inl ⟨by rfl, ?_⟩) ?_ ?_
  rotate_left
  · intro w'
    go_simp
    with_reducible rfl
  rotate_left
  · simp only [Act.put, List.setIfInBounds_toArray, List.set_cons_zero, List.set_cons_succ, i64_w, i32_w]
    rfl
  refine pure_ (i := 6) (N := some 27) (v := ?_) (a' := ?_) #[true, true, true, true, false, true, true, false, false, false, false, false, false, false, false, false, false, false, false, false, false, false] rfl rfl (by kernel_rfl) (fun _ _ _ h => h) (Or.inl ⟨by rfl, ?_⟩) ?_ ?_
  rotate_left
  · intro w'
    go_simp
    with_reducible rfl
  rotate_left
  · simp only [Act.put, List.setIfInBounds_toArray, List.set_cons_zero, List.set_cons_succ, i64_w, i32_w]
    rfl
  refine pure_ (i := 7) (N := some 28) (v := ?_) (a' := ?_) #[true, true, true, true, false, true, true, true, false, false, false, false, false, false, false, false, false, false, false, false, false, false] rfl rfl (by kernel_rfl) (fun _ _ _ h => h) (Or.inl ⟨by rfl, ?_⟩) ?_ ?_
  rotate_left
  · intro w'
    go_simp
    with_reducible rfl
  rotate_left
  · simp only [Act.put, List.setIfInBounds_toArray, List.set_cons_zero, List.set_cons_succ, i64_w, i32_w]
    rfl
  refine pure_ (i := 9) (N := some 30) (v := ?_) (a' := ?_) #[true, true, true, true, false, true, true, true, false, true, false, false, false, false, false, false, false, false, false, false, false, false] rfl rfl (by kernel_rfl) (fun _ _ _ h => h) (Or.inl ⟨by rfl, ?_⟩) ?_ ?_
  rotate_left
  · intro w'
    go_simp
    with_reducible rfl
  rotate_left
  · simp only [Act.put, List.setIfInBounds_toArray, List.set_cons_zero, List.set_cons_succ, i64_w, i32_w]
    rfl
  refine pure_ (i := 14) (N := some 35) (v := ?_) (a' := ?_) #[true, true, true, true, false, true, true, true, false, true, false, false, false, false, true, false, false, false, false, false, false, false] rfl rfl (by kernel_rfl) (fun _ _ _ h => h) (Or.inl ⟨by rfl, ?_⟩) ?_ ?_
  rotate_left
  · intro w'
    go_simp
    with_reducible rfl
  rotate_left
  · simp only [Act.put, List.setIfInBounds_toArray, List.set_cons_zero, List.set_cons_succ, i64_w, i32_w]
    rfl
  refine pure_ (i := 15) (N := some 36) (v := ?_) (a' := ?_) #[true, true, true, true, false, true, true, true, false, true, false, false, false, false, true, true, false, false, false, false, false, false] rfl rfl (by kernel_rfl) (fun _ _ _ h => h) (Or.inl ⟨by rfl, ?_⟩) ?_ ?_
  rotate_left
  · intro w'
    go_simp
    with_reducible rfl
  rotate_left
  · simp only [Act.put, List.setIfInBounds_toArray, List.set_cons_zero, List.set_cons_succ, i64_w, i32_w]
    rfl
  refine pure_ (i := 16) (N := some 37) (v := ?_) (a' := ?_) #[true, true, true, true, false, true, true, true, false, true, false, false, false, false, true, true, true, false, false, false, false, false] rfl rfl (by kernel_rfl) (fun _ _ _ h => h) (Or.inl ⟨by rfl, ?_⟩) ?_ ?_
  rotate_left
  · intro w'
    go_simp
    with_reducible rfl
  rotate_left
  · simp only [Act.put, List.setIfInBounds_toArray, List.set_cons_zero, List.set_cons_succ, i64_w, i32_w]
    rfl
  refine take_ (i := 4) (N := some 25) (v := ?_) (a' := ?_) #[true, true, true, true, true, true, true, true, false, true, false, false, false, false, true, true, true, false, false, false, false, false] rfl rfl (by kernel_rfl) (fun _ _ _ h => h) (Or.inl ⟨by rfl, ?_⟩) hHeld ?_ ?_
  rotate_left
  · rintro w' ⟨s0, s1, s2, s3⟩
    go_simp
    with_reducible rfl
  rotate_left
  · simp only [Act.put, List.setIfInBounds_toArray, List.set_cons_zero, List.set_cons_succ, i64_w, i32_w]
    rfl
  refine take_ (i := 8) (N := some 29) (v := ?_) (a' := ?_) #[true, true, true, true, true, true, true, true, true, true, false, false, false, false, true, true, true, false, false, false, false, false] rfl rfl (by kernel_rfl) (fun _ _ _ h => h) (Or.inl ⟨by rfl, ?_⟩) hHeld ?_ ?_
  rotate_left
  · rintro w' ⟨s0, s1, s2, s3⟩
    go_simp
    with_reducible rfl
  rotate_left
  · simp only [Act.put, List.setIfInBounds_toArray, List.set_cons_zero, List.set_cons_succ, i64_w, i32_w]
    rfl
  refine pure_ (i := 10) (N := some 31) (v := ?_) (a' := ?_) #[true, true, true, true, true, true, true, true, true, true, true, false, false, false, true, true, true, false, false, false, false, false] rfl rfl (by kernel_rfl) (fun _ _ _ h => h) (Or.inl ⟨by rfl, ?_⟩) ?_ ?_
  rotate_left
  · intro w'
    go_simp
    with_reducible rfl
  rotate_left
  · simp only [Act.put, List.setIfInBounds_toArray, List.set_cons_zero, List.set_cons_succ, i64_w, i32_w]
    rfl
  refine take_ (i := 11) (N := some 32) (v := ?_) (a' := ?_) #[true, true, true, true, true, true, true, true, true, true, true, true, false, false, true, true, true, false, false, false, false, false] rfl rfl (by kernel_rfl) (fun _ _ _ h => h) (Or.inl ⟨by rfl, ?_⟩) hHeld ?_ ?_
  rotate_left
  · rintro w' ⟨s0, s1, s2, s3⟩
    go_simp
    with_reducible rfl
  rotate_left
  · simp only [Act.put, List.setIfInBounds_toArray, List.set_cons_zero, List.set_cons_succ, i64_w, i32_w]
    rfl
  refine take_ (i := 17) (N := some 38) (v := ?_) (a' := ?_) #[true, true, true, true, true, true, true, true, true, true, true, true, false, false, true, true, true, true, false, false, false, false] rfl rfl (by kernel_rfl) (fun _ _ _ h => h) (Or.inl ⟨by rfl, ?_⟩) hHeld ?_ ?_
  rotate_left
  · rintro w' ⟨s0, s1, s2, s3⟩
    go_simp
    with_reducible rfl
  rotate_left
  · simp only [Act.put, List.setIfInBounds_toArray, List.set_cons_zero, List.set_cons_succ, i64_w, i32_w]
    rfl
  refine one_ (i := 12) (N := some 33) #[true, true, true, true, true, true, true, true, true, true, true, true, true, false, true, true, true, true, false, false, false, false] rfl rfl (by kernel_rfl) (by decide) (fun K hK => ?_)
  refine value_ (w1 := ?_) (v := ?_) (by rfl) rfl ?_ ?_
  rotate_left 2
  · go_simp
    constructor
    · rfl
    · rfl
  refine hK.out _ _ ⟨(by first | exact Lib.cell?_alloc_some _ ac0 | (show World.cell? (World.alloc W1 _) _ = _; exact Lib.cell?_alloc_some _ ac0)), (by first | exact Lib.cell?_alloc_some _ nc0 | (show World.cell? (World.alloc W1 _) _ = _; exact Lib.cell?_alloc_some _ nc0)), (by first | exact Lib.cell?_alloc_some _ ec0 | (show World.cell? (World.alloc W1 _) _ = _; exact Lib.cell?_alloc_some _ ec0)), (by first | exact Lib.cell?_alloc_some _ bc0 | (show World.cell? (World.alloc W1 _) _ = _; exact Lib.cell?_alloc_some _ bc0))⟩ (fun hHeld => ?_)
  clear hK K
  refine norm_ (a' := ?_) ?_ ?_
  rotate_left
  · show Act.put _ (some 33) _ = _
    simp only [Act.put, List.setIfInBounds_toArray, List.set_cons_zero, List.set_cons_succ, i64_w, i32_w]
    rfl
  refine one_ (i := 13) (N := some 34) #[true, true, true, true, true, true, true, true, true, true, true, true, true, true, true, true, true, true, false, false, false, false] rfl rfl (by kernel_rfl) (by decide) (fun K hK => ?_)
  refine append_step (by rfl) rfl (.tmp 25) (.tmp 33) 34 9 (.string ⟨#[]⟩) 16 rfl Try.underlying34 info9 rfl (.slice ak0 nk0 ck0) (.slice (some ⟨W1.heap.size, 0, none⟩) 1 1) (aks.map sv) ([.string x]) (by rfl) (by rfl) (by first | exact Row.alD RA0.out _ | exact Row.al RA0.out _) (by first | exact Row.litD W1 9 (.string x) | exact Row.lit W1 9 (.string x)) (by intro y hy; cases List.mem_singleton.1 hy; rfl) (by have := la0.out; simp; omega) (by have := la0.out; simp; omega) ?_
  intro v1 w1a r1 o1 k1
  replace k1 : Chg (own (.slice ak0 nk0 ck0)) W1 w1a := by first | exact Chg.of_allocD k1 | exact Chg.of_alloc k1
  replace o1 : ∀ k, own v1 k → own (.slice ak0 nk0 ck0) k ∨ (W1.heap.size ≤ k ∧ k < w1a.heap.size) := fun k hk => (o1 k hk).imp id (fun h => ⟨Nat.le_trans (by simp) h.1, h.2⟩)
  obtain ⟨ak2, nk2, ck2, rfl, l1⟩ := r1.form'
  have rb0 := RB0.out.chg k1 (fun k a b => aAB1.out k (.inr (.inl b)) (.inr (.inl a)))
  replace r1 := Hid.mk' r1
  replace o1 := Hid.mk' o1
  replace k1 := Hid.mk' k1
  replace rb0 := Hid.mk' rb0
  refine hK.out _ _ ⟨(k1.out.cell na0.out ac0), (k1.out.cell nn0.out nc0), (k1.out.cell ng0.out ec0), (k1.out.cell nb0.out bc0)⟩ (fun hHeld => ?_)
  clear hK K
  refine norm_ (a' := ?_) ?_ ?_
  rotate_left
  · show Act.put _ (some 34) _ = _
    simp only [Act.put, List.setIfInBounds_toArray, List.set_cons_zero, List.set_cons_succ, i64_w, i32_w]
    rfl
  refine one_ (i := 18) (N := some 39) #[true, true, true, true, true, true, true, true, true, true, true, true, true, true, true, true, true, true, true, false, false, false] rfl rfl (by kernel_rfl) (by decide) (fun K hK => ?_)
  refine append_step (by rfl) rfl (.tmp 34) (.tmp 38) 34 9 (.string ⟨#[]⟩) 16 rfl Try.underlying34 info9 rfl (.slice ak2 nk2 ck2) (.slice ak1 nk1 ck1) (aks.map sv ++ [.string x]) (bks.map sv) (by rfl) (by rfl) r1.out rb0.out (map_sv_cell _) (by have := la0.out; simp; omega) (by have := la0.out; simp; omega) ?_
  intro v1b w1b r1b o1b k1b
  replace o1b : ∀ k, own v1b k → own (.slice ak0 nk0 ck0) k ∨ (W1.heap.size ≤ k ∧ k < w1b.heap.size) := fun k hk => (o1b k hk).elim (fun h => (o1.out k h).imp id fun h => ⟨h.1, Nat.lt_of_lt_of_le h.2 k1b.size⟩) fun h => .inr ⟨Nat.le_trans k1.out.size h.1, h.2⟩
  replace k1b : Chg (own (.slice ak0 nk0 ck0)) W1 w1b := k1.out.trans' k1b fun k hk => (o1.out k hk).imp id (fun h => h.1)
  obtain ⟨ak3, nk3, ck3, rfl, l1b⟩ := r1b.form'
  have ac0' := k1b.cell na0.out ac0
  have af0' : w1b.frozen? ⟨a, 0, none⟩ = false := frozen_of_row _ a 0 _ _ (k1b.heap na0.out ablk0.out)
  replace r1b := Hid.mk' r1b
  replace o1b := Hid.mk' o1b
  replace k1b := Hid.mk' k1b
  refine hK.out _ _ ⟨ac0', (k1b.out.cell nn0.out nc0), (k1b.out.cell ng0.out ec0), (k1b.out.cell nb0.out bc0)⟩ (fun hHeld => ?_)
  clear hK K
  refine norm_ (a' := ?_) ?_ ?_
  rotate_left
  · show Act.put _ (some 39) _ = _
    simp only [Act.put, List.setIfInBounds_toArray, List.set_cons_zero, List.set_cons_succ, i64_w, i32_w]
    rfl
  refine pure_ (i := 19) (N := some 40) (v := ?_) (a' := ?_) #[true, true, true, true, true, true, true, true, true, true, true, true, true, true, true, true, true, true, true, true, false, false] rfl rfl (by kernel_rfl) (fun _ _ _ h => h) (Or.inl ⟨by rfl, ?_⟩) ?_ ?_
  rotate_left
  · intro w'
    go_simp
    with_reducible rfl
  rotate_left
  · simp only [Act.put, List.setIfInBounds_toArray, List.set_cons_zero, List.set_cons_succ, i64_w, i32_w]
    rfl
  refine pure_ (i := 20) (N := some 41) (v := ?_) (a' := ?_) #[true, true, true, true, true, true, true, true, true, true, true, true, true, true, true, true, true, true, true, true, true, false] rfl rfl (by kernel_rfl) (fun _ _ _ h => h) (Or.inl ⟨by rfl, ?_⟩) ?_ ?_
  rotate_left
  · intro w'
    go_simp
    with_reducible rfl
  rotate_left
  · simp only [Act.put, List.setIfInBounds_toArray, List.set_cons_zero, List.set_cons_succ, i64_w, i32_w]
    rfl
  refine last_ (i := 21) (N := none) #[true, true, true, true, true, true, true, true, true, true, true, true, true, true, true, true, true, true, true, true, true, true] rfl rfl (by kernel_rfl) (by decide) (fun K hK => ?_)
  refine skip_ (w1 := ?_) (by rfl) rfl ?_ ?_
  rotate_left
  · go_simp
    rfl
  refine hK.out _ _ ?_
  clear hK K
  refine done_ (by kernel_rfl) ?_

  go_upto_region 2 with (fail)
  obtain ⟨W2, hW2⟩ : ∃ W2, W2 = w1b.setCell ⟨a, 0, none⟩ (.slice ak3 nk3 ck3) := ⟨_, rfl⟩
  rw [← hW2]
  obtain ⟨nA2, kk2⟩ := nA1.out.step0 (k1b.out) (show Row _ _ (.slice ak3 nk3 ck3) ((aks ++ x :: bks).map sv) from (by have := r1b.out; rwa [show (aks.map sv ++ [Value.string x] ++ bks.map sv) = ((aks ++ x :: bks).map sv) from by simp [sv]] at this))
  rw [← hW2] at nA2 kk2
  have nN2 := nN1.out.chg kk2 (aNA1.out)
  have nB2 := nB1.out.chg kk2 (aAB1.out.symm)
  have aNA2 := (apart0 (o1b.out) (aNA1.out.symm) nN1.out.lt).symm
  have aAB2 := apart0 (o1b.out) (aAB1.out) nB1.out.lt
  have aNB2 := aNB1.out
  have sA2 := nset0 (o1b.out) sA1.out (fun k h => .inr (Nat.le_trans kC1.out.size h))
  have sN2 := sN1.out
  have sB2 := sB1.out
  have kC2 := kC1.out.trans' kk2 (fun k h => (sA1.out k h).imp (fun h => .inr h) id)
  replace hW2 := Hid.mk' hW2
  replace kk2 := Hid.mk' kk2
  replace nN2 := Hid.mk' nN2
  replace nA2 := Hid.mk' nA2
  replace nB2 := Hid.mk' nB2
  replace sN2 := Hid.mk' sN2
  replace sA2 := Hid.mk' sA2
  replace sB2 := Hid.mk' sB2
  replace aNA2 := Hid.mk' aNA2
  replace aNB2 := Hid.mk' aNB2
  replace aAB2 := Hid.mk' aAB2
  replace kC2 := Hid.mk' kC2
  clear ac0 nc0 ec0 bc0 ac0' af0'
  have ac1 := nA2.out.c1
  have nc1 := nN2.out.c1
  have bc1 := nB2.out.c1
  have ablk1 := Hid.mk' nA2.out.blk
  have ec1 : W2.cell? ⟨gv, i, none⟩ = some (.int .i64 y) := by
    obtain ⟨_, h, _, hc, _⟩ := nN2.out.rv.at (by have := hnl.out; have := hl1.out; simp; omega)
    cases h
    exact hc _ _ ex1.out
  have RA1 := Hid.mk' nA2.out.rv
  have RB1 := Hid.mk' nB2.out.rv
  have na1 : Hid (¬ own (.slice av0 nv0 cv0) a) := RA1.out.ne ablk1.out (by decide)
  have nn1 : Hid (¬ own (.slice av0 nv0 cv0) n) := fun h => aNA2.out n (.inl rfl) (.inr (.inr (.inl h)))
  have nb1 : Hid (¬ own (.slice av0 nv0 cv0) b) := fun h => aAB2.out b (.inr (.inr (.inl h))) (.inl rfl)
  have ng1 : Hid (¬ own (.slice av0 nv0 cv0) gv) := fun h => aNA2.out gv (.inr (.inr (.inl rfl))) (.inr (.inr (.inl h)))
  refine start_ (n := 22) (S := fun w' => w'.cell? ⟨a, 1, none⟩ = some (.slice av0 nv0 cv0) ∧ w'.cell? ⟨n, 1, none⟩ = some (.slice (some ⟨gv, 0, none⟩) nv cv) ∧ w'.cell? ⟨gv, i, none⟩ = some (.int .i64 y) ∧ w'.cell? ⟨b, 1, none⟩ = some (.slice av1 nv1 cv1)) (ds := [21]) #[false, false, false, false, false, false, false, false, false, false, false, false, false, false, false, false, false, false, false, false, false, false] (by kernel_rfl) rfl rfl ⟨ac1, nc1, ec1, bc1⟩ (fun hHeld => ?_)
  refine pure_ (i := 0) (N := some 42) (v := ?_) (a' := ?_) #[true, false, false, false, false, false, false, false, false, false, false, false, false, false, false, false, false, false, false, false, false, false] rfl rfl (by kernel_rfl) (fun _ _ _ h => h) (Or.inl ⟨by rfl, ?_⟩) ?_ ?_
  rotate_left
  · intro w'
    go_simp
    with_reducible rfl
  rotate_left
  · simp only [Act.put, List.setIfInBounds_toArray, List.set_cons_zero, List.set_cons_succ, i64_w, i32_w]
    rfl
  refine pure_ (i := 1) (N := some 43) (v := ?_) (a' := ?_) #[true, true, false, false, false, false, false, false, false, false, false, false, false, false, false, false, false, false, false, false, false, false] rfl rfl (by kernel_rfl) (fun _ _ _ h => h) (Or.inl ⟨by rfl, ?_⟩) ?_ ?_
  rotate_left
  · intro w'
    go_simp
    with_reducible rfl
  rotate_left
  · simp only [Act.put, List.setIfInBounds_toArray, List.set_cons_zero, List.set_cons_succ, i64_w, i32_w]
    rfl
  refine pure_ (i := 2) (N := some 44) (v := ?_) (a' := ?_) #[true, true, true, false, false, false, false, false, false, false, false, false, false, false, false, false, false, false, false, false, false, false] rfl rfl (by kernel_rfl) (fun _ _ _ h => h) (Or.inl ⟨by rfl, ?_⟩) ?_ ?_
  rotate_left
  · intro w'
    go_simp
    with_reducible rfl
  rotate_left
  · simp only [Act.put, List.setIfInBounds_toArray, List.set_cons_zero, List.set_cons_succ, i64_w, i32_w]
    rfl
  refine pure_ (i := 3) (N := some 45) (v := ?_) (a' := ?_) #[true, true, true, true, false, false, false, false, false, false, false, false, false, false, false, false, false, false, false, false, false, false] rfl rfl (by kernel_rfl) (fun _ _ _ h => h) (Or.inl ⟨by rfl, ?_⟩) ?_ ?_
  rotate_left
  · intro w'
    go_simp
    with_reducible rfl
  rotate_left
  · simp only [Act.put, List.setIfInBounds_toArray, List.set_cons_zero, List.set_cons_succ, i64_w, i32_w]
    rfl
  refine pure_ (i := 5) (N := some 47) (v := ?_) (a' := ?_) #[true, true, true, true, false, true, false, false, false, false, false, false, false, false, false, false, false, false, false, false, false, false] rfl rfl (by kernel_rfl) (fun _ _ _ h => h) (Or.inl ⟨by rfl, ?_⟩) ?_ ?_
  rotate_left
  · intro w'
    go_simp
    with_reducible rfl
  rotate_left
  · simp only [Act.put, List.setIfInBounds_toArray, List.set_cons_zero, List.set_cons_succ, i64_w, i32_w]
    rfl
  refine pure_ (i := 6) (N := some 48) (v := ?_) (a' := ?_) #[true, true, true, true, false, true, true, false, false, false, false, false, false, false, false, false, false, false, false, false, false, false] rfl rfl (by kernel_rfl) (fun _ _ _ h => h) (Or.inl ⟨by rfl, ?_⟩) ?_ ?_
  rotate_left
  · intro w'
    go_simp
    with_reducible rfl
  rotate_left
  · simp only [Act.put, List.setIfInBounds_toArray, List.set_cons_zero, List.set_cons_succ, i64_w, i32_w]
    rfl
  refine pure_ (i := 7) (N := some 49) (v := ?_) (a' := ?_) #[true, true, true, true, false, true, true, true, false, false, false, false, false, false, false, false, false, false, false, false, false, false] rfl rfl (by kernel_rfl) (fun _ _ _ h => h) (Or.inl ⟨by rfl, ?_⟩) ?_ ?_
  rotate_left
  · intro w'
    go_simp
    with_reducible rfl
  rotate_left
  · simp only [Act.put, List.setIfInBounds_toArray, List.set_cons_zero, List.set_cons_succ, i64_w, i32_w]
    rfl
  refine pure_ (i := 9) (N := some 51) (v := ?_) (a' := ?_) #[true, true, true, true, false, true, true, true, false, true, false, false, false, false, false, false, false, false, false, false, false, false] rfl rfl (by kernel_rfl) (fun _ _ _ h => h) (Or.inl ⟨by rfl, ?_⟩) ?_ ?_
  rotate_left
  · intro w'
    go_simp
    with_reducible rfl
  rotate_left
  · simp only [Act.put, List.setIfInBounds_toArray, List.set_cons_zero, List.set_cons_succ, i64_w, i32_w]
    rfl
  refine pure_ (i := 14) (N := some 56) (v := ?_) (a' := ?_) #[true, true, true, true, false, true, true, true, false, true, false, false, false, false, true, false, false, false, false, false, false, false] rfl rfl (by kernel_rfl) (fun _ _ _ h => h) (Or.inl ⟨by rfl, ?_⟩) ?_ ?_
  rotate_left
  · intro w'
    go_simp
    with_reducible rfl
  rotate_left
  · simp only [Act.put, List.setIfInBounds_toArray, List.set_cons_zero, List.set_cons_succ, i64_w, i32_w]
    rfl
  refine pure_ (i := 15) (N := some 57) (v := ?_) (a' := ?_) #[true, true, true, true, false, true, true, true, false, true, false, false, false, false, true, true, false, false, false, false, false, false] rfl rfl (by kernel_rfl) (fun _ _ _ h => h) (Or.inl ⟨by rfl, ?_⟩) ?_ ?_
  rotate_left
  · intro w'
    go_simp
    with_reducible rfl
  rotate_left
  · simp only [Act.put, List.setIfInBounds_toArray, List.set_cons_zero, List.set_cons_succ, i64_w, i32_w]
    rfl
  refine pure_ (i := 16) (N := some 58) (v := ?_) (a' := ?_) #[true, true, true, true, false, true, true, true, false, true, false, false, false, false, true, true, true, false, false, false, false, false] rfl rfl (by kernel_rfl) (fun _ _ _ h => h) (Or.inl ⟨by rfl, ?_⟩) ?_ ?_
  rotate_left
  · intro w'
    go_simp
    with_reducible rfl
  rotate_left
  · simp only [Act.put, List.setIfInBounds_toArray, List.set_cons_zero, List.set_cons_succ, i64_w, i32_w]
    rfl
  refine take_ (i := 4) (N := some 46) (v := ?_) (a' := ?_) #[true, true, true, true, true, true, true, true, false, true, false, false, false, false, true, true, true, false, false, false, false, false] rfl rfl (by kernel_rfl) (fun _ _ _ h => h) (Or.inl ⟨by rfl, ?_⟩) hHeld ?_ ?_
  rotate_left
  · rintro w' ⟨s0, s1, s2, s3⟩
    go_simp
    with_reducible rfl
  rotate_left
  · simp only [Act.put, List.setIfInBounds_toArray, List.set_cons_zero, List.set_cons_succ, i64_w, i32_w]
    rfl
  refine take_ (i := 8) (N := some 50) (v := ?_) (a' := ?_) #[true, true, true, true, true, true, true, true, true, true, false, false, false, false, true, true, true, false, false, false, false, false] rfl rfl (by kernel_rfl) (fun _ _ _ h => h) (Or.inl ⟨by rfl, ?_⟩) hHeld ?_ ?_
  rotate_left
  · rintro w' ⟨s0, s1, s2, s3⟩
    go_simp
    with_reducible rfl
  rotate_left
  · simp only [Act.put, List.setIfInBounds_toArray, List.set_cons_zero, List.set_cons_succ, i64_w, i32_w]
    rfl
  refine pure_ (i := 10) (N := some 52) (v := ?_) (a' := ?_) #[true, true, true, true, true, true, true, true, true, true, true, false, false, false, true, true, true, false, false, false, false, false] rfl rfl (by kernel_rfl) (fun _ _ _ h => h) (Or.inl ⟨by rfl, ?_⟩) ?_ ?_
  rotate_left
  · intro w'
    go_simp
    with_reducible rfl
  rotate_left
  · simp only [Act.put, List.setIfInBounds_toArray, List.set_cons_zero, List.set_cons_succ, i64_w, i32_w]
    rfl
  refine take_ (i := 11) (N := some 53) (v := ?_) (a' := ?_) #[true, true, true, true, true, true, true, true, true, true, true, true, false, false, true, true, true, false, false, false, false, false] rfl rfl (by kernel_rfl) (fun _ _ _ h => h) (Or.inl ⟨by rfl, ?_⟩) hHeld ?_ ?_
  rotate_left
  · rintro w' ⟨s0, s1, s2, s3⟩
    go_simp
    with_reducible rfl
  rotate_left
  · simp only [Act.put, List.setIfInBounds_toArray, List.set_cons_zero, List.set_cons_succ, i64_w, i32_w]
    rfl
  refine take_ (i := 17) (N := some 59) (v := ?_) (a' := ?_) #[true, true, true, true, true, true, true, true, true, true, true, true, false, false, true, true, true, true, false, false, false, false] rfl rfl (by kernel_rfl) (fun _ _ _ h => h) (Or.inl ⟨by rfl, ?_⟩) hHeld ?_ ?_
  rotate_left
  · rintro w' ⟨s0, s1, s2, s3⟩
    go_simp
    with_reducible rfl
  rotate_left
  · simp only [Act.put, List.setIfInBounds_toArray, List.set_cons_zero, List.set_cons_succ, i64_w, i32_w]
    rfl
  refine one_ (i := 12) (N := some 54) #[true, true, true, true, true, true, true, true, true, true, true, true, true, false, true, true, true, true, false, false, false, false] rfl rfl (by kernel_rfl) (by decide) (fun K hK => ?_)
  refine value_ (w1 := ?_) (v := ?_) (by rfl) rfl ?_ ?_
  rotate_left 2
  · go_simp
    constructor
    · rfl
    · rfl
  refine hK.out _ _ ⟨(by first | exact Lib.cell?_alloc_some _ ac1 | (show World.cell? (World.alloc W2 _) _ = _; exact Lib.cell?_alloc_some _ ac1)), (by first | exact Lib.cell?_alloc_some _ nc1 | (show World.cell? (World.alloc W2 _) _ = _; exact Lib.cell?_alloc_some _ nc1)), (by first | exact Lib.cell?_alloc_some _ ec1 | (show World.cell? (World.alloc W2 _) _ = _; exact Lib.cell?_alloc_some _ ec1)), (by first | exact Lib.cell?_alloc_some _ bc1 | (show World.cell? (World.alloc W2 _) _ = _; exact Lib.cell?_alloc_some _ bc1))⟩ (fun hHeld => ?_)
  clear hK K
  refine norm_ (a' := ?_) ?_ ?_
  rotate_left
  · show Act.put _ (some 54) _ = _
    simp only [Act.put, List.setIfInBounds_toArray, List.set_cons_zero, List.set_cons_succ, i64_w, i32_w]
    rfl
  refine one_ (i := 13) (N := some 55) #[true, true, true, true, true, true, true, true, true, true, true, true, true, true, true, true, true, true, false, false, false, false] rfl rfl (by kernel_rfl) (by decide) (fun K hK => ?_)
  refine append_step (by rfl) rfl (.tmp 46) (.tmp 54) 35 3 (.int .i64 0) 8 rfl Try.underlying35 info3 rfl (.slice av0 nv0 cv0) (.slice (some ⟨W2.heap.size, 0, none⟩) 1 1) (avs.map iv) ([.int .i64 y]) (by rfl) (by rfl) (by first | exact Row.alD RA1.out _ | exact Row.al RA1.out _) (by first | exact Row.litD W2 3 (.int .i64 y) | exact Row.lit W2 3 (.int .i64 y)) (by intro y hy; cases List.mem_singleton.1 hy; rfl) (by have := la1.out; simp; omega) (by have := la1.out; simp; omega) ?_
  intro v2 w2a r2 o2 k2
  replace k2 : Chg (own (.slice av0 nv0 cv0)) W2 w2a := by first | exact Chg.of_allocD k2 | exact Chg.of_alloc k2
  replace o2 : ∀ k, own v2 k → own (.slice av0 nv0 cv0) k ∨ (W2.heap.size ≤ k ∧ k < w2a.heap.size) := fun k hk => (o2 k hk).imp id (fun h => ⟨Nat.le_trans (by simp) h.1, h.2⟩)
  obtain ⟨av2, nv2, cv2, rfl, l2⟩ := r2.form'
  have rb1 := RB1.out.chg k2 (fun k a b => aAB2.out k (.inr (.inr (.inl b))) (.inr (.inr (.inl a))))
  replace r2 := Hid.mk' r2
  replace o2 := Hid.mk' o2
  replace k2 := Hid.mk' k2
  replace rb1 := Hid.mk' rb1
  refine hK.out _ _ ⟨(k2.out.cell na1.out ac1), (k2.out.cell nn1.out nc1), (k2.out.cell ng1.out ec1), (k2.out.cell nb1.out bc1)⟩ (fun hHeld => ?_)
  clear hK K
  refine norm_ (a' := ?_) ?_ ?_
  rotate_left
  · show Act.put _ (some 55) _ = _
    simp only [Act.put, List.setIfInBounds_toArray, List.set_cons_zero, List.set_cons_succ, i64_w, i32_w]
    rfl
  refine one_ (i := 18) (N := some 60) #[true, true, true, true, true, true, true, true, true, true, true, true, true, true, true, true, true, true, true, false, false, false] rfl rfl (by kernel_rfl) (by decide) (fun K hK => ?_)
  refine append_step (by rfl) rfl (.tmp 55) (.tmp 59) 35 3 (.int .i64 0) 8 rfl Try.underlying35 info3 rfl (.slice av2 nv2 cv2) (.slice av1 nv1 cv1) (avs.map iv ++ [.int .i64 y]) (bvs.map iv) (by rfl) (by rfl) r2.out rb1.out (map_iv_cell _) (by have := la1.out; simp; omega) (by have := la1.out; simp; omega) ?_
  intro v2b w2b r2b o2b k2b
  replace o2b : ∀ k, own v2b k → own (.slice av0 nv0 cv0) k ∨ (W2.heap.size ≤ k ∧ k < w2b.heap.size) := fun k hk => (o2b k hk).elim (fun h => (o2.out k h).imp id fun h => ⟨h.1, Nat.lt_of_lt_of_le h.2 k2b.size⟩) fun h => .inr ⟨Nat.le_trans k2.out.size h.1, h.2⟩
  replace k2b : Chg (own (.slice av0 nv0 cv0)) W2 w2b := k2.out.trans' k2b fun k hk => (o2.out k hk).imp id (fun h => h.1)
  obtain ⟨av3, nv3, cv3, rfl, l2b⟩ := r2b.form'
  have ac1' := k2b.cell na1.out ac1
  have af1' : w2b.frozen? ⟨a, 1, none⟩ = false := frozen_of_row _ a 1 _ _ (k2b.heap na1.out ablk1.out)
  replace r2b := Hid.mk' r2b
  replace o2b := Hid.mk' o2b
  replace k2b := Hid.mk' k2b
  refine hK.out _ _ ⟨ac1', (k2b.out.cell nn1.out nc1), (k2b.out.cell ng1.out ec1), (k2b.out.cell nb1.out bc1)⟩ (fun hHeld => ?_)
  clear hK K
  refine norm_ (a' := ?_) ?_ ?_
  rotate_left
  · show Act.put _ (some 60) _ = _
    simp only [Act.put, List.setIfInBounds_toArray, List.set_cons_zero, List.set_cons_succ, i64_w, i32_w]
    rfl
  refine pure_ (i := 19) (N := some 61) (v := ?_) (a' := ?_) #[true, true, true, true, true, true, true, true, true, true, true, true, true, true, true, true, true, true, true, true, false, false] rfl rfl (by kernel_rfl) (fun _ _ _ h => h) (Or.inl ⟨by rfl, ?_⟩) ?_ ?_
  rotate_left
  · intro w'
    go_simp
    with_reducible rfl
  rotate_left
  · simp only [Act.put, List.setIfInBounds_toArray, List.set_cons_zero, List.set_cons_succ, i64_w, i32_w]
    rfl
  refine pure_ (i := 20) (N := some 62) (v := ?_) (a' := ?_) #[true, true, true, true, true, true, true, true, true, true, true, true, true, true, true, true, true, true, true, true, true, false] rfl rfl (by kernel_rfl) (fun _ _ _ h => h) (Or.inl ⟨by rfl, ?_⟩) ?_ ?_
  rotate_left
  · intro w'
    go_simp
    with_reducible rfl
  rotate_left
  · simp only [Act.put, List.setIfInBounds_toArray, List.set_cons_zero, List.set_cons_succ, i64_w, i32_w]
    rfl
  refine last_ (i := 21) (N := none) #[true, true, true, true, true, true, true, true, true, true, true, true, true, true, true, true, true, true, true, true, true, true] rfl rfl (by kernel_rfl) (by decide) (fun K hK => ?_)
  refine skip_ (w1 := ?_) (by rfl) rfl ?_ ?_
  rotate_left
  · go_simp
    rfl
  refine hK.out _ _ ?_
  clear hK K
  refine done_ (by kernel_rfl) ?_

  go_upto_region 3 with (fail)
  obtain ⟨W3, hW3⟩ : ∃ W3, W3 = w2b.setCell ⟨a, 1, none⟩ (.slice av3 nv3 cv3) := ⟨_, rfl⟩
  rw [← hW3]
  obtain ⟨nA3, kk3⟩ := nA2.out.step1 (k2b.out) (show Row _ _ (.slice av3 nv3 cv3) ((avs ++ y :: bvs).map iv) from (by have := r2b.out; rwa [show (avs.map iv ++ [Value.int .i64 y] ++ bvs.map iv) = ((avs ++ y :: bvs).map iv) from by simp [iv]] at this))
  rw [← hW3] at nA3 kk3
  have nN3 := nN2.out.chg kk3 (aNA2.out)
  have nB3 := nB2.out.chg kk3 (aAB2.out.symm)
  have aNA3 := (apart1 (o2b.out) (aNA2.out.symm) nN2.out.lt).symm
  have aAB3 := apart1 (o2b.out) (aAB2.out) nB2.out.lt
  have aNB3 := aNB2.out
  have sA3 := nset1 (o2b.out) sA2.out (fun k h => .inr (Nat.le_trans kC2.out.size h))
  have sN3 := sN2.out
  have sB3 := sB2.out
  have kC3 := kC2.out.trans' kk3 (fun k h => (sA2.out k h).imp (fun h => .inr h) id)
  replace hW3 := Hid.mk' hW3
  replace kk3 := Hid.mk' kk3
  replace nN3 := Hid.mk' nN3
  replace nA3 := Hid.mk' nA3
  replace nB3 := Hid.mk' nB3
  replace sN3 := Hid.mk' sN3
  replace sA3 := Hid.mk' sA3
  replace sB3 := Hid.mk' sB3
  replace aNA3 := Hid.mk' aNA3
  replace aNB3 := Hid.mk' aNB3
  replace aAB3 := Hid.mk' aAB3
  replace kC3 := Hid.mk' kC3
  have ac2 := nA3.out.c2
  have bc2 := nB3.out.c2
  have ablk2 := Hid.mk' nA3.out.blk
  have na2 : Hid (¬ own (.slice zc0 zn0 zk0) a) := nA3.out.rc.ne ablk2.out (by decide)
  have nb2 : Hid (¬ own (.slice zc0 zn0 zk0) b) := fun h => aAB3.out b (.inr (.inr (.inr h))) (.inl rfl)
  refine start_ (n := 13) (S := fun w' => w'.cell? ⟨a, 2, none⟩ = some (.slice zc0 zn0 zk0) ∧ w'.cell? ⟨b, 2, none⟩ = some (.slice zc1 zn1 zk1)) (ds := [12]) #[false, false, false, false, false, false, false, false, false, false, false, false, false] (by kernel_rfl) rfl rfl ⟨ac2, bc2⟩ (fun hHeld => ?_)
  refine pure_ (i := 0) (N := some 63) (v := ?_) (a' := ?_) #[true, false, false, false, false, false, false, false, false, false, false, false, false] rfl rfl (by kernel_rfl) (fun _ _ _ h => h) (Or.inl ⟨by rfl, ?_⟩) ?_ ?_
  rotate_left
  · intro w'
    go_simp
    with_reducible rfl
  rotate_left
  · simp only [Act.put, List.setIfInBounds_toArray, List.set_cons_zero, List.set_cons_succ, i64_w, i32_w]
    rfl
  refine pure_ (i := 1) (N := some 64) (v := ?_) (a' := ?_) #[true, true, false, false, false, false, false, false, false, false, false, false, false] rfl rfl (by kernel_rfl) (fun _ _ _ h => h) (Or.inl ⟨by rfl, ?_⟩) ?_ ?_
  rotate_left
  · intro w'
    go_simp
    with_reducible rfl
  rotate_left
  · simp only [Act.put, List.setIfInBounds_toArray, List.set_cons_zero, List.set_cons_succ, i64_w, i32_w]
    rfl
  refine pure_ (i := 2) (N := some 65) (v := ?_) (a' := ?_) #[true, true, true, false, false, false, false, false, false, false, false, false, false] rfl rfl (by kernel_rfl) (fun _ _ _ h => h) (Or.inl ⟨by rfl, ?_⟩) ?_ ?_
  rotate_left
  · intro w'
    go_simp
    with_reducible rfl
  rotate_left
  · simp only [Act.put, List.setIfInBounds_toArray, List.set_cons_zero, List.set_cons_succ, i64_w, i32_w]
    rfl
  refine pure_ (i := 3) (N := some 66) (v := ?_) (a' := ?_) #[true, true, true, true, false, false, false, false, false, false, false, false, false] rfl rfl (by kernel_rfl) (fun _ _ _ h => h) (Or.inl ⟨by rfl, ?_⟩) ?_ ?_
  rotate_left
  · intro w'
    go_simp
    with_reducible rfl
  rotate_left
  · simp only [Act.put, List.setIfInBounds_toArray, List.set_cons_zero, List.set_cons_succ, i64_w, i32_w]
    rfl
  refine pure_ (i := 5) (N := some 68) (v := ?_) (a' := ?_) #[true, true, true, true, false, true, false, false, false, false, false, false, false] rfl rfl (by kernel_rfl) (fun _ _ _ h => h) (Or.inl ⟨by rfl, ?_⟩) ?_ ?_
  rotate_left
  · intro w'
    go_simp
    with_reducible rfl
  rotate_left
  · simp only [Act.put, List.setIfInBounds_toArray, List.set_cons_zero, List.set_cons_succ, i64_w, i32_w]
    rfl
  refine pure_ (i := 6) (N := some 69) (v := ?_) (a' := ?_) #[true, true, true, true, false, true, true, false, false, false, false, false, false] rfl rfl (by kernel_rfl) (fun _ _ _ h => h) (Or.inl ⟨by rfl, ?_⟩) ?_ ?_
  rotate_left
  · intro w'
    go_simp
    with_reducible rfl
  rotate_left
  · simp only [Act.put, List.setIfInBounds_toArray, List.set_cons_zero, List.set_cons_succ, i64_w, i32_w]
    rfl
  refine pure_ (i := 7) (N := some 70) (v := ?_) (a' := ?_) #[true, true, true, true, false, true, true, true, false, false, false, false, false] rfl rfl (by kernel_rfl) (fun _ _ _ h => h) (Or.inl ⟨by rfl, ?_⟩) ?_ ?_
  rotate_left
  · intro w'
    go_simp
    with_reducible rfl
  rotate_left
  · simp only [Act.put, List.setIfInBounds_toArray, List.set_cons_zero, List.set_cons_succ, i64_w, i32_w]
    rfl
  refine take_ (i := 4) (N := some 67) (v := ?_) (a' := ?_) #[true, true, true, true, true, true, true, true, false, false, false, false, false] rfl rfl (by kernel_rfl) (fun _ _ _ h => h) (Or.inl ⟨by rfl, ?_⟩) hHeld ?_ ?_
  rotate_left
  · rintro w' ⟨s0, s1⟩
    go_simp
    with_reducible rfl
  rotate_left
  · simp only [Act.put, List.setIfInBounds_toArray, List.set_cons_zero, List.set_cons_succ, i64_w, i32_w]
    rfl
  refine take_ (i := 8) (N := some 71) (v := ?_) (a' := ?_) #[true, true, true, true, true, true, true, true, true, false, false, false, false] rfl rfl (by kernel_rfl) (fun _ _ _ h => h) (Or.inl ⟨by rfl, ?_⟩) hHeld ?_ ?_
  rotate_left
  · rintro w' ⟨s0, s1⟩
    go_simp
    with_reducible rfl
  rotate_left
  · simp only [Act.put, List.setIfInBounds_toArray, List.set_cons_zero, List.set_cons_succ, i64_w, i32_w]
    rfl
  refine one_ (i := 9) (N := some 72) #[true, true, true, true, true, true, true, true, true, true, false, false, false] rfl rfl (by kernel_rfl) (by decide) (fun K hK => ?_)
  refine append_step (by rfl) rfl (.tmp 67) (.tmp 71) 52 48 (.pointer none) 8 rfl Try.underlying52 info48 rfl (.slice zc0 zn0 zk0) (.slice zc1 zn1 zk1) (abs.map pv) (bbs.map pv) (by rfl) (by rfl) (by exact nA3.out.rc) (by exact nB3.out.rc) (map_pv_cell _) (by have := la2.out; simp; omega) (by have := la2.out; simp; omega) ?_
  intro v3b w3b r3b o3b k3b
  replace k3b : Chg (own (.slice zc0 zn0 zk0)) W3 w3b := k3b.undrew
  obtain ⟨zc3, zn3, zk3, rfl, l3b⟩ := r3b.form'
  have ac2' := k3b.cell na2.out ac2
  have af2' : w3b.frozen? ⟨a, 2, none⟩ = false := frozen_of_row _ a 2 _ _ (k3b.heap na2.out ablk2.out)
  replace r3b := Hid.mk' r3b
  replace o3b := Hid.mk' o3b
  replace k3b := Hid.mk' k3b
  refine hK.out _ _ ⟨ac2', (k3b.out.cell nb2.out bc2)⟩ (fun hHeld => ?_)
  clear hK K
  refine norm_ (a' := ?_) ?_ ?_
  rotate_left
  · show Act.put _ (some 72) _ = _
    simp only [Act.put, List.setIfInBounds_toArray, List.set_cons_zero, List.set_cons_succ, i64_w, i32_w]
    rfl
  refine pure_ (i := 10) (N := some 73) (v := ?_) (a' := ?_) #[true, true, true, true, true, true, true, true, true, true, true, false, false] rfl rfl (by kernel_rfl) (fun _ _ _ h => h) (Or.inl ⟨by rfl, ?_⟩) ?_ ?_
  rotate_left
  · intro w'
    go_simp
    with_reducible rfl
  rotate_left
  · simp only [Act.put, List.setIfInBounds_toArray, List.set_cons_zero, List.set_cons_succ, i64_w, i32_w]
    rfl
  refine pure_ (i := 11) (N := some 74) (v := ?_) (a' := ?_) #[true, true, true, true, true, true, true, true, true, true, true, true, false] rfl rfl (by kernel_rfl) (fun _ _ _ h => h) (Or.inl ⟨by rfl, ?_⟩) ?_ ?_
  rotate_left
  · intro w'
    go_simp
    with_reducible rfl
  rotate_left
  · simp only [Act.put, List.setIfInBounds_toArray, List.set_cons_zero, List.set_cons_succ, i64_w, i32_w]
    rfl
  refine last_ (i := 12) (N := none) #[true, true, true, true, true, true, true, true, true, true, true, true, true] rfl rfl (by kernel_rfl) (by decide) (fun K hK => ?_)
  refine skip_ (w1 := ?_) (by rfl) rfl ?_ ?_
  rotate_left
  · go_simp
    rfl
  refine hK.out _ _ ?_
  clear hK K
  refine done_ (by kernel_rfl) ?_
  go_upto_region 4 with (fail)
  have o3b' : ∀ k, own (.slice zc3 zn3 zk3) k → own (.slice zc0 zn0 zk0) k ∨ (W3.heap.size ≤ k ∧ k < w3b.heap.size) := o3b.out
  obtain ⟨W4, hW4⟩ : ∃ W4, W4 = w3b.setCell ⟨a, 2, none⟩ (.slice zc3 zn3 zk3) := ⟨_, rfl⟩
  rw [← hW4]
  obtain ⟨nA4, kk4⟩ := nA3.out.step2 (k3b.out) (show Row _ _ (.slice zc3 zn3 zk3) ((abs ++ bbs).map pv) from (by have := r3b.out; rwa [show (abs.map pv ++ bbs.map pv) = ((abs ++ bbs).map pv) from by simp] at this))
  rw [← hW4] at nA4 kk4
  have nN4 := nN3.out.chg kk4 (aNA3.out)
  have nB4 := nB3.out.chg kk4 (aAB3.out.symm)
  have aNA4 := (apart2 (o3b') (aNA3.out.symm) nN3.out.lt).symm
  have aAB4 := apart2 (o3b') (aAB3.out) nB3.out.lt
  have aNB4 := aNB3.out
  have sA4 := nset2 (o3b') sA3.out (fun k h => .inr (Nat.le_trans kC3.out.size h))
  have sN4 := sN3.out
  have sB4 := sB3.out
  have kC4 := kC3.out.trans' kk4 (fun k h => (sA3.out k h).imp (fun h => .inr h) id)
  replace hW4 := Hid.mk' hW4
  replace kk4 := Hid.mk' kk4
  replace nN4 := Hid.mk' nN4
  replace nA4 := Hid.mk' nA4
  replace nB4 := Hid.mk' nB4
  replace sN4 := Hid.mk' sN4
  replace sA4 := Hid.mk' sA4
  replace sB4 := Hid.mk' sB4
  replace aNA4 := Hid.mk' aNA4
  replace aNB4 := Hid.mk' aNB4
  replace aAB4 := Hid.mk' aAB4
  replace kC4 := Hid.mk' kC4
  clear ac2 bc2 ac2' af2'
  have nc0 := nN4.out.c0
  have nblk0 := Hid.mk' nN4.out.blk
  have RD0 := Hid.mk' nN4.out.rk
  have nn0d : Hid (¬ n = gk) := fun h => RD0.out.ne nblk0.out (by decide) ((own_slice _ _ _ _ _ _).2 h)
  go_upto_region 5 with ((go_at_call 38; refine (delS gk nk ck (i) _ _ (ks.map sv) _ (RD0.out) (by have := hnl.out; simp; omega) (by omega) (by omega) (map_sv_cell _)).mono ?_; rintro e wd0 ⟨rfl, rd0, kd0⟩; have nd0' := kd0.cell (p := ⟨n, 0, none⟩) nn0d.out nc0; have nf0' : wd0.frozen? ⟨n, 0, none⟩ = false := (frozen_of_row _ n 0 _ _ (kd0.heap nn0d.out nblk0.out)); replace rd0 := Hid.mk' rd0; replace kd0 := Hid.mk' kd0))
  have hs0 : (fun k => k = gk) = own (.slice (some ⟨gk, 0, none⟩) nk ck) := by funext k; exact propext (own_slice _ _ _ _ _ _).symm
  have kd0' : Chg (own (.slice (some ⟨gk, 0, none⟩) nk ck)) W4 wd0 := hs0 ▸ kd0.out
  have od0 : ∀ k, own (.slice (some ⟨gk, 0, none⟩) (nk - 1) ck) k → own (.slice (some ⟨gk, 0, none⟩) nk ck) k ∨ (W4.heap.size ≤ k ∧ k < wd0.heap.size) := fun k hk => .inl ((own_slice _ _ _ _ _ _).2 ((own_slice _ _ _ _ _ _).1 hk))
  obtain ⟨W5, hW5⟩ : ∃ W5, W5 = wd0.setCell ⟨n, 0, none⟩ (.slice (some ⟨gk, 0, none⟩) (nk - 1) ck) := ⟨_, rfl⟩
  rw [← hW5]
  obtain ⟨nN5, kk5⟩ := nN4.out.step0 (kd0') (show Row _ _ (.slice (some ⟨gk, 0, none⟩) (nk - 1) ck) ((ks.take i ++ ks.drop (i + 1)).map sv) from (by have := rd0.out; rwa [show ((ks.map sv).take i ++ (ks.map sv).drop (i + 1)) = ((ks.take i ++ ks.drop (i + 1)).map sv) from by simp] at this))
  rw [← hW5] at nN5 kk5
  have nA5 := nA4.out.chg kk5 (aNA4.out.symm)
  have nB5 := nB4.out.chg kk5 (aNB4.out.symm)
  have aNA5 := apart0 (od0) (aNA4.out) nA4.out.lt
  have aNB5 := apart0 (od0) (aNB4.out) nB4.out.lt
  have aAB5 := aAB4.out
  have sN5 := nset0 (od0) sN4.out (fun k h => .inr (Nat.le_trans kC4.out.size h))
  have sA5 := sA4.out
  have sB5 := sB4.out
  have kC5 := kC4.out.trans' kk5 (fun k h => (sN4.out k h).imp (fun h => .inl h) id)
  replace hW5 := Hid.mk' hW5
  replace kk5 := Hid.mk' kk5
  replace nN5 := Hid.mk' nN5
  replace nA5 := Hid.mk' nA5
  replace nB5 := Hid.mk' nB5
  replace sN5 := Hid.mk' sN5
  replace sA5 := Hid.mk' sA5
  replace sB5 := Hid.mk' sB5
  replace aNA5 := Hid.mk' aNA5
  replace aNB5 := Hid.mk' aNB5
  replace aAB5 := Hid.mk' aAB5
  replace kC5 := Hid.mk' kC5
  clear nc0 nd0' nf0'
  have nc1 := nN5.out.c1
  have nblk1 := Hid.mk' nN5.out.blk
  have RD1 := Hid.mk' nN5.out.rv
  have nn1d : Hid (¬ n = gv) := fun h => RD1.out.ne nblk1.out (by decide) ((own_slice _ _ _ _ _ _).2 h)
  go_upto_region 6 with ((go_at_call 39; refine (delI gv nv cv (i) _ _ (vs.map iv) _ (RD1.out) (by have := hnl.out; have := hl1.out; simp; omega) (by omega) (by omega) (map_iv_cell _)).mono ?_; rintro e wd1 ⟨rfl, rd1, kd1⟩; have nd1' := kd1.cell (p := ⟨n, 1, none⟩) nn1d.out nc1; have nf1' : wd1.frozen? ⟨n, 1, none⟩ = false := (frozen_of_row _ n 1 _ _ (kd1.heap nn1d.out nblk1.out)); replace rd1 := Hid.mk' rd1; replace kd1 := Hid.mk' kd1))
  have hs1 : (fun k => k = gv) = own (.slice (some ⟨gv, 0, none⟩) nv cv) := by funext k; exact propext (own_slice _ _ _ _ _ _).symm
  have kd1' : Chg (own (.slice (some ⟨gv, 0, none⟩) nv cv)) W5 wd1 := hs1 ▸ kd1.out
  have od1 : ∀ k, own (.slice (some ⟨gv, 0, none⟩) (nv - 1) cv) k → own (.slice (some ⟨gv, 0, none⟩) nv cv) k ∨ (W5.heap.size ≤ k ∧ k < wd1.heap.size) := fun k hk => .inl ((own_slice _ _ _ _ _ _).2 ((own_slice _ _ _ _ _ _).1 hk))
  obtain ⟨W6, hW6⟩ : ∃ W6, W6 = wd1.setCell ⟨n, 1, none⟩ (.slice (some ⟨gv, 0, none⟩) (nv - 1) cv) := ⟨_, rfl⟩
  rw [← hW6]
  obtain ⟨nN6, kk6⟩ := nN5.out.step1 (kd1') (show Row _ _ (.slice (some ⟨gv, 0, none⟩) (nv - 1) cv) ((vs.take i ++ vs.drop (i + 1)).map iv) from (by have := rd1.out; rwa [show ((vs.map iv).take i ++ (vs.map iv).drop (i + 1)) = ((vs.take i ++ vs.drop (i + 1)).map iv) from by simp] at this))
  rw [← hW6] at nN6 kk6
  have nA6 := nA5.out.chg kk6 (aNA5.out.symm)
  have nB6 := nB5.out.chg kk6 (aNB5.out.symm)
  have aNA6 := apart1 (od1) (aNA5.out) nA5.out.lt
  have aNB6 := apart1 (od1) (aNB5.out) nB5.out.lt
  have aAB6 := aAB5.out
  have sN6 := nset1 (od1) sN5.out (fun k h => .inr (Nat.le_trans kC5.out.size h))
  have sA6 := sA5.out
  have sB6 := sB5.out
  have kC6 := kC5.out.trans' kk6 (fun k h => (sN5.out k h).imp (fun h => .inl h) id)
  replace hW6 := Hid.mk' hW6
  replace kk6 := Hid.mk' kk6
  replace nN6 := Hid.mk' nN6
  replace nA6 := Hid.mk' nA6
  replace nB6 := Hid.mk' nB6
  replace sN6 := Hid.mk' sN6
  replace sA6 := Hid.mk' sA6
  replace sB6 := Hid.mk' sB6
  replace aNA6 := Hid.mk' aNA6
  replace aNB6 := Hid.mk' aNB6
  replace aAB6 := Hid.mk' aAB6
  replace kC6 := Hid.mk' kC6
  clear nc1 nd1' nf1'
  have nc2 := nN6.out.c2
  have nblk2 := Hid.mk' nN6.out.blk
  have RD2 := Hid.mk' nN6.out.rc
  have nn2d : Hid (¬ n = gc) := fun h => RD2.out.ne nblk2.out (by decide) ((own_slice _ _ _ _ _ _).2 h)
  go_wp2_with ((go_at_call 53; refine (delN gc nc cc ((i + 1)) _ _ (bs.map pv) _ (RD2.out) (by have := hnl.out; have := hl2.out; simp; omega) (by omega) (by omega) (map_pv_cell _)).mono ?_; rintro e wd2 ⟨rfl, rd2, kd2⟩; have nd2' := kd2.cell (p := ⟨n, 2, none⟩) nn2d.out nc2; have nf2' : wd2.frozen? ⟨n, 2, none⟩ = false := (frozen_of_row _ n 2 _ _ (kd2.heap nn2d.out nblk2.out)); replace rd2 := Hid.mk' rd2; replace kd2 := Hid.mk' kd2))
  go_end0
  have hs2 : (fun k => k = gc) = own (.slice (some ⟨gc, 0, none⟩) nc cc) := by funext k; exact propext (own_slice _ _ _ _ _ _).symm
  have kd2' : Chg (own (.slice (some ⟨gc, 0, none⟩) nc cc)) W6 wd2 := hs2 ▸ kd2.out
  have od2 : ∀ k, own (.slice (some ⟨gc, 0, none⟩) (nc - 1) cc) k → own (.slice (some ⟨gc, 0, none⟩) nc cc) k ∨ (W6.heap.size ≤ k ∧ k < wd2.heap.size) := fun k hk => .inl ((own_slice _ _ _ _ _ _).2 ((own_slice _ _ _ _ _ _).1 hk))
  obtain ⟨W7, hW7⟩ : ∃ W7, W7 = wd2.setCell ⟨n, 2, none⟩ (.slice (some ⟨gc, 0, none⟩) (nc - 1) cc) := ⟨_, rfl⟩
  rw [← hW7]
  obtain ⟨nN7, kk7⟩ := nN6.out.step2 (kd2') (show Row _ _ (.slice (some ⟨gc, 0, none⟩) (nc - 1) cc) ((bs.take (i + 1) ++ bs.drop (i + 2)).map pv) from (by have := rd2.out; rwa [show ((bs.map pv).take (i + 1) ++ (bs.map pv).drop (i + 1 + 1)) = ((bs.take (i + 1) ++ bs.drop (i + 2)).map pv) from by simp] at this))
  rw [← hW7] at nN7 kk7
  have nA7 := nA6.out.chg kk7 (aNA6.out.symm)
  have nB7 := nB6.out.chg kk7 (aNB6.out.symm)
  have aNA7 := apart2 (od2) (aNA6.out) nA6.out.lt
  have aNB7 := apart2 (od2) (aNB6.out) nB6.out.lt
  have aAB7 := aAB6.out
  have sN7 := nset2 (od2) sN6.out (fun k h => .inr (Nat.le_trans kC6.out.size h))
  have sA7 := sA6.out
  have sB7 := sB6.out
  have kC7 := kC6.out.trans' kk7 (fun k h => (sN6.out k h).imp (fun h => .inl h) id)
  replace hW7 := Hid.mk' hW7
  replace kk7 := Hid.mk' kk7
  replace nN7 := Hid.mk' nN7
  replace nA7 := Hid.mk' nA7
  replace nB7 := Hid.mk' nB7
  replace sN7 := Hid.mk' sN7
  replace sA7 := Hid.mk' sA7
  replace sB7 := Hid.mk' sB7
  replace aNA7 := Hid.mk' aNA7
  replace aNB7 := Hid.mk' aNB7
  replace aAB7 := Hid.mk' aAB7
  replace kC7 := Hid.mk' kC7
  clear nc2 nd2' nf2'
  exact ⟨_, _, _, _, _, _, rfl, nN7.out, nA7.out, aNA7.out, sN7.out, sA7.out, kC7.out⟩

end Go.Proofs.Ytamnmoejjjaegaa
