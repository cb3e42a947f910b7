/- What (*node).enrich does where it takes a key from the left neighbour: the three nodes before and behind, apart from each other. Conditions: rows of at most 1000 elements. -/
import Derived.Test.YtamnmoejjjaegaaN2
import Derived.Test.YtamnmoejjjaegaaN3
set_option linter.unusedVariables false
set_option linter.unusedSimpArgs false
namespace Go.Proofs.Ytamnmoejjjaegaa
open Go Go.RowKit Go.Proofs.YtamnmoejjjaegaaW.PrintLast

set_option maxHeartbeats 16000000 in
set_option maxRecDepth 100000 in
theorem enrichL (n a b i l d : Nat) (vi vd : Int) (ks : List ByteArray) (vs : List Int) (bs : List Nat) (aks : List ByteArray) (avs : List Int) (abs : List Nat) (bks : List ByteArray) (bvs : List Int) (bbs : List Nat) (vk vv vc uk uv uc tk tv tc : Value) (x p : ByteArray) (y r : Int) (KK ZZ : List Nat) (w : World)
    (hN : Nd w n vk vv vc ks vs bs) (hA : Nd w a uk uv uc aks avs abs) (hB : Nd w b tk tv tc bks bvs bbs) (aNA : Apart (nset n vk vv vc) (nset a uk uv uc)) (aNB : Apart (nset n vk vv vc) (nset b tk tv tc)) (aAB : Apart (nset a uk uv uc) (nset b tk tv tc))
    (hlack : Calls Try.prog 52 #[.pointer (some ⟨n, 0, none⟩), .int .i64 vi, .int .i64 vd] w fun e w' => e = .returned (.int .i64 1) ∧ Chg NoB w w')
    (hi : i < ks.length) (ha : bs[i]? = some a) (hb : bs[i + 1]? = some b) (hvi : vi = (i : Int) + 1) (hx : ks[i]? = some x) (hy : vs[i]? = some y) (hl1 : vs.length = ks.length) (hl2 : bs.length = ks.length + 1) (hl3 : ks.length ≤ 1000)
    (hak : aks.length = l + 1) (hav : avs.length = l + 1) (hp : aks[l]? = some p) (hr : avs[l]? = some r) (hab : abs = KK ++ ZZ) (hbk : bks.length ≤ 1000) (hbv : bvs.length ≤ 1000) (hbb : bbs.length ≤ 1000) (hal : l ≤ 1000) (hZ : (KK = [] ∧ ZZ = []) ∨ (KK.length = l + 1 ∧ ∃ z, ZZ = [z])) :
    Calls Try.prog 40 #[.pointer (some ⟨n, 0, none⟩), .int .i64 vi, .int .i64 vd] w fun e w' => ∃ vk' vv' vc' uk' uv' uc' tk' tv' tc', e = .returned (.int .i64 ((i : Int) + 1)) ∧ Nd w' n vk' vv' vc' (ks.set i p) (vs.set i r) bs ∧
        Nd w' a uk' uv' uc' (aks.take l) (avs.take l) KK ∧ Nd w' b tk' tv' tc' (x :: bks) (y :: bvs) (ZZ ++ bbs) ∧ Apart (nset n vk' vv' vc') (nset a uk' uv' uc') ∧ Apart (nset n vk' vv' vc') (nset b tk' tv' tc') ∧ Apart (nset a uk' uv' uc') (nset b tk' tv' tc') ∧
        Sub (nset n vk' vv' vc') (fun k => nset n vk vv vc k ∨ w.heap.size ≤ k) ∧ Sub (nset a uk' uv' uc') (fun k => nset a uk uv uc k ∨ w.heap.size ≤ k) ∧ Sub (nset b tk' tv' tc') (fun k => nset b tk tv tc k ∨ w.heap.size ≤ k) ∧ Chg (fun k => nset n vk vv vc k ∨ nset a uk uv uc k ∨ nset b tk tv tc k) w w' := by
  subst hvi
  have ex0 := Hid.mk' (show (ks.map sv)[i]? = some (.string x) by rw [List.getElem?_map, hx]; rfl)
  have ex1 := Hid.mk' (show (vs.map iv)[i]? = some (.int .i64 y) by rw [List.getElem?_map, hy]; rfl)
  have ep0 := Hid.mk' (show (aks.map sv)[l]? = some (.string p) by rw [List.getElem?_map, hp]; rfl)
  have ep1 := Hid.mk' (show (avs.map iv)[l]? = some (.int .i64 r) by rw [List.getElem?_map, hr]; rfl)
  obtain ⟨ak, nk, ck, av, nv, cv, ac, nc, cc, rfl, rfl, rfl, lk0, lv0, lc0⟩ := hN.form'
  obtain ⟨ak0, nk0, ck0, av0, nv0, cv0, zc0, zn0, zk0, rfl, rfl, rfl, la0, la1, la2⟩ := hA.form'
  obtain ⟨ak1, nk1, ck1, av1, nv1, cv1, zc1, zn1, zk1, rfl, rfl, rfl, lb0, lb1, lb2⟩ := hB.form'
  obtain rfl : nk0 = l + 1 := la0.out.trans hak
  obtain rfl : nv0 = l + 1 := la1.out.trans hav
  obtain ⟨gk, rfl, _⟩ := hN.rk.at (by simp; omega)
  obtain ⟨gv, rfl, _⟩ := hN.rv.at (by simp; omega)
  obtain ⟨gc, rfl, _, ccell, _⟩ := hN.rc.at (by simp; omega)
  obtain ⟨hk, rfl, _⟩ := hA.rk.at (by simp; omega)
  obtain ⟨hv, rfl, _⟩ := hA.rv.at (by simp; omega)
  have capk := hA.rk.cap_le.2.1
  have capv := hA.rv.cap_le.2.1
  have b1 : (i : Int) < (nc : Int) := by have := lc0.out; omega
  have b2 : (i : Int) + 1 < (nc : Int) := by have := lc0.out; omega
  have b3 : (i : Int) < (nk : Int) := by have := lk0.out; omega
  have b4 : (i : Int) < (nv : Int) := by have := lv0.out; omega
  have i1000 : i ≤ 1000 := by omega
  have ln0 : Hid ((bks.map sv).length ≤ 1048576) := by show _ ≤ _; simp; omega
  have ln1 : Hid ((bvs.map iv).length ≤ 1048576) := by show _ ≤ _; simp; omega
  have ln2 : Hid ((bbs.map pv).length ≤ 1048576) := by show _ ≤ _; simp; omega
  have hnl := Hid.mk' hi
  replace hl1 := Hid.mk' hl1
  replace hl2 := Hid.mk' hl2
  replace hak := Hid.mk' hak
  replace hav := Hid.mk' hav
  have kC0 : Chg (fun k => nset n (.slice (some ⟨gk, 0, none⟩) nk ck) (.slice (some ⟨gv, 0, none⟩) nv cv) (.slice (some ⟨gc, 0, none⟩) nc cc) k ∨ nset a (.slice (some ⟨hk, 0, none⟩) (l + 1) ck0) (.slice (some ⟨hv, 0, none⟩) (l + 1) cv0) (.slice zc0 zn0 zk0) k ∨ nset b (.slice ak1 nk1 ck1) (.slice av1 nv1 cv1) (.slice zc1 zn1 zk1) k) w w := Chg.refl _ _
  have sN0 : Sub (nset n (.slice (some ⟨gk, 0, none⟩) nk ck) (.slice (some ⟨gv, 0, none⟩) nv cv) (.slice (some ⟨gc, 0, none⟩) nc cc)) (fun k => nset n (.slice (some ⟨gk, 0, none⟩) nk ck) (.slice (some ⟨gv, 0, none⟩) nv cv) (.slice (some ⟨gc, 0, none⟩) nc cc) k ∨ w.heap.size ≤ k) := fun k h => .inl h
  have sA0 : Sub (nset a (.slice (some ⟨hk, 0, none⟩) (l + 1) ck0) (.slice (some ⟨hv, 0, none⟩) (l + 1) cv0) (.slice zc0 zn0 zk0)) (fun k => nset a (.slice (some ⟨hk, 0, none⟩) (l + 1) ck0) (.slice (some ⟨hv, 0, none⟩) (l + 1) cv0) (.slice zc0 zn0 zk0) k ∨ w.heap.size ≤ k) := fun k h => .inl h
  have sB0 : Sub (nset b (.slice ak1 nk1 ck1) (.slice av1 nv1 cv1) (.slice zc1 zn1 zk1)) (fun k => nset b (.slice ak1 nk1 ck1) (.slice av1 nv1 cv1) (.slice zc1 zn1 zk1) k ∨ w.heap.size ≤ k) := fun k h => .inl h
  have nN0 := Hid.mk' hN
  have nA0 := Hid.mk' hA
  have nB0 := Hid.mk' hB
  have aNA0 := Hid.mk' aNA
  have aNB0 := Hid.mk' aNB
  have aAB0 := Hid.mk' aAB
  have ce0' := Hid.mk' (show (bs.map pv)[i]? = some (.pointer (some ⟨a, 0, none⟩)) by rw [List.getElem?_map, ha]; rfl)
  have ce1' := Hid.mk' (show (bs.map pv)[i + 1]? = some (.pointer (some ⟨b, 0, none⟩)) by rw [List.getElem?_map, hb]; rfl)
  have hlack' := Hid.mk' hlack
  have hab' := Hid.mk' hab
  have hZ' := Hid.mk' hZ
  clear hab hZ
  clear hN hA hB aNA aNB aAB hi ha hb hx hy hp hr hbk hbv hbb hlack ccell
  replace kC0 := Hid.mk' kC0
  replace sN0 := Hid.mk' sN0
  replace sA0 := Hid.mk' sA0
  replace sB0 := Hid.mk' sB0
  go_enter Try.func40, Try.ntmps40
  go_upto_region 3 with (go_at_call 52; refine hlack'.out.mono ?_; rintro e W1 ⟨rfl, kl⟩)
  have kk1 : Chg NoB w W1 := by exact kl
  have nN1 := nN0.out.chg kk1 (fun _ _ h => h)
  have nA1 := nA0.out.chg kk1 (fun _ _ h => h)
  have nB1 := nB0.out.chg kk1 (fun _ _ h => h)
  have aNA1 := aNA0.out
  have aNB1 := aNB0.out
  have aAB1 := aAB0.out
  have sN1 := sN0.out
  have sA1 := sA0.out
  have sB1 := sB0.out
  have kC1 := kC0.out.trans' kk1 (fun _ h => h.elim)
  replace kk1 := Hid.mk' kk1
  replace nN1 := Hid.mk' nN1
  replace nA1 := Hid.mk' nA1
  replace nB1 := Hid.mk' nB1
  replace sN1 := Hid.mk' sN1
  replace sA1 := Hid.mk' sA1
  replace sB1 := Hid.mk' sB1
  replace aNA1 := Hid.mk' aNA1
  replace aNB1 := Hid.mk' aNB1
  replace aAB1 := Hid.mk' aAB1
  replace kC1 := Hid.mk' kC1
  clear kl
  have cc2 := nN1.out.c2
  have ce0 : W1.cell? ⟨gc, i, none⟩ = some (.pointer (some ⟨a, 0, none⟩)) := by
    obtain ⟨_, h, _, hc, _⟩ := nN1.out.rc.at (by have := hl2.out; simp; omega)
    cases h
    exact hc _ _ ce0'.out
  have ce1 : W1.cell? ⟨gc, i + 1, none⟩ = some (.pointer (some ⟨b, 0, none⟩)) := by
    obtain ⟨_, h, _, hc, _⟩ := nN1.out.rc.at (by have := hl2.out; simp; omega)
    cases h
    exact hc _ _ ce1'.out
  have w1 : IntKind.i64.wrap ((i : Int) + 1 - 1) = (i : Int) := by rw [IntKind.wrap_i64]; omega
  have w2 : (0 : Int) ≤ (i : Int) + 1 := by omega
  have w4 : ((i : Int) + 1).toNat = i + 1 := by omega
  have w5 : ((i : Int) + 1 - 1) = (i : Int) := by omega
  have w6 : IntKind.i64.wrap (i : Int) = (i : Int) := by rw [IntKind.wrap_i64]; omega
  refine start_ (n := 17) (S := fun w' => w'.cell? ⟨n, 2, none⟩ = some (.slice (some ⟨gc, 0, none⟩) nc cc) ∧ w'.cell? ⟨gc, i, none⟩ = some (.pointer (some ⟨a, 0, none⟩)) ∧ w'.cell? ⟨gc, i + 1, none⟩ = some (.pointer (some ⟨b, 0, none⟩))) (ds := []) #[false, false, false, false, false, false, false, false, false, false, false, false, false, false, false, false, false] (by kernel_rfl) rfl rfl ⟨cc2, ce0, ce1⟩ (fun hHeld => ?_)
  refine pure_ (i := 0) (N := some 18) (v := ?_) (a' := ?_) #[true, false, false, false, false, false, false, false, false, false, false, false, false, false, false, false, false] rfl rfl (by kernel_rfl) (fun _ _ _ h => h) (Or.inl ⟨by rfl, ?_⟩) ?_ ?_
  rotate_left
  · intro w'
    go_simp
    with_reducible rfl
  rotate_left
  · simp only [Act.put, List.setIfInBounds_toArray, List.set_cons_zero, List.set_cons_succ, i64_w, i32_w]
    rfl
  refine pure_ (i := 1) (N := some 19) (v := ?_) (a' := ?_) #[true, true, false, false, false, false, false, false, false, false, false, false, false, false, false, false, false] rfl rfl (by kernel_rfl) (fun _ _ _ h => h) (Or.inl ⟨by rfl, ?_⟩) ?_ ?_
  rotate_left
  · intro w'
    go_simp
    with_reducible rfl
  rotate_left
  · simp only [Act.put, List.setIfInBounds_toArray, List.set_cons_zero, List.set_cons_succ, i64_w, i32_w]
    rfl
  refine pure_ (i := 2) (N := some 20) (v := ?_) (a' := ?_) #[true, true, true, false, false, false, false, false, false, false, false, false, false, false, false, false, false] rfl rfl (by kernel_rfl) (fun _ _ _ h => h) (Or.inl ⟨by rfl, ?_⟩) ?_ ?_
  rotate_left
  · intro w'
    go_simp
    with_reducible rfl
  rotate_left
  · simp only [Act.put, List.setIfInBounds_toArray, List.set_cons_zero, List.set_cons_succ, i64_w, i32_w]
    rfl
  refine pure_ (i := 4) (N := some 22) (v := ?_) (a' := ?_) #[true, true, true, false, true, false, false, false, false, false, false, false, false, false, false, false, false] rfl rfl (by kernel_rfl) (fun _ _ _ h => h) (Or.inl ⟨by rfl, ?_⟩) ?_ ?_
  rotate_left
  · intro w'
    go_simp
    with_reducible rfl
  rotate_left
  · simp only [Act.put, List.setIfInBounds_toArray, List.set_cons_zero, List.set_cons_succ, i64_w, i32_w]
    rfl
  refine pure_ (i := 5) (N := some 23) (v := ?_) (a' := ?_) #[true, true, true, false, true, true, false, false, false, false, false, false, false, false, false, false, false] rfl rfl (by kernel_rfl) (fun _ _ _ h => h) (Or.inl ⟨by rfl, ?_⟩) ?_ ?_
  rotate_left
  · intro w'
    go_simp
    with_reducible rfl
  rotate_left
  · simp only [Act.put, List.setIfInBounds_toArray, List.set_cons_zero, List.set_cons_succ, i64_w, i32_w]
    rfl
  refine pure_ (i := 8) (N := some 26) (v := ?_) (a' := ?_) #[true, true, true, false, true, true, false, false, true, false, false, false, false, false, false, false, false] rfl rfl (by kernel_rfl) (fun _ _ _ h => h) (Or.inl ⟨by rfl, ?_⟩) ?_ ?_
  rotate_left
  · intro w'
    go_simp
    with_reducible rfl
  rotate_left
  · simp only [Act.put, List.setIfInBounds_toArray, List.set_cons_zero, List.set_cons_succ, i64_w, i32_w]
    rfl
  refine pure_ (i := 9) (N := some 27) (v := ?_) (a' := ?_) #[true, true, true, false, true, true, false, false, true, true, false, false, false, false, false, false, false] rfl rfl (by kernel_rfl) (fun _ _ _ h => h) (Or.inl ⟨by rfl, ?_⟩) ?_ ?_
  rotate_left
  · intro w'
    go_simp
    with_reducible rfl
  rotate_left
  · simp only [Act.put, List.setIfInBounds_toArray, List.set_cons_zero, List.set_cons_succ, i64_w, i32_w]
    rfl
  refine pure_ (i := 10) (N := some 28) (v := ?_) (a' := ?_) #[true, true, true, false, true, true, false, false, true, true, true, false, false, false, false, false, false] rfl rfl (by kernel_rfl) (fun _ _ _ h => h) (Or.inl ⟨by rfl, ?_⟩) ?_ ?_
  rotate_left
  · intro w'
    go_simp
    with_reducible rfl
  rotate_left
  · simp only [Act.put, List.setIfInBounds_toArray, List.set_cons_zero, List.set_cons_succ, i64_w, i32_w]
    rfl
  refine pure_ (i := 12) (N := some 30) (v := ?_) (a' := ?_) #[true, true, true, false, true, true, false, false, true, true, true, false, true, false, false, false, false] rfl rfl (by kernel_rfl) (fun _ _ _ h => h) (Or.inl ⟨by rfl, ?_⟩) ?_ ?_
  rotate_left
  · intro w'
    go_simp
    with_reducible rfl
  rotate_left
  · simp only [Act.put, List.setIfInBounds_toArray, List.set_cons_zero, List.set_cons_succ, i64_w, i32_w]
    rfl
  refine take_ (i := 3) (N := some 21) (v := ?_) (a' := ?_) #[true, true, true, true, true, true, false, false, true, true, true, false, true, false, false, false, false] rfl rfl (by kernel_rfl) (fun _ _ _ h => h) (Or.inl ⟨by rfl, ?_⟩) hHeld ?_ ?_
  rotate_left
  · rintro w' ⟨s0, s1, s2⟩
    go_simp
    with_reducible rfl
  rotate_left
  · simp only [Act.put, List.setIfInBounds_toArray, List.set_cons_zero, List.set_cons_succ, i64_w, i32_w]
    rfl
  refine pure_ (i := 6) (N := some 24) (v := ?_) (a' := ?_) #[true, true, true, true, true, true, true, false, true, true, true, false, true, false, false, false, false] rfl rfl (by kernel_rfl) (fun _ _ _ h => h) (Or.inl ⟨by rfl, ?_⟩) ?_ ?_
  rotate_left
  · intro w'
    go_simp
    with_reducible rfl
  rotate_left
  · simp only [Act.put, List.setIfInBounds_toArray, List.set_cons_zero, List.set_cons_succ, i64_w, i32_w]
    rfl
  refine take_ (i := 7) (N := some 25) (v := ?_) (a' := ?_) #[true, true, true, true, true, true, true, true, true, true, true, false, true, false, false, false, false] rfl rfl (by kernel_rfl) (fun _ _ _ h => h) (Or.inl ⟨by rfl, ?_⟩) hHeld ?_ ?_
  rotate_left
  · rintro w' ⟨s0, s1, s2⟩
    go_simp
    with_reducible rfl
  rotate_left
  · simp only [Act.put, List.setIfInBounds_toArray, List.set_cons_zero, List.set_cons_succ, i64_w, i32_w]
    rfl
  refine pure_ (i := 15) (N := some 7) (v := ?_) (a' := ?_) #[true, true, true, true, true, true, true, true, true, true, true, false, true, false, false, true, false] rfl rfl (by kernel_rfl) (fun _ _ _ h => h) (Or.inl ⟨by rfl, ?_⟩) ?_ ?_
  rotate_left
  · intro w'
    go_simp
    with_reducible rfl
  rotate_left
  · simp only [Act.put, List.setIfInBounds_toArray, List.set_cons_zero, List.set_cons_succ, i64_w, i32_w]
    rfl
  refine take_ (i := 11) (N := some 29) (v := ?_) (a' := ?_) #[true, true, true, true, true, true, true, true, true, true, true, true, true, false, false, true, false] rfl rfl (by kernel_rfl) (fun _ _ _ h => h) (Or.inl ⟨by rfl, ?_⟩) hHeld ?_ ?_
  rotate_left
  · rintro w' ⟨s0, s1, s2⟩
    go_simp
    with_reducible rfl
  rotate_left
  · simp only [Act.put, List.setIfInBounds_toArray, List.set_cons_zero, List.set_cons_succ, i64_w, i32_w]
    rfl
  refine pure_ (i := 13) (N := some 31) (v := ?_) (a' := ?_) #[true, true, true, true, true, true, true, true, true, true, true, true, true, true, false, true, false] rfl rfl (by kernel_rfl) (fun _ _ _ h => h) (Or.inl ⟨by rfl, ?_⟩) ?_ ?_
  rotate_left
  · intro w'
    go_simp
    with_reducible rfl
  rotate_left
  · simp only [Act.put, List.setIfInBounds_toArray, List.set_cons_zero, List.set_cons_succ, i64_w, i32_w]
    rfl
  refine take_ (i := 14) (N := some 32) (v := ?_) (a' := ?_) #[true, true, true, true, true, true, true, true, true, true, true, true, true, true, true, true, false] rfl rfl (by kernel_rfl) (fun _ _ _ h => h) (Or.inl ⟨by rfl, ?_⟩) hHeld ?_ ?_
  rotate_left
  · rintro w' ⟨s0, s1, s2⟩
    go_simp
    with_reducible rfl
  rotate_left
  · simp only [Act.put, List.setIfInBounds_toArray, List.set_cons_zero, List.set_cons_succ, i64_w, i32_w]
    rfl
  refine pure_ (i := 16) (N := some 8) (v := ?_) (a' := ?_) #[true, true, true, true, true, true, true, true, true, true, true, true, true, true, true, true, true] rfl rfl (by kernel_rfl) (fun _ _ _ h => h) (Or.inl ⟨by rfl, ?_⟩) ?_ ?_
  rotate_left
  · intro w'
    go_simp
    with_reducible rfl
  rotate_left
  · simp only [Act.put, List.setIfInBounds_toArray, List.set_cons_zero, List.set_cons_succ, i64_w, i32_w]
    rfl
  refine done_ (by kernel_rfl) ?_
  go_upto_region 4 with (fail)
  obtain ⟨W2, hW2⟩ : ∃ W2, W2 = W1.drew := ⟨_, rfl⟩
  rw [← hW2]
  have kk2 : Chg NoB W1 W2 := by rw [hW2]; exact (Chg.refl _ _).drew
  have nN2 := nN1.out.chg kk2 (fun _ _ h => h)
  have nA2 := nA1.out.chg kk2 (fun _ _ h => h)
  have nB2 := nB1.out.chg kk2 (fun _ _ h => h)
  have aNA2 := aNA1.out
  have aNB2 := aNB1.out
  have aAB2 := aAB1.out
  have sN2 := sN1.out
  have sA2 := sA1.out
  have sB2 := sB1.out
  have kC2 := kC1.out.trans' kk2 (fun _ h => h.elim)
  replace hW2 := Hid.mk' hW2
  replace kk2 := Hid.mk' kk2
  replace nN2 := Hid.mk' nN2
  replace nA2 := Hid.mk' nA2
  replace nB2 := Hid.mk' nB2
  replace sN2 := Hid.mk' sN2
  replace sA2 := Hid.mk' sA2
  replace sB2 := Hid.mk' sB2
  replace aNA2 := Hid.mk' aNA2
  replace aNB2 := Hid.mk' aNB2
  replace aAB2 := Hid.mk' aAB2
  replace kC2 := Hid.mk' kC2
  clear cc2 ce0 ce1
  have ac0 := nA2.out.c0
  go_upto_region 5 with (fail)
  clear ac0
  have bc0 := nB2.out.c0
  have bc1 := nB2.out.c1
  have bblk := Hid.mk' nB2.out.blk
  have nc0 := nN2.out.c0
  have nc1 := nN2.out.c1
  have ec0 : W2.cell? ⟨gk, i, none⟩ = some (.string x) := by
    obtain ⟨_, h, _, hc, _⟩ := nN2.out.rk.at (by have := hnl.out; simp; omega)
    cases h
    exact hc _ _ ex0.out
  have ec1 : W2.cell? ⟨gv, i, none⟩ = some (.int .i64 y) := by
    obtain ⟨_, h, _, hc, _⟩ := nN2.out.rv.at (by have := hnl.out; have := hl1.out; simp; omega)
    cases h
    exact hc _ _ ex1.out
  have RB0 := Hid.mk' nB2.out.rk
  have RB1 := Hid.mk' nB2.out.rv
  have qb0 : Hid (¬ own (.slice ak1 nk1 ck1) b) := RB0.out.ne bblk.out (by decide)
  have qb1 : Hid (¬ own (.slice av1 nv1 cv1) b) := RB1.out.ne bblk.out (by decide)
  have qn0 : Hid (¬ own (.slice ak1 nk1 ck1) n) := fun h => aNB2.out n (.inl rfl) (.inr (.inl h))
  have qn1 : Hid (¬ own (.slice av1 nv1 cv1) n) := fun h => aNB2.out n (.inl rfl) (.inr (.inr (.inl h)))
  have qgk0 : Hid (¬ own (.slice ak1 nk1 ck1) gk) := fun h => aNB2.out gk (.inr (.inl rfl)) (.inr (.inl h))
  have qgk1 : Hid (¬ own (.slice av1 nv1 cv1) gk) := fun h => aNB2.out gk (.inr (.inl rfl)) (.inr (.inr (.inl h)))
  have qgv0 : Hid (¬ own (.slice ak1 nk1 ck1) gv) := fun h => aNB2.out gv (.inr (.inr (.inl rfl))) (.inr (.inl h))
  have qgv1 : Hid (¬ own (.slice av1 nv1 cv1) gv) := fun h => aNB2.out gv (.inr (.inr (.inl rfl))) (.inr (.inr (.inl h)))
  refine start_ (n := 36) (S := fun w' => w'.cell? ⟨b, 0, none⟩ = some (.slice ak1 nk1 ck1) ∧ w'.cell? ⟨b, 1, none⟩ = some (.slice av1 nv1 cv1) ∧ w'.cell? ⟨n, 0, none⟩ = some (.slice (some ⟨gk, 0, none⟩) nk ck) ∧ w'.cell? ⟨n, 1, none⟩ = some (.slice (some ⟨gv, 0, none⟩) nv cv) ∧ w'.cell? ⟨gk, i, none⟩ = some (.string x) ∧ w'.cell? ⟨gv, i, none⟩ = some (.int .i64 y)) (ds := [32, 35]) #[false, false, false, false, false, false, false, false, false, false, false, false, false, false, false, false, false, false, false, false, false, false, false, false, false, false, false, false, false, false, false, false, false, false, false, false] (by kernel_rfl) rfl rfl ⟨bc0, bc1, nc0, nc1, ec0, ec1⟩ (fun hHeld => ?_)
  refine pure_ (i := 0) (N := some 39) (v := ?_) (a' := ?_) #[true, false, false, false, false, false, false, false, false, false, false, false, false, false, false, false, false, false, false, false, false, false, false, false, false, false, false, false, false, false, false, false, false, false, false, false] rfl rfl (by kernel_rfl) (fun _ _ _ h => h) (Or.inl ⟨by rfl, ?_⟩) ?_ ?_
  rotate_left
  · intro w'
    go_simp
    with_reducible rfl
  rotate_left
  · simp only [Act.put, List.setIfInBounds_toArray, List.set_cons_zero, List.set_cons_succ, i64_w, i32_w]
    rfl
  refine pure_ (i := 1) (N := some 40) (v := ?_) (a' := ?_) #[true, true, false, false, false, false, false, false, false, false, false, false, false, false, false, false, false, false, false, false, false, false, false, false, false, false, false, false, false, false, false, false, false, false, false, false] rfl rfl (by kernel_rfl) (fun _ _ _ h => h) (Or.inl ⟨by rfl, ?_⟩) ?_ ?_
  rotate_left
  · intro w'
    go_simp
    with_reducible rfl
  rotate_left
  · simp only [Act.put, List.setIfInBounds_toArray, List.set_cons_zero, List.set_cons_succ, i64_w, i32_w]
    rfl
  refine pure_ (i := 2) (N := some 41) (v := ?_) (a' := ?_) #[true, true, true, false, false, false, false, false, false, false, false, false, false, false, false, false, false, false, false, false, false, false, false, false, false, false, false, false, false, false, false, false, false, false, false, false] rfl rfl (by kernel_rfl) (fun _ _ _ h => h) (Or.inl ⟨by rfl, ?_⟩) ?_ ?_
  rotate_left
  · intro w'
    go_simp
    with_reducible rfl
  rotate_left
  · simp only [Act.put, List.setIfInBounds_toArray, List.set_cons_zero, List.set_cons_succ, i64_w, i32_w]
    rfl
  refine pure_ (i := 3) (N := some 42) (v := ?_) (a' := ?_) #[true, true, true, true, false, false, false, false, false, false, false, false, false, false, false, false, false, false, false, false, false, false, false, false, false, false, false, false, false, false, false, false, false, false, false, false] rfl rfl (by kernel_rfl) (fun _ _ _ h => h) (Or.inl ⟨by rfl, ?_⟩) ?_ ?_
  rotate_left
  · intro w'
    go_simp
    with_reducible rfl
  rotate_left
  · simp only [Act.put, List.setIfInBounds_toArray, List.set_cons_zero, List.set_cons_succ, i64_w, i32_w]
    rfl
  refine pure_ (i := 4) (N := some 43) (v := ?_) (a' := ?_) #[true, true, true, true, true, false, false, false, false, false, false, false, false, false, false, false, false, false, false, false, false, false, false, false, false, false, false, false, false, false, false, false, false, false, false, false] rfl rfl (by kernel_rfl) (fun _ _ _ h => h) (Or.inl ⟨by rfl, ?_⟩) ?_ ?_
  rotate_left
  · intro w'
    go_simp
    with_reducible rfl
  rotate_left
  · simp only [Act.put, List.setIfInBounds_toArray, List.set_cons_zero, List.set_cons_succ, i64_w, i32_w]
    rfl
  refine pure_ (i := 6) (N := some 45) (v := ?_) (a' := ?_) #[true, true, true, true, true, false, true, false, false, false, false, false, false, false, false, false, false, false, false, false, false, false, false, false, false, false, false, false, false, false, false, false, false, false, false, false] rfl rfl (by kernel_rfl) (fun _ _ _ h => h) (Or.inl ⟨by rfl, ?_⟩) ?_ ?_
  rotate_left
  · intro w'
    go_simp
    with_reducible rfl
  rotate_left
  · simp only [Act.put, List.setIfInBounds_toArray, List.set_cons_zero, List.set_cons_succ, i64_w, i32_w]
    rfl
  refine pure_ (i := 7) (N := some 46) (v := ?_) (a' := ?_) #[true, true, true, true, true, false, true, true, false, false, false, false, false, false, false, false, false, false, false, false, false, false, false, false, false, false, false, false, false, false, false, false, false, false, false, false] rfl rfl (by kernel_rfl) (fun _ _ _ h => h) (Or.inl ⟨by rfl, ?_⟩) ?_ ?_
  rotate_left
  · intro w'
    go_simp
    with_reducible rfl
  rotate_left
  · simp only [Act.put, List.setIfInBounds_toArray, List.set_cons_zero, List.set_cons_succ, i64_w, i32_w]
    rfl
  refine pure_ (i := 8) (N := some 47) (v := ?_) (a' := ?_) #[true, true, true, true, true, false, true, true, true, false, false, false, false, false, false, false, false, false, false, false, false, false, false, false, false, false, false, false, false, false, false, false, false, false, false, false] rfl rfl (by kernel_rfl) (fun _ _ _ h => h) (Or.inl ⟨by rfl, ?_⟩) ?_ ?_
  rotate_left
  · intro w'
    go_simp
    with_reducible rfl
  rotate_left
  · simp only [Act.put, List.setIfInBounds_toArray, List.set_cons_zero, List.set_cons_succ, i64_w, i32_w]
    rfl
  refine pure_ (i := 10) (N := some 49) (v := ?_) (a' := ?_) #[true, true, true, true, true, false, true, true, true, false, true, false, false, false, false, false, false, false, false, false, false, false, false, false, false, false, false, false, false, false, false, false, false, false, false, false] rfl rfl (by kernel_rfl) (fun _ _ _ h => h) (Or.inl ⟨by rfl, ?_⟩) ?_ ?_
  rotate_left
  · intro w'
    go_simp
    with_reducible rfl
  rotate_left
  · simp only [Act.put, List.setIfInBounds_toArray, List.set_cons_zero, List.set_cons_succ, i64_w, i32_w]
    rfl
  refine pure_ (i := 11) (N := some 50) (v := ?_) (a' := ?_) #[true, true, true, true, true, false, true, true, true, false, true, true, false, false, false, false, false, false, false, false, false, false, false, false, false, false, false, false, false, false, false, false, false, false, false, false] rfl rfl (by kernel_rfl) (fun _ _ _ h => h) (Or.inl ⟨by rfl, ?_⟩) ?_ ?_
  rotate_left
  · intro w'
    go_simp
    with_reducible rfl
  rotate_left
  · simp only [Act.put, List.setIfInBounds_toArray, List.set_cons_zero, List.set_cons_succ, i64_w, i32_w]
    rfl
  refine pure_ (i := 16) (N := some 55) (v := ?_) (a' := ?_) #[true, true, true, true, true, false, true, true, true, false, true, true, false, false, false, false, true, false, false, false, false, false, false, false, false, false, false, false, false, false, false, false, false, false, false, false] rfl rfl (by kernel_rfl) (fun _ _ _ h => h) (Or.inl ⟨by rfl, ?_⟩) ?_ ?_
  rotate_left
  · intro w'
    go_simp
    with_reducible rfl
  rotate_left
  · simp only [Act.put, List.setIfInBounds_toArray, List.set_cons_zero, List.set_cons_succ, i64_w, i32_w]
    rfl
  refine pure_ (i := 17) (N := some 56) (v := ?_) (a' := ?_) #[true, true, true, true, true, false, true, true, true, false, true, true, false, false, false, false, true, true, false, false, false, false, false, false, false, false, false, false, false, false, false, false, false, false, false, false] rfl rfl (by kernel_rfl) (fun _ _ _ h => h) (Or.inl ⟨by rfl, ?_⟩) ?_ ?_
  rotate_left
  · intro w'
    go_simp
    with_reducible rfl
  rotate_left
  · simp only [Act.put, List.setIfInBounds_toArray, List.set_cons_zero, List.set_cons_succ, i64_w, i32_w]
    rfl
  refine pure_ (i := 18) (N := some 57) (v := ?_) (a' := ?_) #[true, true, true, true, true, false, true, true, true, false, true, true, false, false, false, false, true, true, true, false, false, false, false, false, false, false, false, false, false, false, false, false, false, false, false, false] rfl rfl (by kernel_rfl) (fun _ _ _ h => h) (Or.inl ⟨by rfl, ?_⟩) ?_ ?_
  rotate_left
  · intro w'
    go_simp
    with_reducible rfl
  rotate_left
  · simp only [Act.put, List.setIfInBounds_toArray, List.set_cons_zero, List.set_cons_succ, i64_w, i32_w]
    rfl
  refine pure_ (i := 20) (N := some 59) (v := ?_) (a' := ?_) #[true, true, true, true, true, false, true, true, true, false, true, true, false, false, false, false, true, true, true, false, true, false, false, false, false, false, false, false, false, false, false, false, false, false, false, false] rfl rfl (by kernel_rfl) (fun _ _ _ h => h) (Or.inl ⟨by rfl, ?_⟩) ?_ ?_
  rotate_left
  · intro w'
    go_simp
    with_reducible rfl
  rotate_left
  · simp only [Act.put, List.setIfInBounds_toArray, List.set_cons_zero, List.set_cons_succ, i64_w, i32_w]
    rfl
  refine pure_ (i := 21) (N := some 60) (v := ?_) (a' := ?_) #[true, true, true, true, true, false, true, true, true, false, true, true, false, false, false, false, true, true, true, false, true, true, false, false, false, false, false, false, false, false, false, false, false, false, false, false] rfl rfl (by kernel_rfl) (fun _ _ _ h => h) (Or.inl ⟨by rfl, ?_⟩) ?_ ?_
  rotate_left
  · intro w'
    go_simp
    with_reducible rfl
  rotate_left
  · simp only [Act.put, List.setIfInBounds_toArray, List.set_cons_zero, List.set_cons_succ, i64_w, i32_w]
    rfl
  refine pure_ (i := 22) (N := some 61) (v := ?_) (a' := ?_) #[true, true, true, true, true, false, true, true, true, false, true, true, false, false, false, false, true, true, true, false, true, true, true, false, false, false, false, false, false, false, false, false, false, false, false, false] rfl rfl (by kernel_rfl) (fun _ _ _ h => h) (Or.inl ⟨by rfl, ?_⟩) ?_ ?_
  rotate_left
  · intro w'
    go_simp
    with_reducible rfl
  rotate_left
  · simp only [Act.put, List.setIfInBounds_toArray, List.set_cons_zero, List.set_cons_succ, i64_w, i32_w]
    rfl
  refine pure_ (i := 24) (N := some 63) (v := ?_) (a' := ?_) #[true, true, true, true, true, false, true, true, true, false, true, true, false, false, false, false, true, true, true, false, true, true, true, false, true, false, false, false, false, false, false, false, false, false, false, false] rfl rfl (by kernel_rfl) (fun _ _ _ h => h) (Or.inl ⟨by rfl, ?_⟩) ?_ ?_
  rotate_left
  · intro w'
    go_simp
    with_reducible rfl
  rotate_left
  · simp only [Act.put, List.setIfInBounds_toArray, List.set_cons_zero, List.set_cons_succ, i64_w, i32_w]
    rfl
  refine pure_ (i := 25) (N := some 64) (v := ?_) (a' := ?_) #[true, true, true, true, true, false, true, true, true, false, true, true, false, false, false, false, true, true, true, false, true, true, true, false, true, true, false, false, false, false, false, false, false, false, false, false] rfl rfl (by kernel_rfl) (fun _ _ _ h => h) (Or.inl ⟨by rfl, ?_⟩) ?_ ?_
  rotate_left
  · intro w'
    go_simp
    with_reducible rfl
  rotate_left
  · simp only [Act.put, List.setIfInBounds_toArray, List.set_cons_zero, List.set_cons_succ, i64_w, i32_w]
    rfl
  refine take_ (i := 5) (N := some 44) (v := ?_) (a' := ?_) #[true, true, true, true, true, true, true, true, true, false, true, true, false, false, false, false, true, true, true, false, true, true, true, false, true, true, false, false, false, false, false, false, false, false, false, false] rfl rfl (by kernel_rfl) (fun _ _ _ h => h) (Or.inl ⟨by rfl, ?_⟩) hHeld ?_ ?_
  rotate_left
  · rintro w' ⟨s0, s1, s2, s3, s4, s5⟩
    go_simp
    with_reducible rfl
  rotate_left
  · simp only [Act.put, List.setIfInBounds_toArray, List.set_cons_zero, List.set_cons_succ, i64_w, i32_w]
    rfl
  refine take_ (i := 9) (N := some 48) (v := ?_) (a' := ?_) #[true, true, true, true, true, true, true, true, true, true, true, true, false, false, false, false, true, true, true, false, true, true, true, false, true, true, false, false, false, false, false, false, false, false, false, false] rfl rfl (by kernel_rfl) (fun _ _ _ h => h) (Or.inl ⟨by rfl, ?_⟩) hHeld ?_ ?_
  rotate_left
  · rintro w' ⟨s0, s1, s2, s3, s4, s5⟩
    go_simp
    with_reducible rfl
  rotate_left
  · simp only [Act.put, List.setIfInBounds_toArray, List.set_cons_zero, List.set_cons_succ, i64_w, i32_w]
    rfl
  refine pure_ (i := 12) (N := some 51) (v := ?_) (a' := ?_) #[true, true, true, true, true, true, true, true, true, true, true, true, true, false, false, false, true, true, true, false, true, true, true, false, true, true, false, false, false, false, false, false, false, false, false, false] rfl rfl (by kernel_rfl) (fun _ _ _ h => h) (Or.inl ⟨by rfl, ?_⟩) ?_ ?_
  rotate_left
  · intro w'
    go_simp
    with_reducible rfl
  rotate_left
  · simp only [Act.put, List.setIfInBounds_toArray, List.set_cons_zero, List.set_cons_succ, i64_w, i32_w]
    rfl
  refine take_ (i := 13) (N := some 52) (v := ?_) (a' := ?_) #[true, true, true, true, true, true, true, true, true, true, true, true, true, true, false, false, true, true, true, false, true, true, true, false, true, true, false, false, false, false, false, false, false, false, false, false] rfl rfl (by kernel_rfl) (fun _ _ _ h => h) (Or.inl ⟨by rfl, ?_⟩) hHeld ?_ ?_
  rotate_left
  · rintro w' ⟨s0, s1, s2, s3, s4, s5⟩
    go_simp
    with_reducible rfl
  rotate_left
  · simp only [Act.put, List.setIfInBounds_toArray, List.set_cons_zero, List.set_cons_succ, i64_w, i32_w]
    rfl
  refine take_ (i := 19) (N := some 58) (v := ?_) (a' := ?_) #[true, true, true, true, true, true, true, true, true, true, true, true, true, true, false, false, true, true, true, true, true, true, true, false, true, true, false, false, false, false, false, false, false, false, false, false] rfl rfl (by kernel_rfl) (fun _ _ _ h => h) (Or.inl ⟨by rfl, ?_⟩) hHeld ?_ ?_
  rotate_left
  · rintro w' ⟨s0, s1, s2, s3, s4, s5⟩
    go_simp
    with_reducible rfl
  rotate_left
  · simp only [Act.put, List.setIfInBounds_toArray, List.set_cons_zero, List.set_cons_succ, i64_w, i32_w]
    rfl
  refine take_ (i := 23) (N := some 62) (v := ?_) (a' := ?_) #[true, true, true, true, true, true, true, true, true, true, true, true, true, true, false, false, true, true, true, true, true, true, true, true, true, true, false, false, false, false, false, false, false, false, false, false] rfl rfl (by kernel_rfl) (fun _ _ _ h => h) (Or.inl ⟨by rfl, ?_⟩) hHeld ?_ ?_
  rotate_left
  · rintro w' ⟨s0, s1, s2, s3, s4, s5⟩
    go_simp
    with_reducible rfl
  rotate_left
  · simp only [Act.put, List.setIfInBounds_toArray, List.set_cons_zero, List.set_cons_succ, i64_w, i32_w]
    rfl
  refine pure_ (i := 26) (N := some 65) (v := ?_) (a' := ?_) #[true, true, true, true, true, true, true, true, true, true, true, true, true, true, false, false, true, true, true, true, true, true, true, true, true, true, true, false, false, false, false, false, false, false, false, false] rfl rfl (by kernel_rfl) (fun _ _ _ h => h) (Or.inl ⟨by rfl, ?_⟩) ?_ ?_
  rotate_left
  · intro w'
    go_simp
    with_reducible rfl
  rotate_left
  · simp only [Act.put, List.setIfInBounds_toArray, List.set_cons_zero, List.set_cons_succ, i64_w, i32_w]
    rfl
  refine take_ (i := 27) (N := some 66) (v := ?_) (a' := ?_) #[true, true, true, true, true, true, true, true, true, true, true, true, true, true, false, false, true, true, true, true, true, true, true, true, true, true, true, true, false, false, false, false, false, false, false, false] rfl rfl (by kernel_rfl) (fun _ _ _ h => h) (Or.inl ⟨by rfl, ?_⟩) hHeld ?_ ?_
  rotate_left
  · rintro w' ⟨s0, s1, s2, s3, s4, s5⟩
    go_simp
    with_reducible rfl
  rotate_left
  · simp only [Act.put, List.setIfInBounds_toArray, List.set_cons_zero, List.set_cons_succ, i64_w, i32_w]
    rfl
  refine join_ (σ := Nat × Nat × (Option Addr × Nat × Nat)) 7 #[true, true, true, true, true, true, true, true, true, true, true, true, true, true, true, true, true, true, true, true, true, true, true, true, true, true, true, true, true, false, false, false, false, false, false, false] (fun s => [(53, .slice (some ⟨s.1, 0, none⟩) 1 1), (54, .slice s.2.2.1 s.2.2.2.1 s.2.2.2.2), (67, .slice (some ⟨s.2.1, 0, none⟩) 1 1)]) (Half W2 9 3 (.slice ak1 nk1 ck1) ((x :: bks).map sv) (.int .i64 y)) ?_ ?_
  rotate_left
  · intro hCont
    refine two_ (i := 14) (j := 28) (Ni := some 53) (Nj := some 67) #[true, true, true, true, true, true, true, true, true, true, true, true, true, true, true, false, true, true, true, true, true, true, true, true, true, true, true, true, false, false, false, false, false, false, false, false] #[true, true, true, true, true, true, true, true, true, true, true, true, true, true, false, false, true, true, true, true, true, true, true, true, true, true, true, true, true, false, false, false, false, false, false, false] rfl rfl rfl rfl (by kernel_rfl) (by decide) (by decide) (fun K hK => ?_) (fun K hK => ?_)
    · skip
      refine value_ (w1 := ?_) (v := ?_) (by rfl) rfl ?_ ?_
      rotate_left 2
      · go_simp
        constructor
        · rfl
        · rfl
      refine named fun X14 hX14 => ?_
      have kz14 : Hid (Chg NoB W2 X14) := by show Chg _ _ _; rw [hX14]; first | exact ((Chg.refl _ W2).alloc _).drew | exact (Chg.refl _ W2).alloc _
      have lit14_14 : Hid (Row X14 9 (.slice (some ⟨W2.heap.size, 0, none⟩) 1 1) [.string x]) := by show Row _ _ _ _; rw [hX14]; first | exact Row.lit _ _ _ | exact Row.litD _ _ _
      have blit14_14 : Hid (W2.heap.size ≤ W2.heap.size) := Nat.le_refl _
      clear hX14
      refine hK.out _ _ ⟨(kz14.out.cell (fun h => h) bc0), (kz14.out.cell (fun h => h) bc1), (kz14.out.cell (fun h => h) nc0), (kz14.out.cell (fun h => h) nc1), (kz14.out.cell (fun h => h) ec0), (kz14.out.cell (fun h => h) ec1)⟩ (fun hHeld => ?_)
      clear hK K
      refine norm_ (a' := ?_) ?_ ?_
      rotate_left
      · show Act.put _ (some 53) _ = _
        simp only [Act.put, List.setIfInBounds_toArray, List.set_cons_zero, List.set_cons_succ, i64_w, i32_w]
        rfl
      refine two_ (i := 15) (j := 28) (Ni := some 54) (Nj := some 67) #[true, true, true, true, true, true, true, true, true, true, true, true, true, true, true, true, true, true, true, true, true, true, true, true, true, true, true, true, false, false, false, false, false, false, false, false] #[true, true, true, true, true, true, true, true, true, true, true, true, true, true, true, false, true, true, true, true, true, true, true, true, true, true, true, true, true, false, false, false, false, false, false, false] rfl rfl rfl rfl (by kernel_rfl) (by decide) (by decide) (fun K hK => ?_) (fun K hK => ?_)
      · skip
        have Rc_14_15 := Hid.mk' (RB0.out.chg kz14.out (fun j a b => b.elim))
        refine goes_ Try.func46 (by kernel_rfl) rfl #[.slice ak1 nk1 ck1, .int .i64 0, .slice (some ⟨W2.heap.size, 0, none⟩) 1 1] (by rfl) rfl rfl (by simp only [List.map_toArray, List.map_cons, List.map_nil]; rfl) ?_
        with_reducible refine (insS (.slice ak1 nk1 ck1) 0 0 (W2.heap.size) (.string x) (bks.map sv) _ Rc_14_15.out (Nat.zero_le _) rfl lit14_14.out (fun h => by have h1 := RB0.out.lt h; have h2 := blit14_14.out; omega) rfl (map_sv_cell _) ln0.out).mono ?_
        rintro e X14_15 ⟨v_14_15, rfl, r_14_15, o_14_15, k_14_15⟩
        refine ⟨_, rfl, ?_⟩
        obtain ⟨a14_15, n14_15, c14_15, rfl, l14_15⟩ := r_14_15.form'
        have kz14_15 : Hid (Chg (own (.slice ak1 nk1 ck1)) W2 X14_15) := (kz14.out.mono fun _ h => h.elim).trans k_14_15
        have res_14_15 : Hid (Row X14_15 9 (.slice a14_15 n14_15 c14_15) ((x :: bks).map sv)) := (by simpa [sv, iv, pv] using r_14_15 : Row _ _ _ _)
        have ores_14_15 : Hid (∀ k, own (.slice a14_15 n14_15 c14_15) k → own (.slice ak1 nk1 ck1) k ∨ (W2.heap.size ≤ k ∧ k < X14_15.heap.size)) := fun k hk => (o_14_15 k hk).imp id fun h => ⟨Nat.le_trans kz14.out.size h.1, h.2⟩
        clear r_14_15 o_14_15 k_14_15
        refine hK.out _ _ ⟨(kz14_15.out.cell qb0.out bc0), (kz14_15.out.cell qb0.out bc1), (kz14_15.out.cell qn0.out nc0), (kz14_15.out.cell qn0.out nc1), (kz14_15.out.cell qgk0.out ec0), (kz14_15.out.cell qgv0.out ec1)⟩ (fun hHeld => ?_)
        clear hK K
        refine norm_ (a' := ?_) ?_ ?_
        rotate_left
        · show Act.put _ (some 54) _ = _
          simp only [Act.put, List.setIfInBounds_toArray, List.set_cons_zero, List.set_cons_succ, i64_w, i32_w]
          rfl
        refine one_ (i := 28) (N := some 67) #[true, true, true, true, true, true, true, true, true, true, true, true, true, true, true, true, true, true, true, true, true, true, true, true, true, true, true, true, true, false, false, false, false, false, false, false] rfl rfl (by kernel_rfl) (by decide) (fun K hK => ?_)
        refine value_ (w1 := ?_) (v := ?_) (by rfl) rfl ?_ ?_
        rotate_left 2
        · go_simp
          constructor
          · rfl
          · rfl
        refine named fun X14_15_28 hX14_15_28 => ?_
        have kz14_15_28 : Hid (Chg (own (.slice ak1 nk1 ck1)) W2 X14_15_28) := by show Chg _ _ _; rw [hX14_15_28]; first | exact kz14_15.out.alloc _ | exact (kz14_15.out.alloc _).drew
        have lit28_14_15_28 : Hid (Row X14_15_28 3 (.slice (some ⟨X14_15.heap.size, 0, none⟩) 1 1) [.int .i64 y]) := by show Row _ _ _ _; rw [hX14_15_28]; first | exact Row.lit _ _ _ | exact Row.litD _ _ _
        have blit28_14_15_28 : Hid (W2.heap.size ≤ X14_15.heap.size) := kz14_15.out.size
        have res_14_15_28 : Hid (Row X14_15_28 9 (.slice a14_15 n14_15 c14_15) ((x :: bks).map sv)) := by show Row _ _ _ _; rw [hX14_15_28]; first | exact Row.al res_14_15.out _ | exact Row.alD res_14_15.out _
        have ores_14_15_28 : Hid (∀ k, own (.slice a14_15 n14_15 c14_15) k → own (.slice ak1 nk1 ck1) k ∨ (W2.heap.size ≤ k ∧ k < X14_15_28.heap.size)) := fun k hk => (ores_14_15.out k hk).imp id fun h => ⟨h.1, Nat.lt_of_lt_of_le h.2 (by rw [hX14_15_28]; simp)⟩
        clear hX14_15_28
        refine hK.out _ _ ⟨(kz14_15_28.out.cell qb0.out bc0), (kz14_15_28.out.cell qb0.out bc1), (kz14_15_28.out.cell qn0.out nc0), (kz14_15_28.out.cell qn0.out nc1), (kz14_15_28.out.cell qgk0.out ec0), (kz14_15_28.out.cell qgv0.out ec1)⟩ (fun hHeld => ?_)
        clear hK K
        refine norm_ (a' := ?_) ?_ ?_
        rotate_left
        · show Act.put _ (some 67) _ = _
          simp only [Act.put, List.setIfInBounds_toArray, List.set_cons_zero, List.set_cons_succ, i64_w, i32_w]
          rfl
        exact norm_ (by simp only [putAll, Act.put, List.setIfInBounds_toArray, List.set_cons_zero, List.set_cons_succ]) (hCont (W2.heap.size, X14_15.heap.size, (a14_15, n14_15, c14_15)) _ ⟨res_14_15_28.out, lit28_14_15_28.out, ores_14_15_28.out, blit28_14_15_28.out, kz14_15_28.out⟩)
      · skip
        refine value_ (w1 := ?_) (v := ?_) (by rfl) rfl ?_ ?_
        rotate_left 2
        · go_simp
          constructor
          · rfl
          · rfl
        refine named fun X14_28 hX14_28 => ?_
        have kz14_28 : Hid (Chg NoB W2 X14_28) := by show Chg _ _ _; rw [hX14_28]; first | exact kz14.out.alloc _ | exact (kz14.out.alloc _).drew
        have lit28_14_28 : Hid (Row X14_28 3 (.slice (some ⟨X14.heap.size, 0, none⟩) 1 1) [.int .i64 y]) := by show Row _ _ _ _; rw [hX14_28]; first | exact Row.lit _ _ _ | exact Row.litD _ _ _
        have blit28_14_28 : Hid (W2.heap.size ≤ X14.heap.size) := kz14.out.size
        have lit14_14_28 : Hid (Row X14_28 9 (.slice (some ⟨W2.heap.size, 0, none⟩) 1 1) [.string x]) := by show Row _ _ _ _; rw [hX14_28]; first | exact Row.al lit14_14.out _ | exact Row.alD lit14_14.out _
        have blit14_14_28 := blit14_14
        clear hX14_28
        refine hK.out _ _ ⟨(kz14_28.out.cell (fun h => h) bc0), (kz14_28.out.cell (fun h => h) bc1), (kz14_28.out.cell (fun h => h) nc0), (kz14_28.out.cell (fun h => h) nc1), (kz14_28.out.cell (fun h => h) ec0), (kz14_28.out.cell (fun h => h) ec1)⟩ (fun hHeld => ?_)
        clear hK K
        refine norm_ (a' := ?_) ?_ ?_
        rotate_left
        · show Act.put _ (some 67) _ = _
          simp only [Act.put, List.setIfInBounds_toArray, List.set_cons_zero, List.set_cons_succ, i64_w, i32_w]
          rfl
        refine one_ (i := 15) (N := some 54) #[true, true, true, true, true, true, true, true, true, true, true, true, true, true, true, true, true, true, true, true, true, true, true, true, true, true, true, true, true, false, false, false, false, false, false, false] rfl rfl (by kernel_rfl) (by decide) (fun K hK => ?_)
        have Rc_14_28_15 := Hid.mk' (RB0.out.chg kz14_28.out (fun j a b => b.elim))
        refine goes_ Try.func46 (by kernel_rfl) rfl #[.slice ak1 nk1 ck1, .int .i64 0, .slice (some ⟨W2.heap.size, 0, none⟩) 1 1] (by rfl) rfl rfl (by simp only [List.map_toArray, List.map_cons, List.map_nil]; rfl) ?_
        with_reducible refine (insS (.slice ak1 nk1 ck1) 0 0 (W2.heap.size) (.string x) (bks.map sv) _ Rc_14_28_15.out (Nat.zero_le _) rfl lit14_14_28.out (fun h => by have h1 := RB0.out.lt h; have h2 := blit14_14_28.out; omega) rfl (map_sv_cell _) ln0.out).mono ?_
        rintro e X14_28_15 ⟨v_14_28_15, rfl, r_14_28_15, o_14_28_15, k_14_28_15⟩
        refine ⟨_, rfl, ?_⟩
        obtain ⟨a14_28_15, n14_28_15, c14_28_15, rfl, l14_28_15⟩ := r_14_28_15.form'
        have kz14_28_15 : Hid (Chg (own (.slice ak1 nk1 ck1)) W2 X14_28_15) := (kz14_28.out.mono fun _ h => h.elim).trans k_14_28_15
        have res_14_28_15 : Hid (Row X14_28_15 9 (.slice a14_28_15 n14_28_15 c14_28_15) ((x :: bks).map sv)) := (by simpa [sv, iv, pv] using r_14_28_15 : Row _ _ _ _)
        have ores_14_28_15 : Hid (∀ k, own (.slice a14_28_15 n14_28_15 c14_28_15) k → own (.slice ak1 nk1 ck1) k ∨ (W2.heap.size ≤ k ∧ k < X14_28_15.heap.size)) := fun k hk => (o_14_28_15 k hk).imp id fun h => ⟨Nat.le_trans kz14_28.out.size h.1, h.2⟩
        have lit28_14_28_15 := Hid.mk' (lit28_14_28.out.chg k_14_28_15 (fun j a b => by rw [own_slice] at a; subst a; have h1 := RB0.out.lt b; have h2 := blit28_14_28.out; omega))
        have blit28_14_28_15 := blit28_14_28
        clear r_14_28_15 o_14_28_15 k_14_28_15
        refine hK.out _ _ ⟨(kz14_28_15.out.cell qb0.out bc0), (kz14_28_15.out.cell qb0.out bc1), (kz14_28_15.out.cell qn0.out nc0), (kz14_28_15.out.cell qn0.out nc1), (kz14_28_15.out.cell qgk0.out ec0), (kz14_28_15.out.cell qgv0.out ec1)⟩ (fun hHeld => ?_)
        clear hK K
        refine norm_ (a' := ?_) ?_ ?_
        rotate_left
        · show Act.put _ (some 54) _ = _
          simp only [Act.put, List.setIfInBounds_toArray, List.set_cons_zero, List.set_cons_succ, i64_w, i32_w]
          rfl
        exact norm_ (by simp only [putAll, Act.put, List.setIfInBounds_toArray, List.set_cons_zero, List.set_cons_succ]) (hCont (W2.heap.size, X14.heap.size, (a14_28_15, n14_28_15, c14_28_15)) _ ⟨res_14_28_15.out, lit28_14_28_15.out, ores_14_28_15.out, blit28_14_28_15.out, kz14_28_15.out⟩)
    · skip
      refine value_ (w1 := ?_) (v := ?_) (by rfl) rfl ?_ ?_
      rotate_left 2
      · go_simp
        constructor
        · rfl
        · rfl
      refine named fun X28 hX28 => ?_
      have kz28 : Hid (Chg NoB W2 X28) := by show Chg _ _ _; rw [hX28]; first | exact ((Chg.refl _ W2).alloc _).drew | exact (Chg.refl _ W2).alloc _
      have lit28_28 : Hid (Row X28 3 (.slice (some ⟨W2.heap.size, 0, none⟩) 1 1) [.int .i64 y]) := by show Row _ _ _ _; rw [hX28]; first | exact Row.lit _ _ _ | exact Row.litD _ _ _
      have blit28_28 : Hid (W2.heap.size ≤ W2.heap.size) := Nat.le_refl _
      clear hX28
      refine hK.out _ _ ⟨(kz28.out.cell (fun h => h) bc0), (kz28.out.cell (fun h => h) bc1), (kz28.out.cell (fun h => h) nc0), (kz28.out.cell (fun h => h) nc1), (kz28.out.cell (fun h => h) ec0), (kz28.out.cell (fun h => h) ec1)⟩ (fun hHeld => ?_)
      clear hK K
      refine norm_ (a' := ?_) ?_ ?_
      rotate_left
      · show Act.put _ (some 67) _ = _
        simp only [Act.put, List.setIfInBounds_toArray, List.set_cons_zero, List.set_cons_succ, i64_w, i32_w]
        rfl
      refine one_ (i := 14) (N := some 53) #[true, true, true, true, true, true, true, true, true, true, true, true, true, true, true, false, true, true, true, true, true, true, true, true, true, true, true, true, true, false, false, false, false, false, false, false] rfl rfl (by kernel_rfl) (by decide) (fun K hK => ?_)
      refine value_ (w1 := ?_) (v := ?_) (by rfl) rfl ?_ ?_
      rotate_left 2
      · go_simp
        constructor
        · rfl
        · rfl
      refine named fun X28_14 hX28_14 => ?_
      have kz28_14 : Hid (Chg NoB W2 X28_14) := by show Chg _ _ _; rw [hX28_14]; first | exact kz28.out.alloc _ | exact (kz28.out.alloc _).drew
      have lit14_28_14 : Hid (Row X28_14 9 (.slice (some ⟨X28.heap.size, 0, none⟩) 1 1) [.string x]) := by show Row _ _ _ _; rw [hX28_14]; first | exact Row.lit _ _ _ | exact Row.litD _ _ _
      have blit14_28_14 : Hid (W2.heap.size ≤ X28.heap.size) := kz28.out.size
      have lit28_28_14 : Hid (Row X28_14 3 (.slice (some ⟨W2.heap.size, 0, none⟩) 1 1) [.int .i64 y]) := by show Row _ _ _ _; rw [hX28_14]; first | exact Row.al lit28_28.out _ | exact Row.alD lit28_28.out _
      have blit28_28_14 := blit28_28
      clear hX28_14
      refine hK.out _ _ ⟨(kz28_14.out.cell (fun h => h) bc0), (kz28_14.out.cell (fun h => h) bc1), (kz28_14.out.cell (fun h => h) nc0), (kz28_14.out.cell (fun h => h) nc1), (kz28_14.out.cell (fun h => h) ec0), (kz28_14.out.cell (fun h => h) ec1)⟩ (fun hHeld => ?_)
      clear hK K
      refine norm_ (a' := ?_) ?_ ?_
      rotate_left
      · show Act.put _ (some 53) _ = _
        simp only [Act.put, List.setIfInBounds_toArray, List.set_cons_zero, List.set_cons_succ, i64_w, i32_w]
        rfl
      refine one_ (i := 15) (N := some 54) #[true, true, true, true, true, true, true, true, true, true, true, true, true, true, true, true, true, true, true, true, true, true, true, true, true, true, true, true, true, false, false, false, false, false, false, false] rfl rfl (by kernel_rfl) (by decide) (fun K hK => ?_)
      have Rc_28_14_15 := Hid.mk' (RB0.out.chg kz28_14.out (fun j a b => b.elim))
      refine goes_ Try.func46 (by kernel_rfl) rfl #[.slice ak1 nk1 ck1, .int .i64 0, .slice (some ⟨X28.heap.size, 0, none⟩) 1 1] (by rfl) rfl rfl (by simp only [List.map_toArray, List.map_cons, List.map_nil]; rfl) ?_
      with_reducible refine (insS (.slice ak1 nk1 ck1) 0 0 (X28.heap.size) (.string x) (bks.map sv) _ Rc_28_14_15.out (Nat.zero_le _) rfl lit14_28_14.out (fun h => by have h1 := RB0.out.lt h; have h2 := blit14_28_14.out; omega) rfl (map_sv_cell _) ln0.out).mono ?_
      rintro e X28_14_15 ⟨v_28_14_15, rfl, r_28_14_15, o_28_14_15, k_28_14_15⟩
      refine ⟨_, rfl, ?_⟩
      obtain ⟨a28_14_15, n28_14_15, c28_14_15, rfl, l28_14_15⟩ := r_28_14_15.form'
      have kz28_14_15 : Hid (Chg (own (.slice ak1 nk1 ck1)) W2 X28_14_15) := (kz28_14.out.mono fun _ h => h.elim).trans k_28_14_15
      have res_28_14_15 : Hid (Row X28_14_15 9 (.slice a28_14_15 n28_14_15 c28_14_15) ((x :: bks).map sv)) := (by simpa [sv, iv, pv] using r_28_14_15 : Row _ _ _ _)
      have ores_28_14_15 : Hid (∀ k, own (.slice a28_14_15 n28_14_15 c28_14_15) k → own (.slice ak1 nk1 ck1) k ∨ (W2.heap.size ≤ k ∧ k < X28_14_15.heap.size)) := fun k hk => (o_28_14_15 k hk).imp id fun h => ⟨Nat.le_trans kz28_14.out.size h.1, h.2⟩
      have lit28_28_14_15 := Hid.mk' (lit28_28_14.out.chg k_28_14_15 (fun j a b => by rw [own_slice] at a; subst a; have h1 := RB0.out.lt b; have h2 := blit28_28_14.out; omega))
      have blit28_28_14_15 := blit28_28_14
      clear r_28_14_15 o_28_14_15 k_28_14_15
      refine hK.out _ _ ⟨(kz28_14_15.out.cell qb0.out bc0), (kz28_14_15.out.cell qb0.out bc1), (kz28_14_15.out.cell qn0.out nc0), (kz28_14_15.out.cell qn0.out nc1), (kz28_14_15.out.cell qgk0.out ec0), (kz28_14_15.out.cell qgv0.out ec1)⟩ (fun hHeld => ?_)
      clear hK K
      refine norm_ (a' := ?_) ?_ ?_
      rotate_left
      · show Act.put _ (some 54) _ = _
        simp only [Act.put, List.setIfInBounds_toArray, List.set_cons_zero, List.set_cons_succ, i64_w, i32_w]
        rfl
      exact norm_ (by simp only [putAll, Act.put, List.setIfInBounds_toArray, List.set_cons_zero, List.set_cons_succ]) (hCont (X28.heap.size, W2.heap.size, (a28_14_15, n28_14_15, c28_14_15)) _ ⟨res_28_14_15.out, lit28_28_14_15.out, ores_28_14_15.out, blit28_28_14_15.out, kz28_14_15.out⟩)
  rintro ⟨gJ1, gJ2, aJ, nJ, cJ⟩ wJ ⟨rJ, litJ, oJ, blitJ, kJ⟩
  replace rJ : Hid (Row wJ 9 (.slice aJ nJ cJ) ((x :: bks).map sv)) := rJ
  replace litJ : Hid (Row wJ 3 (.slice (some ⟨gJ2, 0, none⟩) 1 1) [.int .i64 y]) := litJ
  replace oJ : Hid (∀ k, own (.slice aJ nJ cJ) k → own (.slice ak1 nk1 ck1) k ∨ (W2.heap.size ≤ k ∧ k < wJ.heap.size)) := oJ
  replace blitJ : Hid (W2.heap.size ≤ gJ2) := blitJ
  replace kJ := Hid.mk' kJ
  have hHeld : (wJ.cell? ⟨b, 0, none⟩ = some (.slice ak1 nk1 ck1)) ∧ (wJ.cell? ⟨b, 1, none⟩ = some (.slice av1 nv1 cv1)) ∧ (wJ.cell? ⟨n, 0, none⟩ = some (.slice (some ⟨gk, 0, none⟩) nk ck)) ∧ (wJ.cell? ⟨n, 1, none⟩ = some (.slice (some ⟨gv, 0, none⟩) nv cv)) ∧ (wJ.cell? ⟨gk, i, none⟩ = some (.string x)) ∧ (wJ.cell? ⟨gv, i, none⟩ = some (.int .i64 y)) := ⟨kJ.out.cell qb0.out bc0, kJ.out.cell qb0.out bc1, kJ.out.cell qn0.out nc0, kJ.out.cell qn0.out nc1, kJ.out.cell qgk0.out ec0, kJ.out.cell qgv0.out ec1⟩
  have RcJ := Hid.mk' (RB1.out.chg kJ.out (fun j a b => RB1.out.apart RB0.out (by decide) j a b))
  refine norm_ (a' := ?_) ?_ ?_
  rotate_left
  · simp only [putAll, Act.put, List.setIfInBounds_toArray, List.set_cons_zero, List.set_cons_succ]
    rfl
  refine one_ (i := 29) (N := some 68) #[true, true, true, true, true, true, true, true, true, true, true, true, true, true, true, true, true, true, true, true, true, true, true, true, true, true, true, true, true, true, false, false, false, false, false, false] rfl rfl (by kernel_rfl) (by decide) (fun K hK => ?_)
  refine goes_ Try.func47 (by kernel_rfl) rfl #[.slice av1 nv1 cv1, .int .i64 0, .slice (some ⟨gJ2, 0, none⟩) 1 1] (by rfl) rfl rfl (by simp only [List.map_toArray, List.map_cons, List.map_nil]; rfl) ?_
  with_reducible refine (insI (.slice av1 nv1 cv1) 0 0 (gJ2) (.int .i64 y) (bvs.map iv) _ RcJ.out (Nat.zero_le _) rfl litJ.out (fun h => by have h1 := RB1.out.lt h; have h2 := blitJ.out; omega) rfl (map_iv_cell _) ln1.out).mono ?_
  rintro e wK ⟨vK, rfl, rK, oK, kK0⟩
  refine ⟨_, rfl, ?_⟩
  obtain ⟨aK, nK, cK, rfl, lK⟩ := rK.form'
  have kK : Hid (Chg (fun k => own (.slice ak1 nk1 ck1) k ∨ own (.slice av1 nv1 cv1) k) W2 wK) := (kJ.out.mono fun _ h => .inl h).trans (kK0.mono fun _ h => .inr h)
  have rK1 := Hid.mk' (rJ.out.chg kK0 (fun j a b => rJ.out.apart RcJ.out (by decide) j a b))
  have oK1 : Hid (∀ k, own (.slice aJ nJ cJ) k → own (.slice ak1 nk1 ck1) k ∨ (W2.heap.size ≤ k ∧ k < wK.heap.size)) := fun k hk => (oJ.out k hk).imp id fun h => ⟨h.1, Nat.lt_of_lt_of_le h.2 kK0.size⟩
  have rK2 : Hid (Row wK 3 (.slice aK nK cK) ((y :: bvs).map iv)) := (by simpa [sv, iv, pv] using rK : Row _ _ _ _)
  have oK2 : Hid (∀ k, own (.slice aK nK cK) k → own (.slice av1 nv1 cv1) k ∨ (W2.heap.size ≤ k ∧ k < wK.heap.size)) := fun k hk => (oK k hk).imp id fun h => ⟨Nat.le_trans kJ.out.size h.1, h.2⟩
  clear rK oK kK0
  have bc0' := kK.out.cell (fun h => h.elim qb0.out qb1.out) bc0
  have bc1' := kK.out.cell (fun h => h.elim qb0.out qb1.out) bc1
  have bf0' : wK.frozen? ⟨b, 0, none⟩ = false := frozen_of_row _ b 0 _ _ (kK.out.heap (fun h => h.elim qb0.out qb1.out) bblk.out)
  have bf1' : wK.frozen? ⟨b, 1, none⟩ = false := frozen_of_row _ b 1 _ _ (kK.out.heap (fun h => h.elim qb0.out qb1.out) bblk.out)
  refine hK.out _ _ ⟨(kK.out.cell (fun h => h.elim qb0.out qb1.out) bc0), (kK.out.cell (fun h => h.elim qb0.out qb1.out) bc1), (kK.out.cell (fun h => h.elim qn0.out qn1.out) nc0), (kK.out.cell (fun h => h.elim qn0.out qn1.out) nc1), (kK.out.cell (fun h => h.elim qgk0.out qgk1.out) ec0), (kK.out.cell (fun h => h.elim qgv0.out qgv1.out) ec1)⟩ (fun hHeld => ?_)
  clear hK K
  refine norm_ (a' := ?_) ?_ ?_
  rotate_left
  · show Act.put _ (some 68) _ = _
    simp only [Act.put, List.setIfInBounds_toArray, List.set_cons_zero, List.set_cons_succ, i64_w, i32_w]
    rfl
  refine pure_ (i := 30) (N := some 69) (v := ?_) (a' := ?_) #[true, true, true, true, true, true, true, true, true, true, true, true, true, true, true, true, true, true, true, true, true, true, true, true, true, true, true, true, true, true, true, false, false, false, false, false] rfl rfl (by kernel_rfl) (fun _ _ _ h => h) (Or.inl ⟨by rfl, ?_⟩) ?_ ?_
  rotate_left
  · intro w'
    go_simp
    with_reducible rfl
  rotate_left
  · simp only [Act.put, List.setIfInBounds_toArray, List.set_cons_zero, List.set_cons_succ, i64_w, i32_w]
    rfl
  refine pure_ (i := 31) (N := some 70) (v := ?_) (a' := ?_) #[true, true, true, true, true, true, true, true, true, true, true, true, true, true, true, true, true, true, true, true, true, true, true, true, true, true, true, true, true, true, true, true, false, false, false, false] rfl rfl (by kernel_rfl) (fun _ _ _ h => h) (Or.inl ⟨by rfl, ?_⟩) ?_ ?_
  rotate_left
  · intro w'
    go_simp
    with_reducible rfl
  rotate_left
  · simp only [Act.put, List.setIfInBounds_toArray, List.set_cons_zero, List.set_cons_succ, i64_w, i32_w]
    rfl
  refine last_ (i := 32) (N := none) #[true, true, true, true, true, true, true, true, true, true, true, true, true, true, true, true, true, true, true, true, true, true, true, true, true, true, true, true, true, true, true, true, true, false, false, false] rfl rfl (by kernel_rfl) (by decide) (fun K hK => ?_)
  refine skip_ (w1 := ?_) (by rfl) rfl ?_ ?_
  rotate_left
  · go_simp
    rfl
  refine hK.out _ _ ?_
  clear hK K
  refine pure_ (i := 33) (N := some 71) (v := ?_) (a' := ?_) #[true, true, true, true, true, true, true, true, true, true, true, true, true, true, true, true, true, true, true, true, true, true, true, true, true, true, true, true, true, true, true, true, true, true, false, false] rfl rfl (by kernel_rfl) (fun _ _ _ h => h) (Or.inl ⟨by rfl, ?_⟩) ?_ ?_
  rotate_left
  · intro w'
    go_simp
    with_reducible rfl
  rotate_left
  · simp only [Act.put, List.setIfInBounds_toArray, List.set_cons_zero, List.set_cons_succ, i64_w, i32_w]
    rfl
  refine pure_ (i := 34) (N := some 72) (v := ?_) (a' := ?_) #[true, true, true, true, true, true, true, true, true, true, true, true, true, true, true, true, true, true, true, true, true, true, true, true, true, true, true, true, true, true, true, true, true, true, true, false] rfl rfl (by kernel_rfl) (fun _ _ _ h => h) (Or.inl ⟨by rfl, ?_⟩) ?_ ?_
  rotate_left
  · intro w'
    go_simp
    with_reducible rfl
  rotate_left
  · simp only [Act.put, List.setIfInBounds_toArray, List.set_cons_zero, List.set_cons_succ, i64_w, i32_w]
    rfl
  refine last_ (i := 35) (N := none) #[true, true, true, true, true, true, true, true, true, true, true, true, true, true, true, true, true, true, true, true, true, true, true, true, true, true, true, true, true, true, true, true, true, true, true, true] rfl rfl (by kernel_rfl) (by decide) (fun K hK => ?_)
  refine skip_ (w1 := ?_) (by rfl) rfl ?_ ?_
  rotate_left
  · go_simp
    rfl
  refine hK.out _ _ ?_
  clear hK K
  refine done_ (by kernel_rfl) ?_
  go_upto_region 6 with (fail)
  obtain ⟨W3, hW3⟩ : ∃ W3, W3 = (wK.setCell ⟨b, 0, none⟩ (.slice aJ nJ cJ)).setCell ⟨b, 1, none⟩ (.slice aK nK cK) := ⟨_, rfl⟩
  rw [← hW3]
  obtain ⟨nB3, kk3⟩ := nB2.out.step01 (kK.out) (show Row _ _ (.slice aJ nJ cJ) ((x :: bks).map sv) from rK1.out) (show Row _ _ (.slice aK nK cK) ((y :: bvs).map iv) from rK2.out)
  rw [← hW3] at nB3 kk3
  have nN3 := nN2.out.chg kk3 (aNB2.out)
  have nA3 := nA2.out.chg kk3 (aAB2.out)
  have aNB3 := (apart1 (oK2.out) (apart0 (oK1.out) (aNB2.out.symm) nN2.out.lt) nN2.out.lt).symm
  have aAB3 := (apart1 (oK2.out) (apart0 (oK1.out) (aAB2.out.symm) nA2.out.lt) nA2.out.lt).symm
  have aNA3 := aNA2.out
  have sB3 := nset1 (oK2.out) (nset0 (oK1.out) sB2.out (fun k h => .inr (Nat.le_trans kC2.out.size h))) (fun k h => .inr (Nat.le_trans kC2.out.size h))
  have sN3 := sN2.out
  have sA3 := sA2.out
  have kC3 := kC2.out.trans' kk3 (fun k h => (sB2.out k h).imp (fun h => .inr (.inr h)) id)
  replace hW3 := Hid.mk' hW3
  replace kk3 := Hid.mk' kk3
  replace nN3 := Hid.mk' nN3
  replace nA3 := Hid.mk' nA3
  replace nB3 := Hid.mk' nB3
  replace sN3 := Hid.mk' sN3
  replace sA3 := Hid.mk' sA3
  replace sB3 := Hid.mk' sB3
  replace aNA3 := Hid.mk' aNA3
  replace aNB3 := Hid.mk' aNB3
  replace aAB3 := Hid.mk' aAB3
  replace kC3 := Hid.mk' kC3
  clear bc0 bc1 nc0 nc1 ec0 ec1 bc0' bc1' bf0' bf1'
  have nc0 := nN3.out.c0
  have nc1 := nN3.out.c1
  have ac0 := nA3.out.c0
  have ac1 := nA3.out.c1
  have ek0 : W3.cell? ⟨gk, i, none⟩ = some (.string x) ∧ W3.frozen? ⟨gk, i, none⟩ = false := by
    obtain ⟨_, h, _, hc, hf, _⟩ := nN3.out.rk.at (by have := hnl.out; simp; omega)
    cases h
    exact ⟨hc _ _ ex0.out, hf _⟩
  have ek1 : W3.cell? ⟨gv, i, none⟩ = some (.int .i64 y) ∧ W3.frozen? ⟨gv, i, none⟩ = false := by
    obtain ⟨_, h, _, hc, hf, _⟩ := nN3.out.rv.at (by have := hnl.out; have := hl1.out; simp; omega)
    cases h
    exact ⟨hc _ _ ex1.out, hf _⟩
  have ep0c : W3.cell? ⟨hk, l, none⟩ = some (.string p) := by
    obtain ⟨_, h, _, hc, hf, _⟩ := nA3.out.rk.at (by have := hak.out; simp; omega)
    cases h
    exact hc _ _ ep0.out
  have ep1c : W3.cell? ⟨hv, l, none⟩ = some (.int .i64 r) := by
    obtain ⟨_, h, _, hc, hf, _⟩ := nA3.out.rv.at (by have := hav.out; simp; omega)
    cases h
    exact hc _ _ ep1.out
  obtain ⟨ek0c, ek0f⟩ := ek0
  obtain ⟨ek1c, ek1f⟩ := ek1
  have gkv : gk ≠ gv := fun h => nN3.out.rk.apart nN3.out.rv (by decide) gk ((own_slice _ _ _ _ _ _).2 rfl) ((own_slice _ _ _ _ _ _).2 h)
  have ll1 : (l : Int) < (l : Int) + 1 := by omega
  refine start_ (n := 30) (S := fun w' => w'.cell? ⟨n, 0, none⟩ = some (.slice (some ⟨gk, 0, none⟩) nk ck) ∧ w'.cell? ⟨n, 1, none⟩ = some (.slice (some ⟨gv, 0, none⟩) nv cv) ∧ w'.cell? ⟨a, 0, none⟩ = some (.slice (some ⟨hk, 0, none⟩) (l + 1) ck0) ∧ w'.cell? ⟨a, 1, none⟩ = some (.slice (some ⟨hv, 0, none⟩) (l + 1) cv0) ∧ w'.cell? ⟨hk, l, none⟩ = some (.string p) ∧ w'.cell? ⟨hv, l, none⟩ = some (.int .i64 r)) (ds := [27, 29]) #[false, false, false, false, false, false, false, false, false, false, false, false, false, false, false, false, false, false, false, false, false, false, false, false, false, false, false, false, false, false] (by kernel_rfl) rfl rfl ⟨nc0, nc1, ac0, ac1, ep0c, ep1c⟩ (fun hHeld => ?_)
  refine pure_ (i := 0) (N := some 73) (v := ?_) (a' := ?_) #[true, false, false, false, false, false, false, false, false, false, false, false, false, false, false, false, false, false, false, false, false, false, false, false, false, false, false, false, false, false] rfl rfl (by kernel_rfl) (fun _ _ _ h => h) (Or.inl ⟨by rfl, ?_⟩) ?_ ?_
  rotate_left
  · intro w'
    go_simp
    with_reducible rfl
  rotate_left
  · simp only [Act.put, List.setIfInBounds_toArray, List.set_cons_zero, List.set_cons_succ, i64_w, i32_w]
    rfl
  refine pure_ (i := 1) (N := some 74) (v := ?_) (a' := ?_) #[true, true, false, false, false, false, false, false, false, false, false, false, false, false, false, false, false, false, false, false, false, false, false, false, false, false, false, false, false, false] rfl rfl (by kernel_rfl) (fun _ _ _ h => h) (Or.inl ⟨by rfl, ?_⟩) ?_ ?_
  rotate_left
  · intro w'
    go_simp
    with_reducible rfl
  rotate_left
  · simp only [Act.put, List.setIfInBounds_toArray, List.set_cons_zero, List.set_cons_succ, i64_w, i32_w]
    rfl
  refine pure_ (i := 2) (N := some 75) (v := ?_) (a' := ?_) #[true, true, true, false, false, false, false, false, false, false, false, false, false, false, false, false, false, false, false, false, false, false, false, false, false, false, false, false, false, false] rfl rfl (by kernel_rfl) (fun _ _ _ h => h) (Or.inl ⟨by rfl, ?_⟩) ?_ ?_
  rotate_left
  · intro w'
    go_simp
    with_reducible rfl
  rotate_left
  · simp only [Act.put, List.setIfInBounds_toArray, List.set_cons_zero, List.set_cons_succ, i64_w, i32_w]
    rfl
  refine pure_ (i := 4) (N := some 77) (v := ?_) (a' := ?_) #[true, true, true, false, true, false, false, false, false, false, false, false, false, false, false, false, false, false, false, false, false, false, false, false, false, false, false, false, false, false] rfl rfl (by kernel_rfl) (fun _ _ _ h => h) (Or.inl ⟨by rfl, ?_⟩) ?_ ?_
  rotate_left
  · intro w'
    go_simp
    with_reducible rfl
  rotate_left
  · simp only [Act.put, List.setIfInBounds_toArray, List.set_cons_zero, List.set_cons_succ, i64_w, i32_w]
    rfl
  refine pure_ (i := 5) (N := some 78) (v := ?_) (a' := ?_) #[true, true, true, false, true, true, false, false, false, false, false, false, false, false, false, false, false, false, false, false, false, false, false, false, false, false, false, false, false, false] rfl rfl (by kernel_rfl) (fun _ _ _ h => h) (Or.inl ⟨by rfl, ?_⟩) ?_ ?_
  rotate_left
  · intro w'
    go_simp
    with_reducible rfl
  rotate_left
  · simp only [Act.put, List.setIfInBounds_toArray, List.set_cons_zero, List.set_cons_succ, i64_w, i32_w]
    rfl
  refine pure_ (i := 6) (N := some 79) (v := ?_) (a' := ?_) #[true, true, true, false, true, true, true, false, false, false, false, false, false, false, false, false, false, false, false, false, false, false, false, false, false, false, false, false, false, false] rfl rfl (by kernel_rfl) (fun _ _ _ h => h) (Or.inl ⟨by rfl, ?_⟩) ?_ ?_
  rotate_left
  · intro w'
    go_simp
    with_reducible rfl
  rotate_left
  · simp only [Act.put, List.setIfInBounds_toArray, List.set_cons_zero, List.set_cons_succ, i64_w, i32_w]
    rfl
  refine pure_ (i := 7) (N := some 80) (v := ?_) (a' := ?_) #[true, true, true, false, true, true, true, true, false, false, false, false, false, false, false, false, false, false, false, false, false, false, false, false, false, false, false, false, false, false] rfl rfl (by kernel_rfl) (fun _ _ _ h => h) (Or.inl ⟨by rfl, ?_⟩) ?_ ?_
  rotate_left
  · intro w'
    go_simp
    with_reducible rfl
  rotate_left
  · simp only [Act.put, List.setIfInBounds_toArray, List.set_cons_zero, List.set_cons_succ, i64_w, i32_w]
    rfl
  refine pure_ (i := 8) (N := some 81) (v := ?_) (a' := ?_) #[true, true, true, false, true, true, true, true, true, false, false, false, false, false, false, false, false, false, false, false, false, false, false, false, false, false, false, false, false, false] rfl rfl (by kernel_rfl) (fun _ _ _ h => h) (Or.inl ⟨by rfl, ?_⟩) ?_ ?_
  rotate_left
  · intro w'
    go_simp
    with_reducible rfl
  rotate_left
  · simp only [Act.put, List.setIfInBounds_toArray, List.set_cons_zero, List.set_cons_succ, i64_w, i32_w]
    rfl
  refine pure_ (i := 10) (N := some 83) (v := ?_) (a' := ?_) #[true, true, true, false, true, true, true, true, true, false, true, false, false, false, false, false, false, false, false, false, false, false, false, false, false, false, false, false, false, false] rfl rfl (by kernel_rfl) (fun _ _ _ h => h) (Or.inl ⟨by rfl, ?_⟩) ?_ ?_
  rotate_left
  · intro w'
    go_simp
    with_reducible rfl
  rotate_left
  · simp only [Act.put, List.setIfInBounds_toArray, List.set_cons_zero, List.set_cons_succ, i64_w, i32_w]
    rfl
  refine pure_ (i := 11) (N := some 84) (v := ?_) (a' := ?_) #[true, true, true, false, true, true, true, true, true, false, true, true, false, false, false, false, false, false, false, false, false, false, false, false, false, false, false, false, false, false] rfl rfl (by kernel_rfl) (fun _ _ _ h => h) (Or.inl ⟨by rfl, ?_⟩) ?_ ?_
  rotate_left
  · intro w'
    go_simp
    with_reducible rfl
  rotate_left
  · simp only [Act.put, List.setIfInBounds_toArray, List.set_cons_zero, List.set_cons_succ, i64_w, i32_w]
    rfl
  refine pure_ (i := 12) (N := some 85) (v := ?_) (a' := ?_) #[true, true, true, false, true, true, true, true, true, false, true, true, true, false, false, false, false, false, false, false, false, false, false, false, false, false, false, false, false, false] rfl rfl (by kernel_rfl) (fun _ _ _ h => h) (Or.inl ⟨by rfl, ?_⟩) ?_ ?_
  rotate_left
  · intro w'
    go_simp
    with_reducible rfl
  rotate_left
  · simp only [Act.put, List.setIfInBounds_toArray, List.set_cons_zero, List.set_cons_succ, i64_w, i32_w]
    rfl
  refine pure_ (i := 13) (N := some 86) (v := ?_) (a' := ?_) #[true, true, true, false, true, true, true, true, true, false, true, true, true, true, false, false, false, false, false, false, false, false, false, false, false, false, false, false, false, false] rfl rfl (by kernel_rfl) (fun _ _ _ h => h) (Or.inl ⟨by rfl, ?_⟩) ?_ ?_
  rotate_left
  · intro w'
    go_simp
    with_reducible rfl
  rotate_left
  · simp only [Act.put, List.setIfInBounds_toArray, List.set_cons_zero, List.set_cons_succ, i64_w, i32_w]
    rfl
  refine pure_ (i := 14) (N := some 87) (v := ?_) (a' := ?_) #[true, true, true, false, true, true, true, true, true, false, true, true, true, true, true, false, false, false, false, false, false, false, false, false, false, false, false, false, false, false] rfl rfl (by kernel_rfl) (fun _ _ _ h => h) (Or.inl ⟨by rfl, ?_⟩) ?_ ?_
  rotate_left
  · intro w'
    go_simp
    with_reducible rfl
  rotate_left
  · simp only [Act.put, List.setIfInBounds_toArray, List.set_cons_zero, List.set_cons_succ, i64_w, i32_w]
    rfl
  refine pure_ (i := 16) (N := some 89) (v := ?_) (a' := ?_) #[true, true, true, false, true, true, true, true, true, false, true, true, true, true, true, false, true, false, false, false, false, false, false, false, false, false, false, false, false, false] rfl rfl (by kernel_rfl) (fun _ _ _ h => h) (Or.inl ⟨by rfl, ?_⟩) ?_ ?_
  rotate_left
  · intro w'
    go_simp
    with_reducible rfl
  rotate_left
  · simp only [Act.put, List.setIfInBounds_toArray, List.set_cons_zero, List.set_cons_succ, i64_w, i32_w]
    rfl
  refine pure_ (i := 19) (N := some 92) (v := ?_) (a' := ?_) #[true, true, true, false, true, true, true, true, true, false, true, true, true, true, true, false, true, false, false, true, false, false, false, false, false, false, false, false, false, false] rfl rfl (by kernel_rfl) (fun _ _ _ h => h) (Or.inl ⟨by rfl, ?_⟩) ?_ ?_
  rotate_left
  · intro w'
    go_simp
    with_reducible rfl
  rotate_left
  · simp only [Act.put, List.setIfInBounds_toArray, List.set_cons_zero, List.set_cons_succ, i64_w, i32_w]
    rfl
  refine pure_ (i := 20) (N := some 93) (v := ?_) (a' := ?_) #[true, true, true, false, true, true, true, true, true, false, true, true, true, true, true, false, true, false, false, true, true, false, false, false, false, false, false, false, false, false] rfl rfl (by kernel_rfl) (fun _ _ _ h => h) (Or.inl ⟨by rfl, ?_⟩) ?_ ?_
  rotate_left
  · intro w'
    go_simp
    with_reducible rfl
  rotate_left
  · simp only [Act.put, List.setIfInBounds_toArray, List.set_cons_zero, List.set_cons_succ, i64_w, i32_w]
    rfl
  refine pure_ (i := 21) (N := some 94) (v := ?_) (a' := ?_) #[true, true, true, false, true, true, true, true, true, false, true, true, true, true, true, false, true, false, false, true, true, true, false, false, false, false, false, false, false, false] rfl rfl (by kernel_rfl) (fun _ _ _ h => h) (Or.inl ⟨by rfl, ?_⟩) ?_ ?_
  rotate_left
  · intro w'
    go_simp
    with_reducible rfl
  rotate_left
  · simp only [Act.put, List.setIfInBounds_toArray, List.set_cons_zero, List.set_cons_succ, i64_w, i32_w]
    rfl
  refine pure_ (i := 23) (N := some 96) (v := ?_) (a' := ?_) #[true, true, true, false, true, true, true, true, true, false, true, true, true, true, true, false, true, false, false, true, true, true, false, true, false, false, false, false, false, false] rfl rfl (by kernel_rfl) (fun _ _ _ h => h) (Or.inl ⟨by rfl, ?_⟩) ?_ ?_
  rotate_left
  · intro w'
    go_simp
    with_reducible rfl
  rotate_left
  · simp only [Act.put, List.setIfInBounds_toArray, List.set_cons_zero, List.set_cons_succ, i64_w, i32_w]
    rfl
  refine take_ (i := 3) (N := some 76) (v := ?_) (a' := ?_) #[true, true, true, true, true, true, true, true, true, false, true, true, true, true, true, false, true, false, false, true, true, true, false, true, false, false, false, false, false, false] rfl rfl (by kernel_rfl) (fun _ _ _ h => h) (Or.inl ⟨by rfl, ?_⟩) hHeld ?_ ?_
  rotate_left
  · rintro w' ⟨s0, s1, s2, s3, s4, s5⟩
    go_simp
    with_reducible rfl
  rotate_left
  · simp only [Act.put, List.setIfInBounds_toArray, List.set_cons_zero, List.set_cons_succ, i64_w, i32_w]
    rfl
  refine take_ (i := 9) (N := some 82) (v := ?_) (a' := ?_) #[true, true, true, true, true, true, true, true, true, true, true, true, true, true, true, false, true, false, false, true, true, true, false, true, false, false, false, false, false, false] rfl rfl (by kernel_rfl) (fun _ _ _ h => h) (Or.inl ⟨by rfl, ?_⟩) hHeld ?_ ?_
  rotate_left
  · rintro w' ⟨s0, s1, s2, s3, s4, s5⟩
    go_simp
    with_reducible rfl
  rotate_left
  · simp only [Act.put, List.setIfInBounds_toArray, List.set_cons_zero, List.set_cons_succ, i64_w, i32_w]
    rfl
  refine take_ (i := 15) (N := some 88) (v := ?_) (a' := ?_) #[true, true, true, true, true, true, true, true, true, true, true, true, true, true, true, true, true, false, false, true, true, true, false, true, false, false, false, false, false, false] rfl rfl (by kernel_rfl) (fun _ _ _ h => h) (Or.inl ⟨by rfl, ?_⟩) hHeld ?_ ?_
  rotate_left
  · rintro w' ⟨s0, s1, s2, s3, s4, s5⟩
    go_simp
    with_reducible rfl
  rotate_left
  · simp only [Act.put, List.setIfInBounds_toArray, List.set_cons_zero, List.set_cons_succ, i64_w, i32_w]
    rfl
  refine pure_ (i := 17) (N := some 90) (v := ?_) (a' := ?_) #[true, true, true, true, true, true, true, true, true, true, true, true, true, true, true, true, true, true, false, true, true, true, false, true, false, false, false, false, false, false] rfl rfl (by kernel_rfl) (fun _ _ _ h => h) (Or.inl ⟨by rfl, ?_⟩) ?_ ?_
  rotate_left
  · intro w'
    go_simp
    with_reducible rfl
  rotate_left
  · simp only [Act.put, List.setIfInBounds_toArray, List.set_cons_zero, List.set_cons_succ, i64_w, i32_w]
    rfl
  refine take_ (i := 18) (N := some 91) (v := ?_) (a' := ?_) #[true, true, true, true, true, true, true, true, true, true, true, true, true, true, true, true, true, true, true, true, true, true, false, true, false, false, false, false, false, false] rfl rfl (by kernel_rfl) (fun _ _ _ h => h) (Or.inl ⟨by rfl, ?_⟩) hHeld ?_ ?_
  rotate_left
  · rintro w' ⟨s0, s1, s2, s3, s4, s5⟩
    go_simp
    with_reducible rfl
  rotate_left
  · simp only [Act.put, List.setIfInBounds_toArray, List.set_cons_zero, List.set_cons_succ, i64_w, i32_w]
    rfl
  refine take_ (i := 22) (N := some 95) (v := ?_) (a' := ?_) #[true, true, true, true, true, true, true, true, true, true, true, true, true, true, true, true, true, true, true, true, true, true, true, true, false, false, false, false, false, false] rfl rfl (by kernel_rfl) (fun _ _ _ h => h) (Or.inl ⟨by rfl, ?_⟩) hHeld ?_ ?_
  rotate_left
  · rintro w' ⟨s0, s1, s2, s3, s4, s5⟩
    go_simp
    with_reducible rfl
  rotate_left
  · simp only [Act.put, List.setIfInBounds_toArray, List.set_cons_zero, List.set_cons_succ, i64_w, i32_w]
    rfl
  refine pure_ (i := 24) (N := some 97) (v := ?_) (a' := ?_) #[true, true, true, true, true, true, true, true, true, true, true, true, true, true, true, true, true, true, true, true, true, true, true, true, true, false, false, false, false, false] rfl rfl (by kernel_rfl) (fun _ _ _ h => h) (Or.inl ⟨by rfl, ?_⟩) ?_ ?_
  rotate_left
  · intro w'
    go_simp
    with_reducible rfl
  rotate_left
  · simp only [Act.put, List.setIfInBounds_toArray, List.set_cons_zero, List.set_cons_succ, i64_w, i32_w]
    rfl
  refine take_ (i := 25) (N := some 98) (v := ?_) (a' := ?_) #[true, true, true, true, true, true, true, true, true, true, true, true, true, true, true, true, true, true, true, true, true, true, true, true, true, true, false, false, false, false] rfl rfl (by kernel_rfl) (fun _ _ _ h => h) (Or.inl ⟨by rfl, ?_⟩) hHeld ?_ ?_
  rotate_left
  · rintro w' ⟨s0, s1, s2, s3, s4, s5⟩
    go_simp
    with_reducible rfl
  rotate_left
  · simp only [Act.put, List.setIfInBounds_toArray, List.set_cons_zero, List.set_cons_succ, i64_w, i32_w]
    rfl
  refine pure_ (i := 26) (N := some 99) (v := ?_) (a' := ?_) #[true, true, true, true, true, true, true, true, true, true, true, true, true, true, true, true, true, true, true, true, true, true, true, true, true, true, true, false, false, false] rfl rfl (by kernel_rfl) (fun _ _ _ h => h) (Or.inl ⟨by rfl, ?_⟩) ?_ ?_
  rotate_left
  · intro w'
    go_simp
    with_reducible rfl
  rotate_left
  · simp only [Act.put, List.setIfInBounds_toArray, List.set_cons_zero, List.set_cons_succ, i64_w, i32_w]
    rfl
  refine last_ (i := 27) (N := none) #[true, true, true, true, true, true, true, true, true, true, true, true, true, true, true, true, true, true, true, true, true, true, true, true, true, true, true, true, false, false] rfl rfl (by kernel_rfl) (by decide) (fun K hK => ?_)
  refine skip_ (w1 := ?_) (by rfl) rfl ?_ ?_
  rotate_left
  · go_simp
    rfl
  refine hK.out _ _ ?_
  clear hK K
  refine pure_ (i := 28) (N := some 100) (v := ?_) (a' := ?_) #[true, true, true, true, true, true, true, true, true, true, true, true, true, true, true, true, true, true, true, true, true, true, true, true, true, true, true, true, true, false] rfl rfl (by kernel_rfl) (fun _ _ _ h => h) (Or.inl ⟨by rfl, ?_⟩) ?_ ?_
  rotate_left
  · intro w'
    go_simp
    with_reducible rfl
  rotate_left
  · simp only [Act.put, List.setIfInBounds_toArray, List.set_cons_zero, List.set_cons_succ, i64_w, i32_w]
    rfl
  refine last_ (i := 29) (N := none) #[true, true, true, true, true, true, true, true, true, true, true, true, true, true, true, true, true, true, true, true, true, true, true, true, true, true, true, true, true, true] rfl rfl (by kernel_rfl) (by decide) (fun K hK => ?_)
  refine skip_ (w1 := ?_) (by rfl) rfl ?_ ?_
  rotate_left
  · go_simp
    rfl
  refine hK.out _ _ ?_
  clear hK K
  refine done_ (by kernel_rfl) ?_
  go_upto_region 7 with (fail)
  obtain ⟨W4, hW4⟩ : ∃ W4, W4 = W3.setCell ⟨gk, i, none⟩ (.string p) := ⟨_, rfl⟩
  rw [← hW4]
  obtain ⟨nN4, kk4⟩ := nN3.out.elem0 (i) (p)
  rw [← hW4] at nN4 kk4
  have nA4 := nA3.out.chg kk4 (aNA3.out.symm)
  have nB4 := nB3.out.chg kk4 (aNB3.out.symm)
  have aNA4 := aNA3.out
  have aNB4 := aNB3.out
  have aAB4 := aAB3.out
  have sN4 := sN3.out
  have sA4 := sA3.out
  have sB4 := sB3.out
  have kC4 := kC3.out.trans' kk4 (fun k h => (sN3.out k h).imp (fun h => .inl h) id)
  replace hW4 := Hid.mk' hW4
  replace kk4 := Hid.mk' kk4
  replace nN4 := Hid.mk' nN4
  replace nA4 := Hid.mk' nA4
  replace nB4 := Hid.mk' nB4
  replace sN4 := Hid.mk' sN4
  replace sA4 := Hid.mk' sA4
  replace sB4 := Hid.mk' sB4
  replace aNA4 := Hid.mk' aNA4
  replace aNB4 := Hid.mk' aNB4
  replace aAB4 := Hid.mk' aAB4
  replace kC4 := Hid.mk' kC4
  obtain ⟨W5, hW5⟩ : ∃ W5, W5 = W4.setCell ⟨gv, i, none⟩ (.int .i64 r) := ⟨_, rfl⟩
  rw [← hW5]
  obtain ⟨nN5, kk5⟩ := nN4.out.elem1 (i) (r)
  rw [← hW5] at nN5 kk5
  have nA5 := nA4.out.chg kk5 (aNA4.out.symm)
  have nB5 := nB4.out.chg kk5 (aNB4.out.symm)
  have aNA5 := aNA4.out
  have aNB5 := aNB4.out
  have aAB5 := aAB4.out
  have sN5 := sN4.out
  have sA5 := sA4.out
  have sB5 := sB4.out
  have kC5 := kC4.out.trans' kk5 (fun k h => (sN4.out k h).imp (fun h => .inl h) id)
  replace hW5 := Hid.mk' hW5
  replace kk5 := Hid.mk' kk5
  replace nN5 := Hid.mk' nN5
  replace nA5 := Hid.mk' nA5
  replace nB5 := Hid.mk' nB5
  replace sN5 := Hid.mk' sN5
  replace sA5 := Hid.mk' sA5
  replace sB5 := Hid.mk' sB5
  replace aNA5 := Hid.mk' aNA5
  replace aNB5 := Hid.mk' aNB5
  replace aAB5 := Hid.mk' aAB5
  replace kC5 := Hid.mk' kC5
  obtain ⟨W6, hW6⟩ : ∃ W6, W6 = W5.drew := ⟨_, rfl⟩
  rw [← hW6]
  have kk6 : Chg NoB W5 W6 := by rw [hW6]; exact (Chg.refl _ _).drew
  have nN6 := nN5.out.chg kk6 (fun _ _ h => h)
  have nA6 := nA5.out.chg kk6 (fun _ _ h => h)
  have nB6 := nB5.out.chg kk6 (fun _ _ h => h)
  have aNA6 := aNA5.out
  have aNB6 := aNB5.out
  have aAB6 := aAB5.out
  have sN6 := sN5.out
  have sA6 := sA5.out
  have sB6 := sB5.out
  have kC6 := kC5.out.trans' kk6 (fun _ h => h.elim)
  replace hW6 := Hid.mk' hW6
  replace kk6 := Hid.mk' kk6
  replace nN6 := Hid.mk' nN6
  replace nA6 := Hid.mk' nA6
  replace nB6 := Hid.mk' nB6
  replace sN6 := Hid.mk' sN6
  replace sA6 := Hid.mk' sA6
  replace sB6 := Hid.mk' sB6
  replace aNA6 := Hid.mk' aNA6
  replace aNB6 := Hid.mk' aNB6
  replace aAB6 := Hid.mk' aAB6
  replace kC6 := Hid.mk' kC6
  clear nc0 nc1 ac0 ac1 ek0c ek0f ek1c ek1f ep0c ep1c
  have ac0 := nA6.out.c0
  have ac1 := nA6.out.c1
  have af0 : W6.frozen? ⟨a, 0, none⟩ = false := nA6.out.fz 0
  have af1 : W6.frozen? ⟨a, 1, none⟩ = false := nA6.out.fz 1
  have lc0 : l ≤ ck0 := by omega
  have lc1 : l ≤ cv0 := by omega
  have lc2 : ¬ ck0 = 0 := by omega
  have lc3 : ¬ cv0 = 0 := by omega
  refine start_ (n := 20) (S := fun w' => w'.cell? ⟨a, 0, none⟩ = some (.slice (some ⟨hk, 0, none⟩) (l + 1) ck0) ∧ w'.cell? ⟨a, 1, none⟩ = some (.slice (some ⟨hv, 0, none⟩) (l + 1) cv0)) (ds := [16, 19]) #[false, false, false, false, false, false, false, false, false, false, false, false, false, false, false, false, false, false, false, false] (by kernel_rfl) rfl rfl ⟨ac0, ac1⟩ (fun hHeld => ?_)
  refine pure_ (i := 0) (N := some 101) (v := ?_) (a' := ?_) #[true, false, false, false, false, false, false, false, false, false, false, false, false, false, false, false, false, false, false, false] rfl rfl (by kernel_rfl) (fun _ _ _ h => h) (Or.inl ⟨by rfl, ?_⟩) ?_ ?_
  rotate_left
  · intro w'
    go_simp
    with_reducible rfl
  rotate_left
  · simp only [Act.put, List.setIfInBounds_toArray, List.set_cons_zero, List.set_cons_succ, i64_w, i32_w]
    rfl
  refine pure_ (i := 1) (N := some 102) (v := ?_) (a' := ?_) #[true, true, false, false, false, false, false, false, false, false, false, false, false, false, false, false, false, false, false, false] rfl rfl (by kernel_rfl) (fun _ _ _ h => h) (Or.inl ⟨by rfl, ?_⟩) ?_ ?_
  rotate_left
  · intro w'
    go_simp
    with_reducible rfl
  rotate_left
  · simp only [Act.put, List.setIfInBounds_toArray, List.set_cons_zero, List.set_cons_succ, i64_w, i32_w]
    rfl
  refine pure_ (i := 2) (N := some 103) (v := ?_) (a' := ?_) #[true, true, true, false, false, false, false, false, false, false, false, false, false, false, false, false, false, false, false, false] rfl rfl (by kernel_rfl) (fun _ _ _ h => h) (Or.inl ⟨by rfl, ?_⟩) ?_ ?_
  rotate_left
  · intro w'
    go_simp
    with_reducible rfl
  rotate_left
  · simp only [Act.put, List.setIfInBounds_toArray, List.set_cons_zero, List.set_cons_succ, i64_w, i32_w]
    rfl
  refine pure_ (i := 3) (N := some 104) (v := ?_) (a' := ?_) #[true, true, true, true, false, false, false, false, false, false, false, false, false, false, false, false, false, false, false, false] rfl rfl (by kernel_rfl) (fun _ _ _ h => h) (Or.inl ⟨by rfl, ?_⟩) ?_ ?_
  rotate_left
  · intro w'
    go_simp
    with_reducible rfl
  rotate_left
  · simp only [Act.put, List.setIfInBounds_toArray, List.set_cons_zero, List.set_cons_succ, i64_w, i32_w]
    rfl
  refine pure_ (i := 4) (N := some 105) (v := ?_) (a' := ?_) #[true, true, true, true, true, false, false, false, false, false, false, false, false, false, false, false, false, false, false, false] rfl rfl (by kernel_rfl) (fun _ _ _ h => h) (Or.inl ⟨by rfl, ?_⟩) ?_ ?_
  rotate_left
  · intro w'
    go_simp
    with_reducible rfl
  rotate_left
  · simp only [Act.put, List.setIfInBounds_toArray, List.set_cons_zero, List.set_cons_succ, i64_w, i32_w]
    rfl
  refine pure_ (i := 6) (N := some 107) (v := ?_) (a' := ?_) #[true, true, true, true, true, false, true, false, false, false, false, false, false, false, false, false, false, false, false, false] rfl rfl (by kernel_rfl) (fun _ _ _ h => h) (Or.inl ⟨by rfl, ?_⟩) ?_ ?_
  rotate_left
  · intro w'
    go_simp
    with_reducible rfl
  rotate_left
  · simp only [Act.put, List.setIfInBounds_toArray, List.set_cons_zero, List.set_cons_succ, i64_w, i32_w]
    rfl
  refine pure_ (i := 8) (N := some 109) (v := ?_) (a' := ?_) #[true, true, true, true, true, false, true, false, true, false, false, false, false, false, false, false, false, false, false, false] rfl rfl (by kernel_rfl) (fun _ _ _ h => h) (Or.inl ⟨by rfl, ?_⟩) ?_ ?_
  rotate_left
  · intro w'
    go_simp
    with_reducible rfl
  rotate_left
  · simp only [Act.put, List.setIfInBounds_toArray, List.set_cons_zero, List.set_cons_succ, i64_w, i32_w]
    rfl
  refine pure_ (i := 9) (N := some 110) (v := ?_) (a' := ?_) #[true, true, true, true, true, false, true, false, true, true, false, false, false, false, false, false, false, false, false, false] rfl rfl (by kernel_rfl) (fun _ _ _ h => h) (Or.inl ⟨by rfl, ?_⟩) ?_ ?_
  rotate_left
  · intro w'
    go_simp
    with_reducible rfl
  rotate_left
  · simp only [Act.put, List.setIfInBounds_toArray, List.set_cons_zero, List.set_cons_succ, i64_w, i32_w]
    rfl
  refine pure_ (i := 10) (N := some 111) (v := ?_) (a' := ?_) #[true, true, true, true, true, false, true, false, true, true, true, false, false, false, false, false, false, false, false, false] rfl rfl (by kernel_rfl) (fun _ _ _ h => h) (Or.inl ⟨by rfl, ?_⟩) ?_ ?_
  rotate_left
  · intro w'
    go_simp
    with_reducible rfl
  rotate_left
  · simp only [Act.put, List.setIfInBounds_toArray, List.set_cons_zero, List.set_cons_succ, i64_w, i32_w]
    rfl
  refine pure_ (i := 12) (N := some 113) (v := ?_) (a' := ?_) #[true, true, true, true, true, false, true, false, true, true, true, false, true, false, false, false, false, false, false, false] rfl rfl (by kernel_rfl) (fun _ _ _ h => h) (Or.inl ⟨by rfl, ?_⟩) ?_ ?_
  rotate_left
  · intro w'
    go_simp
    with_reducible rfl
  rotate_left
  · simp only [Act.put, List.setIfInBounds_toArray, List.set_cons_zero, List.set_cons_succ, i64_w, i32_w]
    rfl
  refine take_ (i := 5) (N := some 106) (v := ?_) (a' := ?_) #[true, true, true, true, true, true, true, false, true, true, true, false, true, false, false, false, false, false, false, false] rfl rfl (by kernel_rfl) (fun _ _ _ h => h) (Or.inl ⟨by rfl, ?_⟩) hHeld ?_ ?_
  rotate_left
  · rintro w' ⟨s0, s1⟩
    go_simp
    with_reducible rfl
  rotate_left
  · simp only [Act.put, List.setIfInBounds_toArray, List.set_cons_zero, List.set_cons_succ, i64_w, i32_w]
    rfl
  refine pure_ (i := 7) (N := some 108) (v := ?_) (a' := ?_) #[true, true, true, true, true, true, true, true, true, true, true, false, true, false, false, false, false, false, false, false] rfl rfl (by kernel_rfl) (fun _ _ _ h => h) (Or.inl ⟨by rfl, ?_⟩) ?_ ?_
  rotate_left
  · intro w'
    go_simp
    with_reducible rfl
  rotate_left
  · simp only [Act.put, List.setIfInBounds_toArray, List.set_cons_zero, List.set_cons_succ, i64_w, i32_w]
    rfl
  refine take_ (i := 11) (N := some 112) (v := ?_) (a' := ?_) #[true, true, true, true, true, true, true, true, true, true, true, true, true, false, false, false, false, false, false, false] rfl rfl (by kernel_rfl) (fun _ _ _ h => h) (Or.inl ⟨by rfl, ?_⟩) hHeld ?_ ?_
  rotate_left
  · rintro w' ⟨s0, s1⟩
    go_simp
    with_reducible rfl
  rotate_left
  · simp only [Act.put, List.setIfInBounds_toArray, List.set_cons_zero, List.set_cons_succ, i64_w, i32_w]
    rfl
  refine pure_ (i := 13) (N := some 114) (v := ?_) (a' := ?_) #[true, true, true, true, true, true, true, true, true, true, true, true, true, true, false, false, false, false, false, false] rfl rfl (by kernel_rfl) (fun _ _ _ h => h) (Or.inl ⟨by rfl, ?_⟩) ?_ ?_
  rotate_left
  · intro w'
    go_simp
    with_reducible rfl
  rotate_left
  · simp only [Act.put, List.setIfInBounds_toArray, List.set_cons_zero, List.set_cons_succ, i64_w, i32_w]
    rfl
  refine pure_ (i := 14) (N := some 115) (v := ?_) (a' := ?_) #[true, true, true, true, true, true, true, true, true, true, true, true, true, true, true, false, false, false, false, false] rfl rfl (by kernel_rfl) (fun _ _ _ h => h) (Or.inl ⟨by rfl, ?_⟩) ?_ ?_
  rotate_left
  · intro w'
    go_simp
    with_reducible rfl
  rotate_left
  · simp only [Act.put, List.setIfInBounds_toArray, List.set_cons_zero, List.set_cons_succ, i64_w, i32_w]
    rfl
  refine pure_ (i := 15) (N := some 116) (v := ?_) (a' := ?_) #[true, true, true, true, true, true, true, true, true, true, true, true, true, true, true, true, false, false, false, false] rfl rfl (by kernel_rfl) (fun _ _ _ h => h) (Or.inl ⟨by rfl, ?_⟩) ?_ ?_
  rotate_left
  · intro w'
    go_simp
    with_reducible rfl
  rotate_left
  · simp only [Act.put, List.setIfInBounds_toArray, List.set_cons_zero, List.set_cons_succ, i64_w, i32_w]
    rfl
  refine last_ (i := 16) (N := none) #[true, true, true, true, true, true, true, true, true, true, true, true, true, true, true, true, true, false, false, false] rfl rfl (by kernel_rfl) (by decide) (fun K hK => ?_)
  refine skip_ (w1 := ?_) (by rfl) rfl ?_ ?_
  rotate_left
  · go_simp
    rfl
  refine hK.out _ _ ?_
  clear hK K
  refine pure_ (i := 17) (N := some 117) (v := ?_) (a' := ?_) #[true, true, true, true, true, true, true, true, true, true, true, true, true, true, true, true, true, true, false, false] rfl rfl (by kernel_rfl) (fun _ _ _ h => h) (Or.inl ⟨by rfl, ?_⟩) ?_ ?_
  rotate_left
  · intro w'
    go_simp
    with_reducible rfl
  rotate_left
  · simp only [Act.put, List.setIfInBounds_toArray, List.set_cons_zero, List.set_cons_succ, i64_w, i32_w]
    rfl
  refine pure_ (i := 18) (N := some 118) (v := ?_) (a' := ?_) #[true, true, true, true, true, true, true, true, true, true, true, true, true, true, true, true, true, true, true, false] rfl rfl (by kernel_rfl) (fun _ _ _ h => h) (Or.inl ⟨by rfl, ?_⟩) ?_ ?_
  rotate_left
  · intro w'
    go_simp
    with_reducible rfl
  rotate_left
  · simp only [Act.put, List.setIfInBounds_toArray, List.set_cons_zero, List.set_cons_succ, i64_w, i32_w]
    rfl
  refine last_ (i := 19) (N := none) #[true, true, true, true, true, true, true, true, true, true, true, true, true, true, true, true, true, true, true, true] rfl rfl (by kernel_rfl) (by decide) (fun K hK => ?_)
  refine skip_ (w1 := ?_) (by rfl) rfl ?_ ?_
  rotate_left
  · go_simp
    rfl
  refine hK.out _ _ ?_
  clear hK K
  refine done_ (by kernel_rfl) ?_
  go_upto_region 8 with (fail)
  have oc0 : ∀ k, own (.slice (some ⟨hk, 0, none⟩) l ck0) k → own (.slice (some ⟨hk, 0, none⟩) (l + 1) ck0) k ∨ (W6.heap.size ≤ k ∧ k < W6.heap.size) := fun k hk => .inl ((own_slice _ _ _ _ _ _).2 ((own_slice _ _ _ _ _ _).1 hk))
  have oc1 : ∀ k, own (.slice (some ⟨hv, 0, none⟩) l cv0) k → own (.slice (some ⟨hv, 0, none⟩) (l + 1) cv0) k ∨ (W6.heap.size ≤ k ∧ k < W6.heap.size) := fun k hk => .inl ((own_slice _ _ _ _ _ _).2 ((own_slice _ _ _ _ _ _).1 hk))
  obtain ⟨W7, hW7⟩ : ∃ W7, W7 = (W6.setCell ⟨a, 0, none⟩ (.slice (some ⟨hk, 0, none⟩) l ck0)).setCell ⟨a, 1, none⟩ (.slice (some ⟨hv, 0, none⟩) l cv0) := ⟨_, rfl⟩
  rw [← hW7]
  obtain ⟨nA7, kk7⟩ := nA6.out.step01 (Chg.refl _ _) (show Row _ _ (.slice (some ⟨hk, 0, none⟩) l ck0) ((aks.take l).map sv) from (by have := nA6.out.rk.cut l (by omega); rwa [← List.map_take] at this)) (show Row _ _ (.slice (some ⟨hv, 0, none⟩) l cv0) ((avs.take l).map iv) from (by have := nA6.out.rv.cut l (by omega); rwa [← List.map_take] at this))
  rw [← hW7] at nA7 kk7
  have nN7 := nN6.out.chg kk7 (aNA6.out)
  have nB7 := nB6.out.chg kk7 (aAB6.out.symm)
  have aNA7 := (apart1 (oc1) (apart0 (oc0) (aNA6.out.symm) nN6.out.lt) nN6.out.lt).symm
  have aAB7 := apart1 (oc1) (apart0 (oc0) (aAB6.out) nB6.out.lt) nB6.out.lt
  have aNB7 := aNB6.out
  have sA7 := nset1 (oc1) (nset0 (oc0) sA6.out (fun k h => .inr (Nat.le_trans kC6.out.size h))) (fun k h => .inr (Nat.le_trans kC6.out.size h))
  have sN7 := sN6.out
  have sB7 := sB6.out
  have kC7 := kC6.out.trans' kk7 (fun k h => (sA6.out k h).imp (fun h => .inr (.inl h)) id)
  replace hW7 := Hid.mk' hW7
  replace kk7 := Hid.mk' kk7
  replace nN7 := Hid.mk' nN7
  replace nA7 := Hid.mk' nA7
  replace nB7 := Hid.mk' nB7
  replace sN7 := Hid.mk' sN7
  replace sA7 := Hid.mk' sA7
  replace sB7 := Hid.mk' sB7
  replace aNA7 := Hid.mk' aNA7
  replace aNB7 := Hid.mk' aNB7
  replace aAB7 := Hid.mk' aAB7
  replace kC7 := Hid.mk' kC7
  obtain ⟨W8, hW8⟩ : ∃ W8, W8 = W7.drew := ⟨_, rfl⟩
  rw [← hW8]
  have kk8 : Chg NoB W7 W8 := by rw [hW8]; exact (Chg.refl _ _).drew
  have nN8 := nN7.out.chg kk8 (fun _ _ h => h)
  have nA8 := nA7.out.chg kk8 (fun _ _ h => h)
  have nB8 := nB7.out.chg kk8 (fun _ _ h => h)
  have aNA8 := aNA7.out
  have aNB8 := aNB7.out
  have aAB8 := aAB7.out
  have sN8 := sN7.out
  have sA8 := sA7.out
  have sB8 := sB7.out
  have kC8 := kC7.out.trans' kk8 (fun _ h => h.elim)
  replace hW8 := Hid.mk' hW8
  replace kk8 := Hid.mk' kk8
  replace nN8 := Hid.mk' nN8
  replace nA8 := Hid.mk' nA8
  replace nB8 := Hid.mk' nB8
  replace sN8 := Hid.mk' sN8
  replace sA8 := Hid.mk' sA8
  replace sB8 := Hid.mk' sB8
  replace aNA8 := Hid.mk' aNA8
  replace aNB8 := Hid.mk' aNB8
  replace aAB8 := Hid.mk' aAB8
  replace kC8 := Hid.mk' kC8
  clear ac0 ac1 af0 af1
  have ac2 := nA8.out.c2
  rcases hZ'.out with ⟨rfl, rfl⟩ | ⟨hKK, z, rfl⟩
  · obtain rfl : zn0 = 0 := by have := la2.out; rw [hab'.out] at this; simpa using this
    go_wp2_with (go_at_call 25; refine (leaf_yes a _ _ _ ac2).mono ?_; rintro e w' ⟨rfl, rfl⟩)
    go_ret
    exact ⟨_, _, _, _, _, _, _, _, _, rfl, nN8.out, (by have h := nA8.out; rw [hab'.out] at h; exact h), nB8.out, aNA8.out, aNB8.out, aAB8.out, sN8.out, sA8.out, sB8.out, kC8.out⟩
  have hab2 := Hid.mk' (show abs.length = l + 2 by rw [hab'.out]; simp; omega)
  have ez2 := Hid.mk' (show (abs.map pv)[l + 1]? = some (.pointer (some ⟨z, 0, none⟩)) by rw [hab'.out, List.getElem?_map, List.getElem?_append_right (by omega)]; simp [hKK, pv])
  replace hKK := Hid.mk' hKK
  have zl : zn0 = l + 2 := la2.out.trans hab2.out
  subst zl
  obtain ⟨ha, rfl, _⟩ := nA8.out.rc.at (by have := hab2.out; simp; omega)
  have capa := nA8.out.rc.cap_le.2.1
  have bc2 := nB8.out.c2
  have bblk8 := Hid.mk' nB8.out.blk
  have ez2c : W8.cell? ⟨ha, l + 1, none⟩ = some (.pointer (some ⟨z, 0, none⟩)) := by
    obtain ⟨_, h, _, hc, hf, _⟩ := nA8.out.rc.at (by have := hab2.out; simp; omega)
    cases h
    exact hc _ _ ez2.out
  have RB2 := Hid.mk' nB8.out.rc
  have qb2 : Hid (¬ own (.slice zc1 zn1 zk1) b) := RB2.out.ne bblk8.out (by decide)
  have qa2 : Hid (¬ own (.slice zc1 zn1 zk1) a) := fun h => aAB8.out a (.inl rfl) (.inr (.inr (.inr h)))
  have qha2 : Hid (¬ own (.slice zc1 zn1 zk1) ha) := fun h => aAB8.out ha (.inr (.inr (.inr rfl))) (.inr (.inr (.inr h)))
  have ne2 : Hid (¬ own (.slice zc1 zn1 zk1) W8.heap.size) := fun h => by have := RB2.out.lt h; omega
  have y1 : (l : Int) + 1 < (l : Int) + 2 := by omega
  have y2 : IntKind.i64.wrap ((l : Int) + 1) = (l : Int) + 1 := by rw [IntKind.wrap_i64]; omega
  have y3 : (0 : Int) ≤ (l : Int) + 1 := by omega
  have y4 : ((l : Int) + 1).toNat = l + 1 := by omega
  go_upto_region 9 with (go_at_call 25; refine (leaf_no a _ _ _ _ ac2 (by omega)).mono ?_; rintro e w' ⟨rfl, rfl⟩)
  refine start_ (n := 18) (S := fun w' => w'.cell? ⟨b, 2, none⟩ = some (.slice zc1 zn1 zk1) ∧ w'.cell? ⟨a, 2, none⟩ = some (.slice (some ⟨ha, 0, none⟩) (l + 2) zk0) ∧ w'.cell? ⟨ha, l + 1, none⟩ = some (.pointer (some ⟨z, 0, none⟩))) (ds := [17]) #[false, false, false, false, false, false, false, false, false, false, false, false, false, false, false, false, false, false] (by kernel_rfl) rfl rfl ⟨bc2, ac2, ez2c⟩ (fun hHeld => ?_)
  refine pure_ (i := 0) (N := some 122) (v := ?_) (a' := ?_) #[true, false, false, false, false, false, false, false, false, false, false, false, false, false, false, false, false, false] rfl rfl (by kernel_rfl) (fun _ _ _ h => h) (Or.inl ⟨by rfl, ?_⟩) ?_ ?_
  rotate_left
  · intro w'
    go_simp
    with_reducible rfl
  rotate_left
  · simp only [Act.put, List.setIfInBounds_toArray, List.set_cons_zero, List.set_cons_succ, i64_w, i32_w]
    rfl
  refine pure_ (i := 1) (N := some 123) (v := ?_) (a' := ?_) #[true, true, false, false, false, false, false, false, false, false, false, false, false, false, false, false, false, false] rfl rfl (by kernel_rfl) (fun _ _ _ h => h) (Or.inl ⟨by rfl, ?_⟩) ?_ ?_
  rotate_left
  · intro w'
    go_simp
    with_reducible rfl
  rotate_left
  · simp only [Act.put, List.setIfInBounds_toArray, List.set_cons_zero, List.set_cons_succ, i64_w, i32_w]
    rfl
  refine pure_ (i := 2) (N := some 124) (v := ?_) (a' := ?_) #[true, true, true, false, false, false, false, false, false, false, false, false, false, false, false, false, false, false] rfl rfl (by kernel_rfl) (fun _ _ _ h => h) (Or.inl ⟨by rfl, ?_⟩) ?_ ?_
  rotate_left
  · intro w'
    go_simp
    with_reducible rfl
  rotate_left
  · simp only [Act.put, List.setIfInBounds_toArray, List.set_cons_zero, List.set_cons_succ, i64_w, i32_w]
    rfl
  refine pure_ (i := 3) (N := some 125) (v := ?_) (a' := ?_) #[true, true, true, true, false, false, false, false, false, false, false, false, false, false, false, false, false, false] rfl rfl (by kernel_rfl) (fun _ _ _ h => h) (Or.inl ⟨by rfl, ?_⟩) ?_ ?_
  rotate_left
  · intro w'
    go_simp
    with_reducible rfl
  rotate_left
  · simp only [Act.put, List.setIfInBounds_toArray, List.set_cons_zero, List.set_cons_succ, i64_w, i32_w]
    rfl
  refine pure_ (i := 5) (N := some 127) (v := ?_) (a' := ?_) #[true, true, true, true, false, true, false, false, false, false, false, false, false, false, false, false, false, false] rfl rfl (by kernel_rfl) (fun _ _ _ h => h) (Or.inl ⟨by rfl, ?_⟩) ?_ ?_
  rotate_left
  · intro w'
    go_simp
    with_reducible rfl
  rotate_left
  · simp only [Act.put, List.setIfInBounds_toArray, List.set_cons_zero, List.set_cons_succ, i64_w, i32_w]
    rfl
  refine pure_ (i := 6) (N := some 128) (v := ?_) (a' := ?_) #[true, true, true, true, false, true, true, false, false, false, false, false, false, false, false, false, false, false] rfl rfl (by kernel_rfl) (fun _ _ _ h => h) (Or.inl ⟨by rfl, ?_⟩) ?_ ?_
  rotate_left
  · intro w'
    go_simp
    with_reducible rfl
  rotate_left
  · simp only [Act.put, List.setIfInBounds_toArray, List.set_cons_zero, List.set_cons_succ, i64_w, i32_w]
    rfl
  refine pure_ (i := 7) (N := some 129) (v := ?_) (a' := ?_) #[true, true, true, true, false, true, true, true, false, false, false, false, false, false, false, false, false, false] rfl rfl (by kernel_rfl) (fun _ _ _ h => h) (Or.inl ⟨by rfl, ?_⟩) ?_ ?_
  rotate_left
  · intro w'
    go_simp
    with_reducible rfl
  rotate_left
  · simp only [Act.put, List.setIfInBounds_toArray, List.set_cons_zero, List.set_cons_succ, i64_w, i32_w]
    rfl
  refine pure_ (i := 9) (N := some 131) (v := ?_) (a' := ?_) #[true, true, true, true, false, true, true, true, false, true, false, false, false, false, false, false, false, false] rfl rfl (by kernel_rfl) (fun _ _ _ h => h) (Or.inl ⟨by rfl, ?_⟩) ?_ ?_
  rotate_left
  · intro w'
    go_simp
    with_reducible rfl
  rotate_left
  · simp only [Act.put, List.setIfInBounds_toArray, List.set_cons_zero, List.set_cons_succ, i64_w, i32_w]
    rfl
  refine pure_ (i := 10) (N := some 132) (v := ?_) (a' := ?_) #[true, true, true, true, false, true, true, true, false, true, true, false, false, false, false, false, false, false] rfl rfl (by kernel_rfl) (fun _ _ _ h => h) (Or.inl ⟨by rfl, ?_⟩) ?_ ?_
  rotate_left
  · intro w'
    go_simp
    with_reducible rfl
  rotate_left
  · simp only [Act.put, List.setIfInBounds_toArray, List.set_cons_zero, List.set_cons_succ, i64_w, i32_w]
    rfl
  refine take_ (i := 4) (N := some 126) (v := ?_) (a' := ?_) #[true, true, true, true, true, true, true, true, false, true, true, false, false, false, false, false, false, false] rfl rfl (by kernel_rfl) (fun _ _ _ h => h) (Or.inl ⟨by rfl, ?_⟩) hHeld ?_ ?_
  rotate_left
  · rintro w' ⟨s0, s1, s2⟩
    go_simp
    with_reducible rfl
  rotate_left
  · simp only [Act.put, List.setIfInBounds_toArray, List.set_cons_zero, List.set_cons_succ, i64_w, i32_w]
    rfl
  refine take_ (i := 8) (N := some 130) (v := ?_) (a' := ?_) #[true, true, true, true, true, true, true, true, true, true, true, false, false, false, false, false, false, false] rfl rfl (by kernel_rfl) (fun _ _ _ h => h) (Or.inl ⟨by rfl, ?_⟩) hHeld ?_ ?_
  rotate_left
  · rintro w' ⟨s0, s1, s2⟩
    go_simp
    with_reducible rfl
  rotate_left
  · simp only [Act.put, List.setIfInBounds_toArray, List.set_cons_zero, List.set_cons_succ, i64_w, i32_w]
    rfl
  refine pure_ (i := 11) (N := some 133) (v := ?_) (a' := ?_) #[true, true, true, true, true, true, true, true, true, true, true, true, false, false, false, false, false, false] rfl rfl (by kernel_rfl) (fun _ _ _ h => h) (Or.inl ⟨by rfl, ?_⟩) ?_ ?_
  rotate_left
  · intro w'
    go_simp
    with_reducible rfl
  rotate_left
  · simp only [Act.put, List.setIfInBounds_toArray, List.set_cons_zero, List.set_cons_succ, i64_w, i32_w]
    rfl
  refine take_ (i := 12) (N := some 134) (v := ?_) (a' := ?_) #[true, true, true, true, true, true, true, true, true, true, true, true, true, false, false, false, false, false] rfl rfl (by kernel_rfl) (fun _ _ _ h => h) (Or.inl ⟨by rfl, ?_⟩) hHeld ?_ ?_
  rotate_left
  · rintro w' ⟨s0, s1, s2⟩
    go_simp
    with_reducible rfl
  rotate_left
  · simp only [Act.put, List.setIfInBounds_toArray, List.set_cons_zero, List.set_cons_succ, i64_w, i32_w]
    rfl
  refine one_ (i := 13) (N := some 135) #[true, true, true, true, true, true, true, true, true, true, true, true, true, true, false, false, false, false] rfl rfl (by kernel_rfl) (by decide) (fun K hK => ?_)
  refine value_ (w1 := ?_) (v := ?_) (by rfl) rfl ?_ ?_
  rotate_left 2
  · go_simp
    constructor
    · rfl
    · rfl
  refine hK.out _ _ ⟨(by first | exact Lib.cell?_alloc_some _ bc2 | (show World.cell? (World.alloc W8 _) _ = _; exact Lib.cell?_alloc_some _ bc2)), (by first | exact Lib.cell?_alloc_some _ ac2 | (show World.cell? (World.alloc W8 _) _ = _; exact Lib.cell?_alloc_some _ ac2)), (by first | exact Lib.cell?_alloc_some _ ez2c | (show World.cell? (World.alloc W8 _) _ = _; exact Lib.cell?_alloc_some _ ez2c))⟩ (fun hHeld => ?_)
  clear hK K
  refine norm_ (a' := ?_) ?_ ?_
  rotate_left
  · show Act.put _ (some 135) _ = _
    simp only [Act.put, List.setIfInBounds_toArray, List.set_cons_zero, List.set_cons_succ, i64_w, i32_w]
    rfl
  refine one_ (i := 14) (N := some 136) #[true, true, true, true, true, true, true, true, true, true, true, true, true, true, true, false, false, false] rfl rfl (by kernel_rfl) (by decide) (fun K hK => ?_)
  refine goes_ Try.func48 (by kernel_rfl) rfl #[.slice zc1 zn1 zk1, .int .i64 0, .slice (some ⟨W8.heap.size, 0, none⟩) 1 1] (by rfl) rfl rfl (by simp only [List.map_toArray, List.map_cons, List.map_nil]; rfl) ?_
  with_reducible refine (insN (.slice zc1 zn1 zk1) 0 0 W8.heap.size (.pointer (some ⟨z, 0, none⟩)) (bbs.map pv) _ (by first | exact Row.alD RB2.out _ | exact Row.al RB2.out _) (Nat.zero_le _) rfl (by first | exact Row.litD W8 48 (.pointer (some ⟨z, 0, none⟩)) | exact Row.lit W8 48 (.pointer (some ⟨z, 0, none⟩))) ne2.out rfl (map_pv_cell _) ln2.out).mono ?_
  rintro e w9 ⟨v9, rfl, r9, o9, k9⟩
  refine ⟨_, rfl, ?_⟩
  replace k9 : Chg (own (.slice zc1 zn1 zk1)) W8 w9 := by first | exact Chg.of_allocD k9 | exact Chg.of_alloc k9
  replace o9 : ∀ k, own v9 k → own (.slice zc1 zn1 zk1) k ∨ (W8.heap.size ≤ k ∧ k < w9.heap.size) := fun k hk => (o9 k hk).imp id (fun h => ⟨Nat.le_trans (by simp) h.1, h.2⟩)
  obtain ⟨a9, n9, c9, rfl, l9⟩ := r9.form'
  have bc2' := k9.cell qb2.out bc2
  have bf2' : w9.frozen? ⟨b, 2, none⟩ = false := frozen_of_row _ b 2 _ _ (k9.heap qb2.out bblk8.out)
  replace r9 := Hid.mk' r9
  replace o9 := Hid.mk' o9
  replace k9 := Hid.mk' k9
  refine hK.out _ _ ⟨bc2', (k9.out.cell qa2.out ac2), (k9.out.cell qha2.out ez2c)⟩ (fun hHeld => ?_)
  clear hK K
  refine norm_ (a' := ?_) ?_ ?_
  rotate_left
  · show Act.put _ (some 136) _ = _
    simp only [Act.put, List.setIfInBounds_toArray, List.set_cons_zero, List.set_cons_succ, i64_w, i32_w]
    rfl
  refine pure_ (i := 15) (N := some 137) (v := ?_) (a' := ?_) #[true, true, true, true, true, true, true, true, true, true, true, true, true, true, true, true, false, false] rfl rfl (by kernel_rfl) (fun _ _ _ h => h) (Or.inl ⟨by rfl, ?_⟩) ?_ ?_
  rotate_left
  · intro w'
    go_simp
    with_reducible rfl
  rotate_left
  · simp only [Act.put, List.setIfInBounds_toArray, List.set_cons_zero, List.set_cons_succ, i64_w, i32_w]
    rfl
  refine pure_ (i := 16) (N := some 138) (v := ?_) (a' := ?_) #[true, true, true, true, true, true, true, true, true, true, true, true, true, true, true, true, true, false] rfl rfl (by kernel_rfl) (fun _ _ _ h => h) (Or.inl ⟨by rfl, ?_⟩) ?_ ?_
  rotate_left
  · intro w'
    go_simp
    with_reducible rfl
  rotate_left
  · simp only [Act.put, List.setIfInBounds_toArray, List.set_cons_zero, List.set_cons_succ, i64_w, i32_w]
    rfl
  refine last_ (i := 17) (N := none) #[true, true, true, true, true, true, true, true, true, true, true, true, true, true, true, true, true, true] rfl rfl (by kernel_rfl) (by decide) (fun K hK => ?_)
  refine skip_ (w1 := ?_) (by rfl) rfl ?_ ?_
  rotate_left
  · go_simp
    rfl
  refine hK.out _ _ ?_
  clear hK K
  refine done_ (by kernel_rfl) ?_
  go_upto_region 10 with (fail)
  obtain ⟨W9, hW9⟩ : ∃ W9, W9 = w9.setCell ⟨b, 2, none⟩ (.slice a9 n9 c9) := ⟨_, rfl⟩
  rw [← hW9]
  obtain ⟨nB9, kk9⟩ := nB8.out.step2 (k9.out) (show Row _ _ (.slice a9 n9 c9) ((z :: bbs).map pv) from (by simpa [pv] using r9.out))
  rw [← hW9] at nB9 kk9
  have nN9 := nN8.out.chg kk9 (aNB8.out)
  have nA9 := nA8.out.chg kk9 (aAB8.out)
  have aNB9 := (apart2 (o9.out) (aNB8.out.symm) nN8.out.lt).symm
  have aAB9 := (apart2 (o9.out) (aAB8.out.symm) nA8.out.lt).symm
  have aNA9 := aNA8.out
  have sB9 := nset2 (o9.out) sB8.out (fun k h => .inr (Nat.le_trans kC8.out.size h))
  have sN9 := sN8.out
  have sA9 := sA8.out
  have kC9 := kC8.out.trans' kk9 (fun k h => (sB8.out k h).imp (fun h => .inr (.inr h)) id)
  replace hW9 := Hid.mk' hW9
  replace kk9 := Hid.mk' kk9
  replace nN9 := Hid.mk' nN9
  replace nA9 := Hid.mk' nA9
  replace nB9 := Hid.mk' nB9
  replace sN9 := Hid.mk' sN9
  replace sA9 := Hid.mk' sA9
  replace sB9 := Hid.mk' sB9
  replace aNA9 := Hid.mk' aNA9
  replace aNB9 := Hid.mk' aNB9
  replace aAB9 := Hid.mk' aAB9
  replace kC9 := Hid.mk' kC9
  clear bc2 ac2 ez2c bc2' bf2'
  have ac2 := nA9.out.c2
  have af2 : W9.frozen? ⟨a, 2, none⟩ = false := nA9.out.fz 2
  have y5 : l + 1 ≤ zk0 := by omega
  have y6 : ¬ zk0 = 0 := by omega
  have y7 : (l : Int) + 1 ≤ (zk0 : Int) := by omega
  go_wp2_with fail
  go_ret
  have oc2 : ∀ k, own (.slice (some ⟨ha, 0, none⟩) (l + 1) zk0) k → own (.slice (some ⟨ha, 0, none⟩) (l + 2) zk0) k ∨ (W9.heap.size ≤ k ∧ k < W9.heap.size) := fun k hk => .inl ((own_slice _ _ _ _ _ _).2 ((own_slice _ _ _ _ _ _).1 hk))
  obtain ⟨W10, hW10⟩ : ∃ W10, W10 = W9.setCell ⟨a, 2, none⟩ (.slice (some ⟨ha, 0, none⟩) (l + 1) zk0) := ⟨_, rfl⟩
  rw [← hW10]
  obtain ⟨nA10, kk10⟩ := nA9.out.step2 (Chg.refl _ _) (show Row _ _ (.slice (some ⟨ha, 0, none⟩) (l + 1) zk0) ((abs.take (l + 1)).map pv) from (by have := nA9.out.rc.cut (l + 1) (by omega); rwa [← List.map_take] at this))
  rw [← hW10] at nA10 kk10
  have nN10 := nN9.out.chg kk10 (aNA9.out)
  have nB10 := nB9.out.chg kk10 (aAB9.out.symm)
  have aNA10 := (apart2 (oc2) (aNA9.out.symm) nN9.out.lt).symm
  have aAB10 := apart2 (oc2) (aAB9.out) nB9.out.lt
  have aNB10 := aNB9.out
  have sA10 := nset2 (oc2) sA9.out (fun k h => .inr (Nat.le_trans kC9.out.size h))
  have sN10 := sN9.out
  have sB10 := sB9.out
  have kC10 := kC9.out.trans' kk10 (fun k h => (sA9.out k h).imp (fun h => .inr (.inl h)) id)
  replace hW10 := Hid.mk' hW10
  replace kk10 := Hid.mk' kk10
  replace nN10 := Hid.mk' nN10
  replace nA10 := Hid.mk' nA10
  replace nB10 := Hid.mk' nB10
  replace sN10 := Hid.mk' sN10
  replace sA10 := Hid.mk' sA10
  replace sB10 := Hid.mk' sB10
  replace aNA10 := Hid.mk' aNA10
  replace aNB10 := Hid.mk' aNB10
  replace aAB10 := Hid.mk' aAB10
  replace kC10 := Hid.mk' kC10
  exact ⟨_, _, _, _, _, _, _, _, _, rfl, nN10.out, (by have h := nA10.out; rw [hab'.out, List.take_left' hKK.out] at h; exact h), nB10.out, aNA10.out, aNB10.out, aAB10.out, sN10.out, sA10.out, sB10.out, kC10.out⟩

end Go.Proofs.Ytamnmoejjjaegaa
