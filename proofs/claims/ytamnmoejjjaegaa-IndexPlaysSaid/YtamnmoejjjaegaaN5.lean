/- What (*node).enrich does where it takes a key from the right neighbour: the three nodes before and behind, apart from each other. Conditions: rows of at most 1000 elements. -/
import Derived.Test.YtamnmoejjjaegaaN2
import Derived.Test.YtamnmoejjjaegaaN3
set_option linter.unusedVariables false
set_option linter.unusedSimpArgs false
namespace Go.Proofs.Ytamnmoejjjaegaa
open Go Go.RowKit Go.Proofs.YtamnmoejjjaegaaW.PrintLast

set_option maxHeartbeats 16000000 in
set_option maxRecDepth 100000 in
theorem enrichR (n a b i d : Nat) (vi vd : Int) (ks : List ByteArray) (vs : List Int) (bs : List Nat) (aks : List ByteArray) (avs : List Int) (abs : List Nat) (bks : List ByteArray) (bvs : List Int) (bbs : List Nat) (vk vv vc uk uv uc tk tv tc : Value) (x p : ByteArray) (y r : Int) (ZZ BB : List Nat) (w : World)
    (hN : Nd w n vk vv vc ks vs bs) (hA : Nd w a uk uv uc aks avs abs) (hB : Nd w b tk tv tc bks bvs bbs) (aNA : Apart (nset n vk vv vc) (nset a uk uv uc)) (aNB : Apart (nset n vk vv vc) (nset b tk tv tc)) (aAB : Apart (nset a uk uv uc) (nset b tk tv tc))
    (hlack : Calls Try.prog 52 #[.pointer (some ⟨n, 0, none⟩), .int .i64 vi, .int .i64 vd] w fun e w' => e = .returned (.int .i64 2) ∧ Chg NoB w w')
    (hi : i < ks.length) (ha : bs[i]? = some a) (hb : bs[i + 1]? = some b) (hvi : vi = (i : Int)) (hx : ks[i]? = some x) (hy : vs[i]? = some y) (hl1 : vs.length = ks.length) (hl2 : bs.length = ks.length + 1) (hl3 : ks.length ≤ 1000)
    (hp : bks[0]? = some p) (hr : bvs[0]? = some r) (hab : bbs = ZZ ++ BB) (hak : aks.length ≤ 1000) (hav : avs.length ≤ 1000) (haa : abs.length ≤ 1000) (hZ : (abs = [] ∧ ZZ = [] ∧ BB = []) ∨ ∃ z, ZZ = [z]) :
    Calls Try.prog 40 #[.pointer (some ⟨n, 0, none⟩), .int .i64 vi, .int .i64 vd] w fun e w' => ∃ vk' vv' vc' uk' uv' uc' tk' tv' tc', e = .returned (.int .i64 (i : Int)) ∧ Nd w' n vk' vv' vc' (ks.set i p) (vs.set i r) bs ∧
        Nd w' a uk' uv' uc' (aks ++ [x]) (avs ++ [y]) (abs ++ ZZ) ∧ Nd w' b tk' tv' tc' (bks.drop 1) (bvs.drop 1) BB ∧ Apart (nset n vk' vv' vc') (nset a uk' uv' uc') ∧ Apart (nset n vk' vv' vc') (nset b tk' tv' tc') ∧ Apart (nset a uk' uv' uc') (nset b tk' tv' tc') ∧
        Sub (nset n vk' vv' vc') (fun k => nset n vk vv vc k ∨ w.heap.size ≤ k) ∧ Sub (nset a uk' uv' uc') (fun k => nset a uk uv uc k ∨ w.heap.size ≤ k) ∧ Sub (nset b tk' tv' tc') (fun k => nset b tk tv tc k ∨ w.heap.size ≤ k) ∧ Chg (fun k => nset n vk vv vc k ∨ nset a uk uv uc k ∨ nset b tk tv tc k) w w' := by
  subst hvi
  have ex0 := Hid.mk' (show (ks.map sv)[i]? = some (.string x) by rw [List.getElem?_map, hx]; rfl)
  have ex1 := Hid.mk' (show (vs.map iv)[i]? = some (.int .i64 y) by rw [List.getElem?_map, hy]; rfl)
  have ep0 := Hid.mk' (show (bks.map sv)[0]? = some (.string p) by rw [List.getElem?_map, hp]; rfl)
  have ep1 := Hid.mk' (show (bvs.map iv)[0]? = some (.int .i64 r) by rw [List.getElem?_map, hr]; rfl)
  have pk : 0 < bks.length := (List.getElem?_eq_some_iff.1 hp).1
  have pv' : 0 < bvs.length := (List.getElem?_eq_some_iff.1 hr).1
  obtain ⟨ak, nk, ck, av, nv, cv, ac, nc, cc, rfl, rfl, rfl, lk0, lv0, lc0⟩ := hN.form'
  obtain ⟨ak0, nk0, ck0, av0, nv0, cv0, zc0, zn0, zk0, rfl, rfl, rfl, la0, la1, la2⟩ := hA.form'
  obtain ⟨ak1, nk1, ck1, av1, nv1, cv1, zc1, zn1, zk1, rfl, rfl, rfl, lb0, lb1, lb2⟩ := hB.form'
  obtain ⟨gk, rfl, _⟩ := hN.rk.at (by simp; omega)
  obtain ⟨gv, rfl, _⟩ := hN.rv.at (by simp; omega)
  obtain ⟨gc, rfl, _, ccell, _⟩ := hN.rc.at (by simp; omega)
  obtain ⟨hk, rfl, _⟩ := hB.rk.at (by simp; omega)
  obtain ⟨hv, rfl, _⟩ := hB.rv.at (by simp; omega)
  have pk1 : (0 : Int) < (nk1 : Int) := by have := lb0.out; omega
  have pv1 : (0 : Int) < (nv1 : Int) := by have := lb1.out; omega
  have pk2 : 0 < nk1 := by omega
  have pv2 : 0 < nv1 := by omega
  have b1 : (i : Int) < (nc : Int) := by have := lc0.out; omega
  have b2 : (i : Int) + 1 < (nc : Int) := by have := lc0.out; omega
  have b3 : (i : Int) < (nk : Int) := by have := lk0.out; omega
  have b4 : (i : Int) < (nv : Int) := by have := lv0.out; omega
  have i1000 : i ≤ 1000 := by omega
  have ln0 : Hid ((aks.map sv).length ≤ 1048576) := by show _ ≤ _; simp; omega
  have ln1 : Hid ((avs.map iv).length ≤ 1048576) := by show _ ≤ _; simp; omega
  have ln2 : Hid ((abs.map pv).length ≤ 1048576) := by show _ ≤ _; simp; omega
  have hnl := Hid.mk' hi
  replace hl1 := Hid.mk' hl1
  replace hl2 := Hid.mk' hl2
  replace pk := Hid.mk' pk
  replace pv' := Hid.mk' pv'
  have kC0 : Chg (fun k => nset n (.slice (some ⟨gk, 0, none⟩) nk ck) (.slice (some ⟨gv, 0, none⟩) nv cv) (.slice (some ⟨gc, 0, none⟩) nc cc) k ∨ nset a (.slice ak0 nk0 ck0) (.slice av0 nv0 cv0) (.slice zc0 zn0 zk0) k ∨ nset b (.slice (some ⟨hk, 0, none⟩) nk1 ck1) (.slice (some ⟨hv, 0, none⟩) nv1 cv1) (.slice zc1 zn1 zk1) k) w w := Chg.refl _ _
  have sN0 : Sub (nset n (.slice (some ⟨gk, 0, none⟩) nk ck) (.slice (some ⟨gv, 0, none⟩) nv cv) (.slice (some ⟨gc, 0, none⟩) nc cc)) (fun k => nset n (.slice (some ⟨gk, 0, none⟩) nk ck) (.slice (some ⟨gv, 0, none⟩) nv cv) (.slice (some ⟨gc, 0, none⟩) nc cc) k ∨ w.heap.size ≤ k) := fun k h => .inl h
  have sA0 : Sub (nset a (.slice ak0 nk0 ck0) (.slice av0 nv0 cv0) (.slice zc0 zn0 zk0)) (fun k => nset a (.slice ak0 nk0 ck0) (.slice av0 nv0 cv0) (.slice zc0 zn0 zk0) k ∨ w.heap.size ≤ k) := fun k h => .inl h
  have sB0 : Sub (nset b (.slice (some ⟨hk, 0, none⟩) nk1 ck1) (.slice (some ⟨hv, 0, none⟩) nv1 cv1) (.slice zc1 zn1 zk1)) (fun k => nset b (.slice (some ⟨hk, 0, none⟩) nk1 ck1) (.slice (some ⟨hv, 0, none⟩) nv1 cv1) (.slice zc1 zn1 zk1) k ∨ w.heap.size ≤ k) := fun k h => .inl h
  have nN0 := Hid.mk' hN
  have nA0 := Hid.mk' hA
  have nB0 := Hid.mk' hB
  have aNA0 := Hid.mk' aNA
  have aNB0 := Hid.mk' aNB
  have aAB0 := Hid.mk' aAB
  have ce0' := Hid.mk' (show (bs.map pv)[i]? = some (.pointer (some ⟨a, 0, none⟩)) by rw [List.getElem?_map, ha]; rfl)
  have ce1' := Hid.mk' (show (bs.map pv)[i + 1]? = some (.pointer (some ⟨b, 0, none⟩)) by rw [List.getElem?_map, hb]; rfl)
  have hlack' := Hid.mk' hlack
  have hab' := Hid.mk' hab
  have hZ' := Hid.mk' hZ
  clear hab hZ
  clear hN hA hB aNA aNB aAB hi ha hb hx hy hp hr hak hav haa hlack ccell
  replace kC0 := Hid.mk' kC0
  replace sN0 := Hid.mk' sN0
  replace sA0 := Hid.mk' sA0
  replace sB0 := Hid.mk' sB0
  go_enter Try.func40, Try.ntmps40
  go_upto_region 12 with (go_at_call 52; refine hlack'.out.mono ?_; rintro e W1 ⟨rfl, kl⟩)
  have kk1 : Chg NoB w W1 := by exact kl
  have nN1 := nN0.out.chg kk1 (fun _ _ h => h)
  have nA1 := nA0.out.chg kk1 (fun _ _ h => h)
  have nB1 := nB0.out.chg kk1 (fun _ _ h => h)
  have aNA1 := aNA0.out
  have aNB1 := aNB0.out
  have aAB1 := aAB0.out
  have sN1 := sN0.out
  have sA1 := sA0.out
  have sB1 := sB0.out
  have kC1 := kC0.out.trans' kk1 (fun _ h => h.elim)
  replace kk1 := Hid.mk' kk1
  replace nN1 := Hid.mk' nN1
  replace nA1 := Hid.mk' nA1
  replace nB1 := Hid.mk' nB1
  replace sN1 := Hid.mk' sN1
  replace sA1 := Hid.mk' sA1
  replace sB1 := Hid.mk' sB1
  replace aNA1 := Hid.mk' aNA1
  replace aNB1 := Hid.mk' aNB1
  replace aAB1 := Hid.mk' aAB1
  replace kC1 := Hid.mk' kC1
  clear kl
  have cc2 := nN1.out.c2
  have ce0 : W1.cell? ⟨gc, i, none⟩ = some (.pointer (some ⟨a, 0, none⟩)) := by
    obtain ⟨_, h, _, hc, _⟩ := nN1.out.rc.at (by have := hl2.out; simp; omega)
    cases h
    exact hc _ _ ce0'.out
  have ce1 : W1.cell? ⟨gc, i + 1, none⟩ = some (.pointer (some ⟨b, 0, none⟩)) := by
    obtain ⟨_, h, _, hc, _⟩ := nN1.out.rc.at (by have := hl2.out; simp; omega)
    cases h
    exact hc _ _ ce1'.out
  have w2 : (0 : Int) ≤ (i : Int) + 1 := by omega
  have w4 : ((i : Int) + 1).toNat = i + 1 := by omega
  have w6 : IntKind.i64.wrap ((i : Int) + 1) = (i : Int) + 1 := by rw [IntKind.wrap_i64]; omega
  refine start_ (n := 17) (S := fun w' => w'.cell? ⟨n, 2, none⟩ = some (.slice (some ⟨gc, 0, none⟩) nc cc) ∧ w'.cell? ⟨gc, i, none⟩ = some (.pointer (some ⟨a, 0, none⟩)) ∧ w'.cell? ⟨gc, i + 1, none⟩ = some (.pointer (some ⟨b, 0, none⟩))) (ds := []) #[false, false, false, false, false, false, false, false, false, false, false, false, false, false, false, false, false] (by kernel_rfl) rfl rfl ⟨cc2, ce0, ce1⟩ (fun hHeld => ?_)
  refine pure_ (i := 0) (N := some 151) (v := ?_) (a' := ?_) #[true, false, false, false, false, false, false, false, false, false, false, false, false, false, false, false, false] rfl rfl (by kernel_rfl) (fun _ _ _ h => h) (Or.inl ⟨by rfl, ?_⟩) ?_ ?_
  rotate_left
  · intro w'
    go_simp
    with_reducible rfl
  rotate_left
  · simp only [Act.put, List.setIfInBounds_toArray, List.set_cons_zero, List.set_cons_succ, i64_w, i32_w]
    rfl
  refine pure_ (i := 1) (N := some 152) (v := ?_) (a' := ?_) #[true, true, false, false, false, false, false, false, false, false, false, false, false, false, false, false, false] rfl rfl (by kernel_rfl) (fun _ _ _ h => h) (Or.inl ⟨by rfl, ?_⟩) ?_ ?_
  rotate_left
  · intro w'
    go_simp
    with_reducible rfl
  rotate_left
  · simp only [Act.put, List.setIfInBounds_toArray, List.set_cons_zero, List.set_cons_succ, i64_w, i32_w]
    rfl
  refine pure_ (i := 2) (N := some 153) (v := ?_) (a' := ?_) #[true, true, true, false, false, false, false, false, false, false, false, false, false, false, false, false, false] rfl rfl (by kernel_rfl) (fun _ _ _ h => h) (Or.inl ⟨by rfl, ?_⟩) ?_ ?_
  rotate_left
  · intro w'
    go_simp
    with_reducible rfl
  rotate_left
  · simp only [Act.put, List.setIfInBounds_toArray, List.set_cons_zero, List.set_cons_succ, i64_w, i32_w]
    rfl
  refine pure_ (i := 4) (N := some 155) (v := ?_) (a' := ?_) #[true, true, true, false, true, false, false, false, false, false, false, false, false, false, false, false, false] rfl rfl (by kernel_rfl) (fun _ _ _ h => h) (Or.inl ⟨by rfl, ?_⟩) ?_ ?_
  rotate_left
  · intro w'
    go_simp
    with_reducible rfl
  rotate_left
  · simp only [Act.put, List.setIfInBounds_toArray, List.set_cons_zero, List.set_cons_succ, i64_w, i32_w]
    rfl
  refine pure_ (i := 7) (N := some 158) (v := ?_) (a' := ?_) #[true, true, true, false, true, false, false, true, false, false, false, false, false, false, false, false, false] rfl rfl (by kernel_rfl) (fun _ _ _ h => h) (Or.inl ⟨by rfl, ?_⟩) ?_ ?_
  rotate_left
  · intro w'
    go_simp
    with_reducible rfl
  rotate_left
  · simp only [Act.put, List.setIfInBounds_toArray, List.set_cons_zero, List.set_cons_succ, i64_w, i32_w]
    rfl
  refine pure_ (i := 8) (N := some 159) (v := ?_) (a' := ?_) #[true, true, true, false, true, false, false, true, true, false, false, false, false, false, false, false, false] rfl rfl (by kernel_rfl) (fun _ _ _ h => h) (Or.inl ⟨by rfl, ?_⟩) ?_ ?_
  rotate_left
  · intro w'
    go_simp
    with_reducible rfl
  rotate_left
  · simp only [Act.put, List.setIfInBounds_toArray, List.set_cons_zero, List.set_cons_succ, i64_w, i32_w]
    rfl
  refine pure_ (i := 9) (N := some 160) (v := ?_) (a' := ?_) #[true, true, true, false, true, false, false, true, true, true, false, false, false, false, false, false, false] rfl rfl (by kernel_rfl) (fun _ _ _ h => h) (Or.inl ⟨by rfl, ?_⟩) ?_ ?_
  rotate_left
  · intro w'
    go_simp
    with_reducible rfl
  rotate_left
  · simp only [Act.put, List.setIfInBounds_toArray, List.set_cons_zero, List.set_cons_succ, i64_w, i32_w]
    rfl
  refine pure_ (i := 11) (N := some 162) (v := ?_) (a' := ?_) #[true, true, true, false, true, false, false, true, true, true, false, true, false, false, false, false, false] rfl rfl (by kernel_rfl) (fun _ _ _ h => h) (Or.inl ⟨by rfl, ?_⟩) ?_ ?_
  rotate_left
  · intro w'
    go_simp
    with_reducible rfl
  rotate_left
  · simp only [Act.put, List.setIfInBounds_toArray, List.set_cons_zero, List.set_cons_succ, i64_w, i32_w]
    rfl
  refine pure_ (i := 12) (N := some 163) (v := ?_) (a' := ?_) #[true, true, true, false, true, false, false, true, true, true, false, true, true, false, false, false, false] rfl rfl (by kernel_rfl) (fun _ _ _ h => h) (Or.inl ⟨by rfl, ?_⟩) ?_ ?_
  rotate_left
  · intro w'
    go_simp
    with_reducible rfl
  rotate_left
  · simp only [Act.put, List.setIfInBounds_toArray, List.set_cons_zero, List.set_cons_succ, i64_w, i32_w]
    rfl
  refine take_ (i := 3) (N := some 154) (v := ?_) (a' := ?_) #[true, true, true, true, true, false, false, true, true, true, false, true, true, false, false, false, false] rfl rfl (by kernel_rfl) (fun _ _ _ h => h) (Or.inl ⟨by rfl, ?_⟩) hHeld ?_ ?_
  rotate_left
  · rintro w' ⟨s0, s1, s2⟩
    go_simp
    with_reducible rfl
  rotate_left
  · simp only [Act.put, List.setIfInBounds_toArray, List.set_cons_zero, List.set_cons_succ, i64_w, i32_w]
    rfl
  refine pure_ (i := 5) (N := some 156) (v := ?_) (a' := ?_) #[true, true, true, true, true, true, false, true, true, true, false, true, true, false, false, false, false] rfl rfl (by kernel_rfl) (fun _ _ _ h => h) (Or.inl ⟨by rfl, ?_⟩) ?_ ?_
  rotate_left
  · intro w'
    go_simp
    with_reducible rfl
  rotate_left
  · simp only [Act.put, List.setIfInBounds_toArray, List.set_cons_zero, List.set_cons_succ, i64_w, i32_w]
    rfl
  refine take_ (i := 6) (N := some 157) (v := ?_) (a' := ?_) #[true, true, true, true, true, true, true, true, true, true, false, true, true, false, false, false, false] rfl rfl (by kernel_rfl) (fun _ _ _ h => h) (Or.inl ⟨by rfl, ?_⟩) hHeld ?_ ?_
  rotate_left
  · rintro w' ⟨s0, s1, s2⟩
    go_simp
    with_reducible rfl
  rotate_left
  · simp only [Act.put, List.setIfInBounds_toArray, List.set_cons_zero, List.set_cons_succ, i64_w, i32_w]
    rfl
  refine pure_ (i := 15) (N := some 10) (v := ?_) (a' := ?_) #[true, true, true, true, true, true, true, true, true, true, false, true, true, false, false, true, false] rfl rfl (by kernel_rfl) (fun _ _ _ h => h) (Or.inl ⟨by rfl, ?_⟩) ?_ ?_
  rotate_left
  · intro w'
    go_simp
    with_reducible rfl
  rotate_left
  · simp only [Act.put, List.setIfInBounds_toArray, List.set_cons_zero, List.set_cons_succ, i64_w, i32_w]
    rfl
  refine take_ (i := 10) (N := some 161) (v := ?_) (a' := ?_) #[true, true, true, true, true, true, true, true, true, true, true, true, true, false, false, true, false] rfl rfl (by kernel_rfl) (fun _ _ _ h => h) (Or.inl ⟨by rfl, ?_⟩) hHeld ?_ ?_
  rotate_left
  · rintro w' ⟨s0, s1, s2⟩
    go_simp
    with_reducible rfl
  rotate_left
  · simp only [Act.put, List.setIfInBounds_toArray, List.set_cons_zero, List.set_cons_succ, i64_w, i32_w]
    rfl
  refine pure_ (i := 13) (N := some 164) (v := ?_) (a' := ?_) #[true, true, true, true, true, true, true, true, true, true, true, true, true, true, false, true, false] rfl rfl (by kernel_rfl) (fun _ _ _ h => h) (Or.inl ⟨by rfl, ?_⟩) ?_ ?_
  rotate_left
  · intro w'
    go_simp
    with_reducible rfl
  rotate_left
  · simp only [Act.put, List.setIfInBounds_toArray, List.set_cons_zero, List.set_cons_succ, i64_w, i32_w]
    rfl
  refine take_ (i := 14) (N := some 165) (v := ?_) (a' := ?_) #[true, true, true, true, true, true, true, true, true, true, true, true, true, true, true, true, false] rfl rfl (by kernel_rfl) (fun _ _ _ h => h) (Or.inl ⟨by rfl, ?_⟩) hHeld ?_ ?_
  rotate_left
  · rintro w' ⟨s0, s1, s2⟩
    go_simp
    with_reducible rfl
  rotate_left
  · simp only [Act.put, List.setIfInBounds_toArray, List.set_cons_zero, List.set_cons_succ, i64_w, i32_w]
    rfl
  refine pure_ (i := 16) (N := some 11) (v := ?_) (a' := ?_) #[true, true, true, true, true, true, true, true, true, true, true, true, true, true, true, true, true] rfl rfl (by kernel_rfl) (fun _ _ _ h => h) (Or.inl ⟨by rfl, ?_⟩) ?_ ?_
  rotate_left
  · intro w'
    go_simp
    with_reducible rfl
  rotate_left
  · simp only [Act.put, List.setIfInBounds_toArray, List.set_cons_zero, List.set_cons_succ, i64_w, i32_w]
    rfl
  refine done_ (by kernel_rfl) ?_
  go_upto_region 13 with (fail)
  obtain ⟨W2, hW2⟩ : ∃ W2, W2 = W1.drew := ⟨_, rfl⟩
  rw [← hW2]
  have kk2 : Chg NoB W1 W2 := by rw [hW2]; exact (Chg.refl _ _).drew
  have nN2 := nN1.out.chg kk2 (fun _ _ h => h)
  have nA2 := nA1.out.chg kk2 (fun _ _ h => h)
  have nB2 := nB1.out.chg kk2 (fun _ _ h => h)
  have aNA2 := aNA1.out
  have aNB2 := aNB1.out
  have aAB2 := aAB1.out
  have sN2 := sN1.out
  have sA2 := sA1.out
  have sB2 := sB1.out
  have kC2 := kC1.out.trans' kk2 (fun _ h => h.elim)
  replace hW2 := Hid.mk' hW2
  replace kk2 := Hid.mk' kk2
  replace nN2 := Hid.mk' nN2
  replace nA2 := Hid.mk' nA2
  replace nB2 := Hid.mk' nB2
  replace sN2 := Hid.mk' sN2
  replace sA2 := Hid.mk' sA2
  replace sB2 := Hid.mk' sB2
  replace aNA2 := Hid.mk' aNA2
  replace aNB2 := Hid.mk' aNB2
  replace aAB2 := Hid.mk' aAB2
  replace kC2 := Hid.mk' kC2
  clear cc2 ce0 ce1
  have ac0 := nA2.out.c0
  have ac1 := nA2.out.c1
  have ablk := Hid.mk' nA2.out.blk
  have nc0 := nN2.out.c0
  have nc1 := nN2.out.c1
  have ec0 : W2.cell? ⟨gk, i, none⟩ = some (.string x) := by
    obtain ⟨_, h, _, hc, _⟩ := nN2.out.rk.at (by have := hnl.out; simp; omega)
    cases h
    exact hc _ _ ex0.out
  have ec1 : W2.cell? ⟨gv, i, none⟩ = some (.int .i64 y) := by
    obtain ⟨_, h, _, hc, _⟩ := nN2.out.rv.at (by have := hnl.out; have := hl1.out; simp; omega)
    cases h
    exact hc _ _ ex1.out
  have RB0 := Hid.mk' nA2.out.rk
  have RB1 := Hid.mk' nA2.out.rv
  have qb0 : Hid (¬ own (.slice ak0 nk0 ck0) a) := RB0.out.ne ablk.out (by decide)
  have qb1 : Hid (¬ own (.slice av0 nv0 cv0) a) := RB1.out.ne ablk.out (by decide)
  have qn0 : Hid (¬ own (.slice ak0 nk0 ck0) n) := fun h => aNA2.out n (.inl rfl) (.inr (.inl h))
  have qn1 : Hid (¬ own (.slice av0 nv0 cv0) n) := fun h => aNA2.out n (.inl rfl) (.inr (.inr (.inl h)))
  have qgk0 : Hid (¬ own (.slice ak0 nk0 ck0) gk) := fun h => aNA2.out gk (.inr (.inl rfl)) (.inr (.inl h))
  have qgk1 : Hid (¬ own (.slice av0 nv0 cv0) gk) := fun h => aNA2.out gk (.inr (.inl rfl)) (.inr (.inr (.inl h)))
  have qgv0 : Hid (¬ own (.slice ak0 nk0 ck0) gv) := fun h => aNA2.out gv (.inr (.inr (.inl rfl))) (.inr (.inl h))
  have qgv1 : Hid (¬ own (.slice av0 nv0 cv0) gv) := fun h => aNA2.out gv (.inr (.inr (.inl rfl))) (.inr (.inr (.inl h)))
  refine start_ (n := 34) (S := fun w' => w'.cell? ⟨a, 0, none⟩ = some (.slice ak0 nk0 ck0) ∧ w'.cell? ⟨a, 1, none⟩ = some (.slice av0 nv0 cv0) ∧ w'.cell? ⟨n, 0, none⟩ = some (.slice (some ⟨gk, 0, none⟩) nk ck) ∧ w'.cell? ⟨n, 1, none⟩ = some (.slice (some ⟨gv, 0, none⟩) nv cv) ∧ w'.cell? ⟨gk, i, none⟩ = some (.string x) ∧ w'.cell? ⟨gv, i, none⟩ = some (.int .i64 y)) (ds := [30, 33]) #[false, false, false, false, false, false, false, false, false, false, false, false, false, false, false, false, false, false, false, false, false, false, false, false, false, false, false, false, false, false, false, false, false, false] (by kernel_rfl) rfl rfl ⟨ac0, ac1, nc0, nc1, ec0, ec1⟩ (fun hHeld => ?_)
  refine pure_ (i := 0) (N := some 166) (v := ?_) (a' := ?_) #[true, false, false, false, false, false, false, false, false, false, false, false, false, false, false, false, false, false, false, false, false, false, false, false, false, false, false, false, false, false, false, false, false, false] rfl rfl (by kernel_rfl) (fun _ _ _ h => h) (Or.inl ⟨by rfl, ?_⟩) ?_ ?_
  rotate_left
  · intro w'
    go_simp
    with_reducible rfl
  rotate_left
  · simp only [Act.put, List.setIfInBounds_toArray, List.set_cons_zero, List.set_cons_succ, i64_w, i32_w]
    rfl
  refine pure_ (i := 1) (N := some 167) (v := ?_) (a' := ?_) #[true, true, false, false, false, false, false, false, false, false, false, false, false, false, false, false, false, false, false, false, false, false, false, false, false, false, false, false, false, false, false, false, false, false] rfl rfl (by kernel_rfl) (fun _ _ _ h => h) (Or.inl ⟨by rfl, ?_⟩) ?_ ?_
  rotate_left
  · intro w'
    go_simp
    with_reducible rfl
  rotate_left
  · simp only [Act.put, List.setIfInBounds_toArray, List.set_cons_zero, List.set_cons_succ, i64_w, i32_w]
    rfl
  refine pure_ (i := 2) (N := some 168) (v := ?_) (a' := ?_) #[true, true, true, false, false, false, false, false, false, false, false, false, false, false, false, false, false, false, false, false, false, false, false, false, false, false, false, false, false, false, false, false, false, false] rfl rfl (by kernel_rfl) (fun _ _ _ h => h) (Or.inl ⟨by rfl, ?_⟩) ?_ ?_
  rotate_left
  · intro w'
    go_simp
    with_reducible rfl
  rotate_left
  · simp only [Act.put, List.setIfInBounds_toArray, List.set_cons_zero, List.set_cons_succ, i64_w, i32_w]
    rfl
  refine pure_ (i := 3) (N := some 169) (v := ?_) (a' := ?_) #[true, true, true, true, false, false, false, false, false, false, false, false, false, false, false, false, false, false, false, false, false, false, false, false, false, false, false, false, false, false, false, false, false, false] rfl rfl (by kernel_rfl) (fun _ _ _ h => h) (Or.inl ⟨by rfl, ?_⟩) ?_ ?_
  rotate_left
  · intro w'
    go_simp
    with_reducible rfl
  rotate_left
  · simp only [Act.put, List.setIfInBounds_toArray, List.set_cons_zero, List.set_cons_succ, i64_w, i32_w]
    rfl
  refine pure_ (i := 4) (N := some 170) (v := ?_) (a' := ?_) #[true, true, true, true, true, false, false, false, false, false, false, false, false, false, false, false, false, false, false, false, false, false, false, false, false, false, false, false, false, false, false, false, false, false] rfl rfl (by kernel_rfl) (fun _ _ _ h => h) (Or.inl ⟨by rfl, ?_⟩) ?_ ?_
  rotate_left
  · intro w'
    go_simp
    with_reducible rfl
  rotate_left
  · simp only [Act.put, List.setIfInBounds_toArray, List.set_cons_zero, List.set_cons_succ, i64_w, i32_w]
    rfl
  refine pure_ (i := 6) (N := some 172) (v := ?_) (a' := ?_) #[true, true, true, true, true, false, true, false, false, false, false, false, false, false, false, false, false, false, false, false, false, false, false, false, false, false, false, false, false, false, false, false, false, false] rfl rfl (by kernel_rfl) (fun _ _ _ h => h) (Or.inl ⟨by rfl, ?_⟩) ?_ ?_
  rotate_left
  · intro w'
    go_simp
    with_reducible rfl
  rotate_left
  · simp only [Act.put, List.setIfInBounds_toArray, List.set_cons_zero, List.set_cons_succ, i64_w, i32_w]
    rfl
  refine pure_ (i := 7) (N := some 173) (v := ?_) (a' := ?_) #[true, true, true, true, true, false, true, true, false, false, false, false, false, false, false, false, false, false, false, false, false, false, false, false, false, false, false, false, false, false, false, false, false, false] rfl rfl (by kernel_rfl) (fun _ _ _ h => h) (Or.inl ⟨by rfl, ?_⟩) ?_ ?_
  rotate_left
  · intro w'
    go_simp
    with_reducible rfl
  rotate_left
  · simp only [Act.put, List.setIfInBounds_toArray, List.set_cons_zero, List.set_cons_succ, i64_w, i32_w]
    rfl
  refine pure_ (i := 8) (N := some 174) (v := ?_) (a' := ?_) #[true, true, true, true, true, false, true, true, true, false, false, false, false, false, false, false, false, false, false, false, false, false, false, false, false, false, false, false, false, false, false, false, false, false] rfl rfl (by kernel_rfl) (fun _ _ _ h => h) (Or.inl ⟨by rfl, ?_⟩) ?_ ?_
  rotate_left
  · intro w'
    go_simp
    with_reducible rfl
  rotate_left
  · simp only [Act.put, List.setIfInBounds_toArray, List.set_cons_zero, List.set_cons_succ, i64_w, i32_w]
    rfl
  refine pure_ (i := 10) (N := some 176) (v := ?_) (a' := ?_) #[true, true, true, true, true, false, true, true, true, false, true, false, false, false, false, false, false, false, false, false, false, false, false, false, false, false, false, false, false, false, false, false, false, false] rfl rfl (by kernel_rfl) (fun _ _ _ h => h) (Or.inl ⟨by rfl, ?_⟩) ?_ ?_
  rotate_left
  · intro w'
    go_simp
    with_reducible rfl
  rotate_left
  · simp only [Act.put, List.setIfInBounds_toArray, List.set_cons_zero, List.set_cons_succ, i64_w, i32_w]
    rfl
  refine pure_ (i := 15) (N := some 181) (v := ?_) (a' := ?_) #[true, true, true, true, true, false, true, true, true, false, true, false, false, false, false, true, false, false, false, false, false, false, false, false, false, false, false, false, false, false, false, false, false, false] rfl rfl (by kernel_rfl) (fun _ _ _ h => h) (Or.inl ⟨by rfl, ?_⟩) ?_ ?_
  rotate_left
  · intro w'
    go_simp
    with_reducible rfl
  rotate_left
  · simp only [Act.put, List.setIfInBounds_toArray, List.set_cons_zero, List.set_cons_succ, i64_w, i32_w]
    rfl
  refine pure_ (i := 16) (N := some 182) (v := ?_) (a' := ?_) #[true, true, true, true, true, false, true, true, true, false, true, false, false, false, false, true, true, false, false, false, false, false, false, false, false, false, false, false, false, false, false, false, false, false] rfl rfl (by kernel_rfl) (fun _ _ _ h => h) (Or.inl ⟨by rfl, ?_⟩) ?_ ?_
  rotate_left
  · intro w'
    go_simp
    with_reducible rfl
  rotate_left
  · simp only [Act.put, List.setIfInBounds_toArray, List.set_cons_zero, List.set_cons_succ, i64_w, i32_w]
    rfl
  refine pure_ (i := 17) (N := some 183) (v := ?_) (a' := ?_) #[true, true, true, true, true, false, true, true, true, false, true, false, false, false, false, true, true, true, false, false, false, false, false, false, false, false, false, false, false, false, false, false, false, false] rfl rfl (by kernel_rfl) (fun _ _ _ h => h) (Or.inl ⟨by rfl, ?_⟩) ?_ ?_
  rotate_left
  · intro w'
    go_simp
    with_reducible rfl
  rotate_left
  · simp only [Act.put, List.setIfInBounds_toArray, List.set_cons_zero, List.set_cons_succ, i64_w, i32_w]
    rfl
  refine pure_ (i := 19) (N := some 185) (v := ?_) (a' := ?_) #[true, true, true, true, true, false, true, true, true, false, true, false, false, false, false, true, true, true, false, true, false, false, false, false, false, false, false, false, false, false, false, false, false, false] rfl rfl (by kernel_rfl) (fun _ _ _ h => h) (Or.inl ⟨by rfl, ?_⟩) ?_ ?_
  rotate_left
  · intro w'
    go_simp
    with_reducible rfl
  rotate_left
  · simp only [Act.put, List.setIfInBounds_toArray, List.set_cons_zero, List.set_cons_succ, i64_w, i32_w]
    rfl
  refine pure_ (i := 20) (N := some 186) (v := ?_) (a' := ?_) #[true, true, true, true, true, false, true, true, true, false, true, false, false, false, false, true, true, true, false, true, true, false, false, false, false, false, false, false, false, false, false, false, false, false] rfl rfl (by kernel_rfl) (fun _ _ _ h => h) (Or.inl ⟨by rfl, ?_⟩) ?_ ?_
  rotate_left
  · intro w'
    go_simp
    with_reducible rfl
  rotate_left
  · simp only [Act.put, List.setIfInBounds_toArray, List.set_cons_zero, List.set_cons_succ, i64_w, i32_w]
    rfl
  refine pure_ (i := 21) (N := some 187) (v := ?_) (a' := ?_) #[true, true, true, true, true, false, true, true, true, false, true, false, false, false, false, true, true, true, false, true, true, true, false, false, false, false, false, false, false, false, false, false, false, false] rfl rfl (by kernel_rfl) (fun _ _ _ h => h) (Or.inl ⟨by rfl, ?_⟩) ?_ ?_
  rotate_left
  · intro w'
    go_simp
    with_reducible rfl
  rotate_left
  · simp only [Act.put, List.setIfInBounds_toArray, List.set_cons_zero, List.set_cons_succ, i64_w, i32_w]
    rfl
  refine pure_ (i := 23) (N := some 189) (v := ?_) (a' := ?_) #[true, true, true, true, true, false, true, true, true, false, true, false, false, false, false, true, true, true, false, true, true, true, false, true, false, false, false, false, false, false, false, false, false, false] rfl rfl (by kernel_rfl) (fun _ _ _ h => h) (Or.inl ⟨by rfl, ?_⟩) ?_ ?_
  rotate_left
  · intro w'
    go_simp
    with_reducible rfl
  rotate_left
  · simp only [Act.put, List.setIfInBounds_toArray, List.set_cons_zero, List.set_cons_succ, i64_w, i32_w]
    rfl
  refine take_ (i := 5) (N := some 171) (v := ?_) (a' := ?_) #[true, true, true, true, true, true, true, true, true, false, true, false, false, false, false, true, true, true, false, true, true, true, false, true, false, false, false, false, false, false, false, false, false, false] rfl rfl (by kernel_rfl) (fun _ _ _ h => h) (Or.inl ⟨by rfl, ?_⟩) hHeld ?_ ?_
  rotate_left
  · rintro w' ⟨s0, s1, s2, s3, s4, s5⟩
    go_simp
    with_reducible rfl
  rotate_left
  · simp only [Act.put, List.setIfInBounds_toArray, List.set_cons_zero, List.set_cons_succ, i64_w, i32_w]
    rfl
  refine take_ (i := 9) (N := some 175) (v := ?_) (a' := ?_) #[true, true, true, true, true, true, true, true, true, true, true, false, false, false, false, true, true, true, false, true, true, true, false, true, false, false, false, false, false, false, false, false, false, false] rfl rfl (by kernel_rfl) (fun _ _ _ h => h) (Or.inl ⟨by rfl, ?_⟩) hHeld ?_ ?_
  rotate_left
  · rintro w' ⟨s0, s1, s2, s3, s4, s5⟩
    go_simp
    with_reducible rfl
  rotate_left
  · simp only [Act.put, List.setIfInBounds_toArray, List.set_cons_zero, List.set_cons_succ, i64_w, i32_w]
    rfl
  refine pure_ (i := 11) (N := some 177) (v := ?_) (a' := ?_) #[true, true, true, true, true, true, true, true, true, true, true, true, false, false, false, true, true, true, false, true, true, true, false, true, false, false, false, false, false, false, false, false, false, false] rfl rfl (by kernel_rfl) (fun _ _ _ h => h) (Or.inl ⟨by rfl, ?_⟩) ?_ ?_
  rotate_left
  · intro w'
    go_simp
    with_reducible rfl
  rotate_left
  · simp only [Act.put, List.setIfInBounds_toArray, List.set_cons_zero, List.set_cons_succ, i64_w, i32_w]
    rfl
  refine take_ (i := 12) (N := some 178) (v := ?_) (a' := ?_) #[true, true, true, true, true, true, true, true, true, true, true, true, true, false, false, true, true, true, false, true, true, true, false, true, false, false, false, false, false, false, false, false, false, false] rfl rfl (by kernel_rfl) (fun _ _ _ h => h) (Or.inl ⟨by rfl, ?_⟩) hHeld ?_ ?_
  rotate_left
  · rintro w' ⟨s0, s1, s2, s3, s4, s5⟩
    go_simp
    with_reducible rfl
  rotate_left
  · simp only [Act.put, List.setIfInBounds_toArray, List.set_cons_zero, List.set_cons_succ, i64_w, i32_w]
    rfl
  refine take_ (i := 18) (N := some 184) (v := ?_) (a' := ?_) #[true, true, true, true, true, true, true, true, true, true, true, true, true, false, false, true, true, true, true, true, true, true, false, true, false, false, false, false, false, false, false, false, false, false] rfl rfl (by kernel_rfl) (fun _ _ _ h => h) (Or.inl ⟨by rfl, ?_⟩) hHeld ?_ ?_
  rotate_left
  · rintro w' ⟨s0, s1, s2, s3, s4, s5⟩
    go_simp
    with_reducible rfl
  rotate_left
  · simp only [Act.put, List.setIfInBounds_toArray, List.set_cons_zero, List.set_cons_succ, i64_w, i32_w]
    rfl
  refine take_ (i := 22) (N := some 188) (v := ?_) (a' := ?_) #[true, true, true, true, true, true, true, true, true, true, true, true, true, false, false, true, true, true, true, true, true, true, true, true, false, false, false, false, false, false, false, false, false, false] rfl rfl (by kernel_rfl) (fun _ _ _ h => h) (Or.inl ⟨by rfl, ?_⟩) hHeld ?_ ?_
  rotate_left
  · rintro w' ⟨s0, s1, s2, s3, s4, s5⟩
    go_simp
    with_reducible rfl
  rotate_left
  · simp only [Act.put, List.setIfInBounds_toArray, List.set_cons_zero, List.set_cons_succ, i64_w, i32_w]
    rfl
  refine pure_ (i := 24) (N := some 190) (v := ?_) (a' := ?_) #[true, true, true, true, true, true, true, true, true, true, true, true, true, false, false, true, true, true, true, true, true, true, true, true, true, false, false, false, false, false, false, false, false, false] rfl rfl (by kernel_rfl) (fun _ _ _ h => h) (Or.inl ⟨by rfl, ?_⟩) ?_ ?_
  rotate_left
  · intro w'
    go_simp
    with_reducible rfl
  rotate_left
  · simp only [Act.put, List.setIfInBounds_toArray, List.set_cons_zero, List.set_cons_succ, i64_w, i32_w]
    rfl
  refine take_ (i := 25) (N := some 191) (v := ?_) (a' := ?_) #[true, true, true, true, true, true, true, true, true, true, true, true, true, false, false, true, true, true, true, true, true, true, true, true, true, true, false, false, false, false, false, false, false, false] rfl rfl (by kernel_rfl) (fun _ _ _ h => h) (Or.inl ⟨by rfl, ?_⟩) hHeld ?_ ?_
  rotate_left
  · rintro w' ⟨s0, s1, s2, s3, s4, s5⟩
    go_simp
    with_reducible rfl
  rotate_left
  · simp only [Act.put, List.setIfInBounds_toArray, List.set_cons_zero, List.set_cons_succ, i64_w, i32_w]
    rfl
  refine join_ (σ := Nat × Nat × (Option Addr × Nat × Nat)) 7 #[true, true, true, true, true, true, true, true, true, true, true, true, true, true, true, true, true, true, true, true, true, true, true, true, true, true, true, false, false, false, false, false, false, false] (fun s => [(179, .slice (some ⟨s.1, 0, none⟩) 1 1), (180, .slice s.2.2.1 s.2.2.2.1 s.2.2.2.2), (192, .slice (some ⟨s.2.1, 0, none⟩) 1 1)]) (Half W2 9 3 (.slice ak0 nk0 ck0) ((aks ++ [x]).map sv) (.int .i64 y)) ?_ ?_
  rotate_left
  · intro hCont
    refine two_ (i := 13) (j := 26) (Ni := some 179) (Nj := some 192) #[true, true, true, true, true, true, true, true, true, true, true, true, true, true, false, true, true, true, true, true, true, true, true, true, true, true, false, false, false, false, false, false, false, false] #[true, true, true, true, true, true, true, true, true, true, true, true, true, false, false, true, true, true, true, true, true, true, true, true, true, true, true, false, false, false, false, false, false, false] rfl rfl rfl rfl (by kernel_rfl) (by decide) (by decide) (fun K hK => ?_) (fun K hK => ?_)
    · skip
      refine value_ (w1 := ?_) (v := ?_) (by rfl) rfl ?_ ?_
      rotate_left 2
      · go_simp
        constructor
        · rfl
        · rfl
      refine named fun X13 hX13 => ?_
      have kz13 : Hid (Chg NoB W2 X13) := by show Chg _ _ _; rw [hX13]; first | exact ((Chg.refl _ W2).alloc _).drew | exact (Chg.refl _ W2).alloc _
      have lit13_13 : Hid (Row X13 9 (.slice (some ⟨W2.heap.size, 0, none⟩) 1 1) [.string x]) := by show Row _ _ _ _; rw [hX13]; first | exact Row.lit _ _ _ | exact Row.litD _ _ _
      have blit13_13 : Hid (W2.heap.size ≤ W2.heap.size) := Nat.le_refl _
      clear hX13
      refine hK.out _ _ ⟨(kz13.out.cell (fun h => h) ac0), (kz13.out.cell (fun h => h) ac1), (kz13.out.cell (fun h => h) nc0), (kz13.out.cell (fun h => h) nc1), (kz13.out.cell (fun h => h) ec0), (kz13.out.cell (fun h => h) ec1)⟩ (fun hHeld => ?_)
      clear hK K
      refine norm_ (a' := ?_) ?_ ?_
      rotate_left
      · show Act.put _ (some 179) _ = _
        simp only [Act.put, List.setIfInBounds_toArray, List.set_cons_zero, List.set_cons_succ, i64_w, i32_w]
        rfl
      refine two_ (i := 14) (j := 26) (Ni := some 180) (Nj := some 192) #[true, true, true, true, true, true, true, true, true, true, true, true, true, true, true, true, true, true, true, true, true, true, true, true, true, true, false, false, false, false, false, false, false, false] #[true, true, true, true, true, true, true, true, true, true, true, true, true, true, false, true, true, true, true, true, true, true, true, true, true, true, true, false, false, false, false, false, false, false] rfl rfl rfl rfl (by kernel_rfl) (by decide) (by decide) (fun K hK => ?_) (fun K hK => ?_)
      · skip
        have Rc_13_14 := Hid.mk' (RB0.out.chg kz13.out (fun j a b => b.elim))
        refine append_step (by rfl) rfl (.tmp 171) (.tmp 179) 34 9 (.string ⟨#[]⟩) 16 rfl Try.underlying34 info9 rfl (.slice ak0 nk0 ck0) (.slice (some ⟨W2.heap.size, 0, none⟩) 1 1) (aks.map sv) [.string x] (by rfl) (by rfl) Rc_13_14.out lit13_13.out (by intro y hy; cases List.mem_singleton.1 hy; rfl) (by have := ln0.out; simp at this ⊢; omega) (by have := ln0.out; simp at this ⊢; omega) ?_
        intro v_13_14 X13_14 r_13_14 o_13_14 k_13_14
        obtain ⟨a13_14, n13_14, c13_14, rfl, l13_14⟩ := r_13_14.form'
        have kz13_14 : Hid (Chg (own (.slice ak0 nk0 ck0)) W2 X13_14) := (kz13.out.mono fun _ h => h.elim).trans k_13_14
        have res_13_14 : Hid (Row X13_14 9 (.slice a13_14 n13_14 c13_14) ((aks ++ [x]).map sv)) := (by simpa [sv, iv, pv] using r_13_14 : Row _ _ _ _)
        have ores_13_14 : Hid (∀ k, own (.slice a13_14 n13_14 c13_14) k → own (.slice ak0 nk0 ck0) k ∨ (W2.heap.size ≤ k ∧ k < X13_14.heap.size)) := fun k hk => (o_13_14 k hk).imp id fun h => ⟨Nat.le_trans kz13.out.size h.1, h.2⟩
        clear r_13_14 o_13_14 k_13_14
        refine hK.out _ _ ⟨(kz13_14.out.cell qb0.out ac0), (kz13_14.out.cell qb0.out ac1), (kz13_14.out.cell qn0.out nc0), (kz13_14.out.cell qn0.out nc1), (kz13_14.out.cell qgk0.out ec0), (kz13_14.out.cell qgv0.out ec1)⟩ (fun hHeld => ?_)
        clear hK K
        refine norm_ (a' := ?_) ?_ ?_
        rotate_left
        · show Act.put _ (some 180) _ = _
          simp only [Act.put, List.setIfInBounds_toArray, List.set_cons_zero, List.set_cons_succ, i64_w, i32_w]
          rfl
        refine one_ (i := 26) (N := some 192) #[true, true, true, true, true, true, true, true, true, true, true, true, true, true, true, true, true, true, true, true, true, true, true, true, true, true, true, false, false, false, false, false, false, false] rfl rfl (by kernel_rfl) (by decide) (fun K hK => ?_)
        refine value_ (w1 := ?_) (v := ?_) (by rfl) rfl ?_ ?_
        rotate_left 2
        · go_simp
          constructor
          · rfl
          · rfl
        refine named fun X13_14_26 hX13_14_26 => ?_
        have kz13_14_26 : Hid (Chg (own (.slice ak0 nk0 ck0)) W2 X13_14_26) := by show Chg _ _ _; rw [hX13_14_26]; first | exact kz13_14.out.alloc _ | exact (kz13_14.out.alloc _).drew
        have lit26_13_14_26 : Hid (Row X13_14_26 3 (.slice (some ⟨X13_14.heap.size, 0, none⟩) 1 1) [.int .i64 y]) := by show Row _ _ _ _; rw [hX13_14_26]; first | exact Row.lit _ _ _ | exact Row.litD _ _ _
        have blit26_13_14_26 : Hid (W2.heap.size ≤ X13_14.heap.size) := kz13_14.out.size
        have res_13_14_26 : Hid (Row X13_14_26 9 (.slice a13_14 n13_14 c13_14) ((aks ++ [x]).map sv)) := by show Row _ _ _ _; rw [hX13_14_26]; first | exact Row.al res_13_14.out _ | exact Row.alD res_13_14.out _
        have ores_13_14_26 : Hid (∀ k, own (.slice a13_14 n13_14 c13_14) k → own (.slice ak0 nk0 ck0) k ∨ (W2.heap.size ≤ k ∧ k < X13_14_26.heap.size)) := fun k hk => (ores_13_14.out k hk).imp id fun h => ⟨h.1, Nat.lt_of_lt_of_le h.2 (by rw [hX13_14_26]; simp)⟩
        clear hX13_14_26
        refine hK.out _ _ ⟨(kz13_14_26.out.cell qb0.out ac0), (kz13_14_26.out.cell qb0.out ac1), (kz13_14_26.out.cell qn0.out nc0), (kz13_14_26.out.cell qn0.out nc1), (kz13_14_26.out.cell qgk0.out ec0), (kz13_14_26.out.cell qgv0.out ec1)⟩ (fun hHeld => ?_)
        clear hK K
        refine norm_ (a' := ?_) ?_ ?_
        rotate_left
        · show Act.put _ (some 192) _ = _
          simp only [Act.put, List.setIfInBounds_toArray, List.set_cons_zero, List.set_cons_succ, i64_w, i32_w]
          rfl
        exact norm_ (by simp only [putAll, Act.put, List.setIfInBounds_toArray, List.set_cons_zero, List.set_cons_succ]) (hCont (W2.heap.size, X13_14.heap.size, (a13_14, n13_14, c13_14)) _ ⟨res_13_14_26.out, lit26_13_14_26.out, ores_13_14_26.out, blit26_13_14_26.out, kz13_14_26.out⟩)
      · skip
        refine value_ (w1 := ?_) (v := ?_) (by rfl) rfl ?_ ?_
        rotate_left 2
        · go_simp
          constructor
          · rfl
          · rfl
        refine named fun X13_26 hX13_26 => ?_
        have kz13_26 : Hid (Chg NoB W2 X13_26) := by show Chg _ _ _; rw [hX13_26]; first | exact kz13.out.alloc _ | exact (kz13.out.alloc _).drew
        have lit26_13_26 : Hid (Row X13_26 3 (.slice (some ⟨X13.heap.size, 0, none⟩) 1 1) [.int .i64 y]) := by show Row _ _ _ _; rw [hX13_26]; first | exact Row.lit _ _ _ | exact Row.litD _ _ _
        have blit26_13_26 : Hid (W2.heap.size ≤ X13.heap.size) := kz13.out.size
        have lit13_13_26 : Hid (Row X13_26 9 (.slice (some ⟨W2.heap.size, 0, none⟩) 1 1) [.string x]) := by show Row _ _ _ _; rw [hX13_26]; first | exact Row.al lit13_13.out _ | exact Row.alD lit13_13.out _
        have blit13_13_26 := blit13_13
        clear hX13_26
        refine hK.out _ _ ⟨(kz13_26.out.cell (fun h => h) ac0), (kz13_26.out.cell (fun h => h) ac1), (kz13_26.out.cell (fun h => h) nc0), (kz13_26.out.cell (fun h => h) nc1), (kz13_26.out.cell (fun h => h) ec0), (kz13_26.out.cell (fun h => h) ec1)⟩ (fun hHeld => ?_)
        clear hK K
        refine norm_ (a' := ?_) ?_ ?_
        rotate_left
        · show Act.put _ (some 192) _ = _
          simp only [Act.put, List.setIfInBounds_toArray, List.set_cons_zero, List.set_cons_succ, i64_w, i32_w]
          rfl
        refine one_ (i := 14) (N := some 180) #[true, true, true, true, true, true, true, true, true, true, true, true, true, true, true, true, true, true, true, true, true, true, true, true, true, true, true, false, false, false, false, false, false, false] rfl rfl (by kernel_rfl) (by decide) (fun K hK => ?_)
        have Rc_13_26_14 := Hid.mk' (RB0.out.chg kz13_26.out (fun j a b => b.elim))
        refine append_step (by rfl) rfl (.tmp 171) (.tmp 179) 34 9 (.string ⟨#[]⟩) 16 rfl Try.underlying34 info9 rfl (.slice ak0 nk0 ck0) (.slice (some ⟨W2.heap.size, 0, none⟩) 1 1) (aks.map sv) [.string x] (by rfl) (by rfl) Rc_13_26_14.out lit13_13_26.out (by intro y hy; cases List.mem_singleton.1 hy; rfl) (by have := ln0.out; simp at this ⊢; omega) (by have := ln0.out; simp at this ⊢; omega) ?_
        intro v_13_26_14 X13_26_14 r_13_26_14 o_13_26_14 k_13_26_14
        obtain ⟨a13_26_14, n13_26_14, c13_26_14, rfl, l13_26_14⟩ := r_13_26_14.form'
        have kz13_26_14 : Hid (Chg (own (.slice ak0 nk0 ck0)) W2 X13_26_14) := (kz13_26.out.mono fun _ h => h.elim).trans k_13_26_14
        have res_13_26_14 : Hid (Row X13_26_14 9 (.slice a13_26_14 n13_26_14 c13_26_14) ((aks ++ [x]).map sv)) := (by simpa [sv, iv, pv] using r_13_26_14 : Row _ _ _ _)
        have ores_13_26_14 : Hid (∀ k, own (.slice a13_26_14 n13_26_14 c13_26_14) k → own (.slice ak0 nk0 ck0) k ∨ (W2.heap.size ≤ k ∧ k < X13_26_14.heap.size)) := fun k hk => (o_13_26_14 k hk).imp id fun h => ⟨Nat.le_trans kz13_26.out.size h.1, h.2⟩
        have lit26_13_26_14 := Hid.mk' (lit26_13_26.out.chg k_13_26_14 (fun j a b => by rw [own_slice] at a; subst a; have h1 := RB0.out.lt b; have h2 := blit26_13_26.out; omega))
        have blit26_13_26_14 := blit26_13_26
        clear r_13_26_14 o_13_26_14 k_13_26_14
        refine hK.out _ _ ⟨(kz13_26_14.out.cell qb0.out ac0), (kz13_26_14.out.cell qb0.out ac1), (kz13_26_14.out.cell qn0.out nc0), (kz13_26_14.out.cell qn0.out nc1), (kz13_26_14.out.cell qgk0.out ec0), (kz13_26_14.out.cell qgv0.out ec1)⟩ (fun hHeld => ?_)
        clear hK K
        refine norm_ (a' := ?_) ?_ ?_
        rotate_left
        · show Act.put _ (some 180) _ = _
          simp only [Act.put, List.setIfInBounds_toArray, List.set_cons_zero, List.set_cons_succ, i64_w, i32_w]
          rfl
        exact norm_ (by simp only [putAll, Act.put, List.setIfInBounds_toArray, List.set_cons_zero, List.set_cons_succ]) (hCont (W2.heap.size, X13.heap.size, (a13_26_14, n13_26_14, c13_26_14)) _ ⟨res_13_26_14.out, lit26_13_26_14.out, ores_13_26_14.out, blit26_13_26_14.out, kz13_26_14.out⟩)
    · skip
      refine value_ (w1 := ?_) (v := ?_) (by rfl) rfl ?_ ?_
      rotate_left 2
      · go_simp
        constructor
        · rfl
        · rfl
      refine named fun X26 hX26 => ?_
      have kz26 : Hid (Chg NoB W2 X26) := by show Chg _ _ _; rw [hX26]; first | exact ((Chg.refl _ W2).alloc _).drew | exact (Chg.refl _ W2).alloc _
      have lit26_26 : Hid (Row X26 3 (.slice (some ⟨W2.heap.size, 0, none⟩) 1 1) [.int .i64 y]) := by show Row _ _ _ _; rw [hX26]; first | exact Row.lit _ _ _ | exact Row.litD _ _ _
      have blit26_26 : Hid (W2.heap.size ≤ W2.heap.size) := Nat.le_refl _
      clear hX26
      refine hK.out _ _ ⟨(kz26.out.cell (fun h => h) ac0), (kz26.out.cell (fun h => h) ac1), (kz26.out.cell (fun h => h) nc0), (kz26.out.cell (fun h => h) nc1), (kz26.out.cell (fun h => h) ec0), (kz26.out.cell (fun h => h) ec1)⟩ (fun hHeld => ?_)
      clear hK K
      refine norm_ (a' := ?_) ?_ ?_
      rotate_left
      · show Act.put _ (some 192) _ = _
        simp only [Act.put, List.setIfInBounds_toArray, List.set_cons_zero, List.set_cons_succ, i64_w, i32_w]
        rfl
      refine one_ (i := 13) (N := some 179) #[true, true, true, true, true, true, true, true, true, true, true, true, true, true, false, true, true, true, true, true, true, true, true, true, true, true, true, false, false, false, false, false, false, false] rfl rfl (by kernel_rfl) (by decide) (fun K hK => ?_)
      refine value_ (w1 := ?_) (v := ?_) (by rfl) rfl ?_ ?_
      rotate_left 2
      · go_simp
        constructor
        · rfl
        · rfl
      refine named fun X26_13 hX26_13 => ?_
      have kz26_13 : Hid (Chg NoB W2 X26_13) := by show Chg _ _ _; rw [hX26_13]; first | exact kz26.out.alloc _ | exact (kz26.out.alloc _).drew
      have lit13_26_13 : Hid (Row X26_13 9 (.slice (some ⟨X26.heap.size, 0, none⟩) 1 1) [.string x]) := by show Row _ _ _ _; rw [hX26_13]; first | exact Row.lit _ _ _ | exact Row.litD _ _ _
      have blit13_26_13 : Hid (W2.heap.size ≤ X26.heap.size) := kz26.out.size
      have lit26_26_13 : Hid (Row X26_13 3 (.slice (some ⟨W2.heap.size, 0, none⟩) 1 1) [.int .i64 y]) := by show Row _ _ _ _; rw [hX26_13]; first | exact Row.al lit26_26.out _ | exact Row.alD lit26_26.out _
      have blit26_26_13 := blit26_26
      clear hX26_13
      refine hK.out _ _ ⟨(kz26_13.out.cell (fun h => h) ac0), (kz26_13.out.cell (fun h => h) ac1), (kz26_13.out.cell (fun h => h) nc0), (kz26_13.out.cell (fun h => h) nc1), (kz26_13.out.cell (fun h => h) ec0), (kz26_13.out.cell (fun h => h) ec1)⟩ (fun hHeld => ?_)
      clear hK K
      refine norm_ (a' := ?_) ?_ ?_
      rotate_left
      · show Act.put _ (some 179) _ = _
        simp only [Act.put, List.setIfInBounds_toArray, List.set_cons_zero, List.set_cons_succ, i64_w, i32_w]
        rfl
      refine one_ (i := 14) (N := some 180) #[true, true, true, true, true, true, true, true, true, true, true, true, true, true, true, true, true, true, true, true, true, true, true, true, true, true, true, false, false, false, false, false, false, false] rfl rfl (by kernel_rfl) (by decide) (fun K hK => ?_)
      have Rc_26_13_14 := Hid.mk' (RB0.out.chg kz26_13.out (fun j a b => b.elim))
      refine append_step (by rfl) rfl (.tmp 171) (.tmp 179) 34 9 (.string ⟨#[]⟩) 16 rfl Try.underlying34 info9 rfl (.slice ak0 nk0 ck0) (.slice (some ⟨X26.heap.size, 0, none⟩) 1 1) (aks.map sv) [.string x] (by rfl) (by rfl) Rc_26_13_14.out lit13_26_13.out (by intro y hy; cases List.mem_singleton.1 hy; rfl) (by have := ln0.out; simp at this ⊢; omega) (by have := ln0.out; simp at this ⊢; omega) ?_
      intro v_26_13_14 X26_13_14 r_26_13_14 o_26_13_14 k_26_13_14
      obtain ⟨a26_13_14, n26_13_14, c26_13_14, rfl, l26_13_14⟩ := r_26_13_14.form'
      have kz26_13_14 : Hid (Chg (own (.slice ak0 nk0 ck0)) W2 X26_13_14) := (kz26_13.out.mono fun _ h => h.elim).trans k_26_13_14
      have res_26_13_14 : Hid (Row X26_13_14 9 (.slice a26_13_14 n26_13_14 c26_13_14) ((aks ++ [x]).map sv)) := (by simpa [sv, iv, pv] using r_26_13_14 : Row _ _ _ _)
      have ores_26_13_14 : Hid (∀ k, own (.slice a26_13_14 n26_13_14 c26_13_14) k → own (.slice ak0 nk0 ck0) k ∨ (W2.heap.size ≤ k ∧ k < X26_13_14.heap.size)) := fun k hk => (o_26_13_14 k hk).imp id fun h => ⟨Nat.le_trans kz26_13.out.size h.1, h.2⟩
      have lit26_26_13_14 := Hid.mk' (lit26_26_13.out.chg k_26_13_14 (fun j a b => by rw [own_slice] at a; subst a; have h1 := RB0.out.lt b; have h2 := blit26_26_13.out; omega))
      have blit26_26_13_14 := blit26_26_13
      clear r_26_13_14 o_26_13_14 k_26_13_14
      refine hK.out _ _ ⟨(kz26_13_14.out.cell qb0.out ac0), (kz26_13_14.out.cell qb0.out ac1), (kz26_13_14.out.cell qn0.out nc0), (kz26_13_14.out.cell qn0.out nc1), (kz26_13_14.out.cell qgk0.out ec0), (kz26_13_14.out.cell qgv0.out ec1)⟩ (fun hHeld => ?_)
      clear hK K
      refine norm_ (a' := ?_) ?_ ?_
      rotate_left
      · show Act.put _ (some 180) _ = _
        simp only [Act.put, List.setIfInBounds_toArray, List.set_cons_zero, List.set_cons_succ, i64_w, i32_w]
        rfl
      exact norm_ (by simp only [putAll, Act.put, List.setIfInBounds_toArray, List.set_cons_zero, List.set_cons_succ]) (hCont (X26.heap.size, W2.heap.size, (a26_13_14, n26_13_14, c26_13_14)) _ ⟨res_26_13_14.out, lit26_26_13_14.out, ores_26_13_14.out, blit26_26_13_14.out, kz26_13_14.out⟩)
  rintro ⟨gJ1, gJ2, aJ, nJ, cJ⟩ wJ ⟨rJ, litJ, oJ, blitJ, kJ⟩
  replace rJ : Hid (Row wJ 9 (.slice aJ nJ cJ) ((aks ++ [x]).map sv)) := rJ
  replace litJ : Hid (Row wJ 3 (.slice (some ⟨gJ2, 0, none⟩) 1 1) [.int .i64 y]) := litJ
  replace oJ : Hid (∀ k, own (.slice aJ nJ cJ) k → own (.slice ak0 nk0 ck0) k ∨ (W2.heap.size ≤ k ∧ k < wJ.heap.size)) := oJ
  replace blitJ : Hid (W2.heap.size ≤ gJ2) := blitJ
  replace kJ := Hid.mk' kJ
  have hHeld : (wJ.cell? ⟨a, 0, none⟩ = some (.slice ak0 nk0 ck0)) ∧ (wJ.cell? ⟨a, 1, none⟩ = some (.slice av0 nv0 cv0)) ∧ (wJ.cell? ⟨n, 0, none⟩ = some (.slice (some ⟨gk, 0, none⟩) nk ck)) ∧ (wJ.cell? ⟨n, 1, none⟩ = some (.slice (some ⟨gv, 0, none⟩) nv cv)) ∧ (wJ.cell? ⟨gk, i, none⟩ = some (.string x)) ∧ (wJ.cell? ⟨gv, i, none⟩ = some (.int .i64 y)) := ⟨kJ.out.cell qb0.out ac0, kJ.out.cell qb0.out ac1, kJ.out.cell qn0.out nc0, kJ.out.cell qn0.out nc1, kJ.out.cell qgk0.out ec0, kJ.out.cell qgv0.out ec1⟩
  have RcJ := Hid.mk' (RB1.out.chg kJ.out (fun j a b => RB1.out.apart RB0.out (by decide) j a b))
  refine norm_ (a' := ?_) ?_ ?_
  rotate_left
  · simp only [putAll, Act.put, List.setIfInBounds_toArray, List.set_cons_zero, List.set_cons_succ]
    rfl
  refine one_ (i := 27) (N := some 193) #[true, true, true, true, true, true, true, true, true, true, true, true, true, true, true, true, true, true, true, true, true, true, true, true, true, true, true, true, false, false, false, false, false, false] rfl rfl (by kernel_rfl) (by decide) (fun K hK => ?_)
  refine append_step (by rfl) rfl (.tmp 184) (.tmp 192) 35 3 (.int .i64 0) 8 rfl Try.underlying35 info3 rfl (.slice av0 nv0 cv0) (.slice (some ⟨gJ2, 0, none⟩) 1 1) (avs.map iv) [.int .i64 y] (by rfl) (by rfl) RcJ.out litJ.out (by intro y hy; cases List.mem_singleton.1 hy; rfl) (by have := ln1.out; simp at this ⊢; omega) (by have := ln1.out; simp at this ⊢; omega) ?_
  intro vK wK rK oK kK0
  obtain ⟨aK, nK, cK, rfl, lK⟩ := rK.form'
  have kK : Hid (Chg (fun k => own (.slice ak0 nk0 ck0) k ∨ own (.slice av0 nv0 cv0) k) W2 wK) := (kJ.out.mono fun _ h => .inl h).trans (kK0.mono fun _ h => .inr h)
  have rK1 := Hid.mk' (rJ.out.chg kK0 (fun j a b => rJ.out.apart RcJ.out (by decide) j a b))
  have oK1 : Hid (∀ k, own (.slice aJ nJ cJ) k → own (.slice ak0 nk0 ck0) k ∨ (W2.heap.size ≤ k ∧ k < wK.heap.size)) := fun k hk => (oJ.out k hk).imp id fun h => ⟨h.1, Nat.lt_of_lt_of_le h.2 kK0.size⟩
  have rK2 : Hid (Row wK 3 (.slice aK nK cK) ((avs ++ [y]).map iv)) := (by simpa [sv, iv, pv] using rK : Row _ _ _ _)
  have oK2 : Hid (∀ k, own (.slice aK nK cK) k → own (.slice av0 nv0 cv0) k ∨ (W2.heap.size ≤ k ∧ k < wK.heap.size)) := fun k hk => (oK k hk).imp id fun h => ⟨Nat.le_trans kJ.out.size h.1, h.2⟩
  clear rK oK kK0
  have ac0' := kK.out.cell (fun h => h.elim qb0.out qb1.out) ac0
  have ac1' := kK.out.cell (fun h => h.elim qb0.out qb1.out) ac1
  have af0' : wK.frozen? ⟨a, 0, none⟩ = false := frozen_of_row _ a 0 _ _ (kK.out.heap (fun h => h.elim qb0.out qb1.out) ablk.out)
  have af1' : wK.frozen? ⟨a, 1, none⟩ = false := frozen_of_row _ a 1 _ _ (kK.out.heap (fun h => h.elim qb0.out qb1.out) ablk.out)
  refine hK.out _ _ ⟨(kK.out.cell (fun h => h.elim qb0.out qb1.out) ac0), (kK.out.cell (fun h => h.elim qb0.out qb1.out) ac1), (kK.out.cell (fun h => h.elim qn0.out qn1.out) nc0), (kK.out.cell (fun h => h.elim qn0.out qn1.out) nc1), (kK.out.cell (fun h => h.elim qgk0.out qgk1.out) ec0), (kK.out.cell (fun h => h.elim qgv0.out qgv1.out) ec1)⟩ (fun hHeld => ?_)
  clear hK K
  refine norm_ (a' := ?_) ?_ ?_
  rotate_left
  · show Act.put _ (some 193) _ = _
    simp only [Act.put, List.setIfInBounds_toArray, List.set_cons_zero, List.set_cons_succ, i64_w, i32_w]
    rfl
  refine pure_ (i := 28) (N := some 194) (v := ?_) (a' := ?_) #[true, true, true, true, true, true, true, true, true, true, true, true, true, true, true, true, true, true, true, true, true, true, true, true, true, true, true, true, true, false, false, false, false, false] rfl rfl (by kernel_rfl) (fun _ _ _ h => h) (Or.inl ⟨by rfl, ?_⟩) ?_ ?_
  rotate_left
  · intro w'
    go_simp
    with_reducible rfl
  rotate_left
  · simp only [Act.put, List.setIfInBounds_toArray, List.set_cons_zero, List.set_cons_succ, i64_w, i32_w]
    rfl
  refine pure_ (i := 29) (N := some 195) (v := ?_) (a' := ?_) #[true, true, true, true, true, true, true, true, true, true, true, true, true, true, true, true, true, true, true, true, true, true, true, true, true, true, true, true, true, true, false, false, false, false] rfl rfl (by kernel_rfl) (fun _ _ _ h => h) (Or.inl ⟨by rfl, ?_⟩) ?_ ?_
  rotate_left
  · intro w'
    go_simp
    with_reducible rfl
  rotate_left
  · simp only [Act.put, List.setIfInBounds_toArray, List.set_cons_zero, List.set_cons_succ, i64_w, i32_w]
    rfl
  refine last_ (i := 30) (N := none) #[true, true, true, true, true, true, true, true, true, true, true, true, true, true, true, true, true, true, true, true, true, true, true, true, true, true, true, true, true, true, true, false, false, false] rfl rfl (by kernel_rfl) (by decide) (fun K hK => ?_)
  refine skip_ (w1 := ?_) (by rfl) rfl ?_ ?_
  rotate_left
  · go_simp
    rfl
  refine hK.out _ _ ?_
  clear hK K
  refine pure_ (i := 31) (N := some 196) (v := ?_) (a' := ?_) #[true, true, true, true, true, true, true, true, true, true, true, true, true, true, true, true, true, true, true, true, true, true, true, true, true, true, true, true, true, true, true, true, false, false] rfl rfl (by kernel_rfl) (fun _ _ _ h => h) (Or.inl ⟨by rfl, ?_⟩) ?_ ?_
  rotate_left
  · intro w'
    go_simp
    with_reducible rfl
  rotate_left
  · simp only [Act.put, List.setIfInBounds_toArray, List.set_cons_zero, List.set_cons_succ, i64_w, i32_w]
    rfl
  refine pure_ (i := 32) (N := some 197) (v := ?_) (a' := ?_) #[true, true, true, true, true, true, true, true, true, true, true, true, true, true, true, true, true, true, true, true, true, true, true, true, true, true, true, true, true, true, true, true, true, false] rfl rfl (by kernel_rfl) (fun _ _ _ h => h) (Or.inl ⟨by rfl, ?_⟩) ?_ ?_
  rotate_left
  · intro w'
    go_simp
    with_reducible rfl
  rotate_left
  · simp only [Act.put, List.setIfInBounds_toArray, List.set_cons_zero, List.set_cons_succ, i64_w, i32_w]
    rfl
  refine last_ (i := 33) (N := none) #[true, true, true, true, true, true, true, true, true, true, true, true, true, true, true, true, true, true, true, true, true, true, true, true, true, true, true, true, true, true, true, true, true, true] rfl rfl (by kernel_rfl) (by decide) (fun K hK => ?_)
  refine skip_ (w1 := ?_) (by rfl) rfl ?_ ?_
  rotate_left
  · go_simp
    rfl
  refine hK.out _ _ ?_
  clear hK K
  refine done_ (by kernel_rfl) ?_
  go_upto_region 14 with (fail)
  obtain ⟨W3, hW3⟩ : ∃ W3, W3 = (wK.setCell ⟨a, 0, none⟩ (.slice aJ nJ cJ)).setCell ⟨a, 1, none⟩ (.slice aK nK cK) := ⟨_, rfl⟩
  rw [← hW3]
  obtain ⟨nA3, kk3⟩ := nA2.out.step01 (kK.out) (show Row _ _ (.slice aJ nJ cJ) ((aks ++ [x]).map sv) from rK1.out) (show Row _ _ (.slice aK nK cK) ((avs ++ [y]).map iv) from rK2.out)
  rw [← hW3] at nA3 kk3
  have nN3 := nN2.out.chg kk3 (aNA2.out)
  have nB3 := nB2.out.chg kk3 (aAB2.out.symm)
  have aNA3 := (apart1 (oK2.out) (apart0 (oK1.out) (aNA2.out.symm) nN2.out.lt) nN2.out.lt).symm
  have aAB3 := apart1 (oK2.out) (apart0 (oK1.out) (aAB2.out) nB2.out.lt) nB2.out.lt
  have aNB3 := aNB2.out
  have sA3 := nset1 (oK2.out) (nset0 (oK1.out) sA2.out (fun k h => .inr (Nat.le_trans kC2.out.size h))) (fun k h => .inr (Nat.le_trans kC2.out.size h))
  have sN3 := sN2.out
  have sB3 := sB2.out
  have kC3 := kC2.out.trans' kk3 (fun k h => (sA2.out k h).imp (fun h => .inr (.inl h)) id)
  replace hW3 := Hid.mk' hW3
  replace kk3 := Hid.mk' kk3
  replace nN3 := Hid.mk' nN3
  replace nA3 := Hid.mk' nA3
  replace nB3 := Hid.mk' nB3
  replace sN3 := Hid.mk' sN3
  replace sA3 := Hid.mk' sA3
  replace sB3 := Hid.mk' sB3
  replace aNA3 := Hid.mk' aNA3
  replace aNB3 := Hid.mk' aNB3
  replace aAB3 := Hid.mk' aAB3
  replace kC3 := Hid.mk' kC3
  clear ac0 ac1 nc0 nc1 ec0 ec1 ac0' ac1' af0' af1'
  have nc0 := nN3.out.c0
  have nc1 := nN3.out.c1
  have bc0 := nB3.out.c0
  have bc1 := nB3.out.c1
  have ek0 : W3.cell? ⟨gk, i, none⟩ = some (.string x) ∧ W3.frozen? ⟨gk, i, none⟩ = false := by
    obtain ⟨_, h, _, hc, hf, _⟩ := nN3.out.rk.at (by have := hnl.out; simp; omega)
    cases h
    exact ⟨hc _ _ ex0.out, hf _⟩
  have ek1 : W3.cell? ⟨gv, i, none⟩ = some (.int .i64 y) ∧ W3.frozen? ⟨gv, i, none⟩ = false := by
    obtain ⟨_, h, _, hc, hf, _⟩ := nN3.out.rv.at (by have := hnl.out; have := hl1.out; simp; omega)
    cases h
    exact ⟨hc _ _ ex1.out, hf _⟩
  have ep0c : W3.cell? ⟨hk, 0, none⟩ = some (.string p) := by
    obtain ⟨_, h, _, hc, hf, _⟩ := nB3.out.rk.at (by have := pk.out; simp; omega)
    cases h
    exact hc _ _ ep0.out
  have ep1c : W3.cell? ⟨hv, 0, none⟩ = some (.int .i64 r) := by
    obtain ⟨_, h, _, hc, hf, _⟩ := nB3.out.rv.at (by have := pv'.out; simp; omega)
    cases h
    exact hc _ _ ep1.out
  obtain ⟨ek0c, ek0f⟩ := ek0
  obtain ⟨ek1c, ek1f⟩ := ek1
  have gkv : gk ≠ gv := fun h => nN3.out.rk.apart nN3.out.rv (by decide) gk ((own_slice _ _ _ _ _ _).2 rfl) ((own_slice _ _ _ _ _ _).2 h)
  refine start_ (n := 26) (S := fun w' => w'.cell? ⟨n, 0, none⟩ = some (.slice (some ⟨gk, 0, none⟩) nk ck) ∧ w'.cell? ⟨n, 1, none⟩ = some (.slice (some ⟨gv, 0, none⟩) nv cv) ∧ w'.cell? ⟨b, 0, none⟩ = some (.slice (some ⟨hk, 0, none⟩) nk1 ck1) ∧ w'.cell? ⟨b, 1, none⟩ = some (.slice (some ⟨hv, 0, none⟩) nv1 cv1) ∧ w'.cell? ⟨hk, 0, none⟩ = some (.string p) ∧ w'.cell? ⟨hv, 0, none⟩ = some (.int .i64 r)) (ds := [23, 25]) #[false, false, false, false, false, false, false, false, false, false, false, false, false, false, false, false, false, false, false, false, false, false, false, false, false, false] (by kernel_rfl) rfl rfl ⟨nc0, nc1, bc0, bc1, ep0c, ep1c⟩ (fun hHeld => ?_)
  refine pure_ (i := 0) (N := some 198) (v := ?_) (a' := ?_) #[true, false, false, false, false, false, false, false, false, false, false, false, false, false, false, false, false, false, false, false, false, false, false, false, false, false] rfl rfl (by kernel_rfl) (fun _ _ _ h => h) (Or.inl ⟨by rfl, ?_⟩) ?_ ?_
  rotate_left
  · intro w'
    go_simp
    with_reducible rfl
  rotate_left
  · simp only [Act.put, List.setIfInBounds_toArray, List.set_cons_zero, List.set_cons_succ, i64_w, i32_w]
    rfl
  refine pure_ (i := 1) (N := some 199) (v := ?_) (a' := ?_) #[true, true, false, false, false, false, false, false, false, false, false, false, false, false, false, false, false, false, false, false, false, false, false, false, false, false] rfl rfl (by kernel_rfl) (fun _ _ _ h => h) (Or.inl ⟨by rfl, ?_⟩) ?_ ?_
  rotate_left
  · intro w'
    go_simp
    with_reducible rfl
  rotate_left
  · simp only [Act.put, List.setIfInBounds_toArray, List.set_cons_zero, List.set_cons_succ, i64_w, i32_w]
    rfl
  refine pure_ (i := 2) (N := some 200) (v := ?_) (a' := ?_) #[true, true, true, false, false, false, false, false, false, false, false, false, false, false, false, false, false, false, false, false, false, false, false, false, false, false] rfl rfl (by kernel_rfl) (fun _ _ _ h => h) (Or.inl ⟨by rfl, ?_⟩) ?_ ?_
  rotate_left
  · intro w'
    go_simp
    with_reducible rfl
  rotate_left
  · simp only [Act.put, List.setIfInBounds_toArray, List.set_cons_zero, List.set_cons_succ, i64_w, i32_w]
    rfl
  refine pure_ (i := 4) (N := some 202) (v := ?_) (a' := ?_) #[true, true, true, false, true, false, false, false, false, false, false, false, false, false, false, false, false, false, false, false, false, false, false, false, false, false] rfl rfl (by kernel_rfl) (fun _ _ _ h => h) (Or.inl ⟨by rfl, ?_⟩) ?_ ?_
  rotate_left
  · intro w'
    go_simp
    with_reducible rfl
  rotate_left
  · simp only [Act.put, List.setIfInBounds_toArray, List.set_cons_zero, List.set_cons_succ, i64_w, i32_w]
    rfl
  refine pure_ (i := 5) (N := some 203) (v := ?_) (a' := ?_) #[true, true, true, false, true, true, false, false, false, false, false, false, false, false, false, false, false, false, false, false, false, false, false, false, false, false] rfl rfl (by kernel_rfl) (fun _ _ _ h => h) (Or.inl ⟨by rfl, ?_⟩) ?_ ?_
  rotate_left
  · intro w'
    go_simp
    with_reducible rfl
  rotate_left
  · simp only [Act.put, List.setIfInBounds_toArray, List.set_cons_zero, List.set_cons_succ, i64_w, i32_w]
    rfl
  refine pure_ (i := 6) (N := some 204) (v := ?_) (a' := ?_) #[true, true, true, false, true, true, true, false, false, false, false, false, false, false, false, false, false, false, false, false, false, false, false, false, false, false] rfl rfl (by kernel_rfl) (fun _ _ _ h => h) (Or.inl ⟨by rfl, ?_⟩) ?_ ?_
  rotate_left
  · intro w'
    go_simp
    with_reducible rfl
  rotate_left
  · simp only [Act.put, List.setIfInBounds_toArray, List.set_cons_zero, List.set_cons_succ, i64_w, i32_w]
    rfl
  refine pure_ (i := 7) (N := some 205) (v := ?_) (a' := ?_) #[true, true, true, false, true, true, true, true, false, false, false, false, false, false, false, false, false, false, false, false, false, false, false, false, false, false] rfl rfl (by kernel_rfl) (fun _ _ _ h => h) (Or.inl ⟨by rfl, ?_⟩) ?_ ?_
  rotate_left
  · intro w'
    go_simp
    with_reducible rfl
  rotate_left
  · simp only [Act.put, List.setIfInBounds_toArray, List.set_cons_zero, List.set_cons_succ, i64_w, i32_w]
    rfl
  refine pure_ (i := 9) (N := some 207) (v := ?_) (a' := ?_) #[true, true, true, false, true, true, true, true, false, true, false, false, false, false, false, false, false, false, false, false, false, false, false, false, false, false] rfl rfl (by kernel_rfl) (fun _ _ _ h => h) (Or.inl ⟨by rfl, ?_⟩) ?_ ?_
  rotate_left
  · intro w'
    go_simp
    with_reducible rfl
  rotate_left
  · simp only [Act.put, List.setIfInBounds_toArray, List.set_cons_zero, List.set_cons_succ, i64_w, i32_w]
    rfl
  refine pure_ (i := 10) (N := some 208) (v := ?_) (a' := ?_) #[true, true, true, false, true, true, true, true, false, true, true, false, false, false, false, false, false, false, false, false, false, false, false, false, false, false] rfl rfl (by kernel_rfl) (fun _ _ _ h => h) (Or.inl ⟨by rfl, ?_⟩) ?_ ?_
  rotate_left
  · intro w'
    go_simp
    with_reducible rfl
  rotate_left
  · simp only [Act.put, List.setIfInBounds_toArray, List.set_cons_zero, List.set_cons_succ, i64_w, i32_w]
    rfl
  refine pure_ (i := 11) (N := some 209) (v := ?_) (a' := ?_) #[true, true, true, false, true, true, true, true, false, true, true, true, false, false, false, false, false, false, false, false, false, false, false, false, false, false] rfl rfl (by kernel_rfl) (fun _ _ _ h => h) (Or.inl ⟨by rfl, ?_⟩) ?_ ?_
  rotate_left
  · intro w'
    go_simp
    with_reducible rfl
  rotate_left
  · simp only [Act.put, List.setIfInBounds_toArray, List.set_cons_zero, List.set_cons_succ, i64_w, i32_w]
    rfl
  refine pure_ (i := 12) (N := some 210) (v := ?_) (a' := ?_) #[true, true, true, false, true, true, true, true, false, true, true, true, true, false, false, false, false, false, false, false, false, false, false, false, false, false] rfl rfl (by kernel_rfl) (fun _ _ _ h => h) (Or.inl ⟨by rfl, ?_⟩) ?_ ?_
  rotate_left
  · intro w'
    go_simp
    with_reducible rfl
  rotate_left
  · simp only [Act.put, List.setIfInBounds_toArray, List.set_cons_zero, List.set_cons_succ, i64_w, i32_w]
    rfl
  refine pure_ (i := 16) (N := some 214) (v := ?_) (a' := ?_) #[true, true, true, false, true, true, true, true, false, true, true, true, true, false, false, false, true, false, false, false, false, false, false, false, false, false] rfl rfl (by kernel_rfl) (fun _ _ _ h => h) (Or.inl ⟨by rfl, ?_⟩) ?_ ?_
  rotate_left
  · intro w'
    go_simp
    with_reducible rfl
  rotate_left
  · simp only [Act.put, List.setIfInBounds_toArray, List.set_cons_zero, List.set_cons_succ, i64_w, i32_w]
    rfl
  refine pure_ (i := 17) (N := some 215) (v := ?_) (a' := ?_) #[true, true, true, false, true, true, true, true, false, true, true, true, true, false, false, false, true, true, false, false, false, false, false, false, false, false] rfl rfl (by kernel_rfl) (fun _ _ _ h => h) (Or.inl ⟨by rfl, ?_⟩) ?_ ?_
  rotate_left
  · intro w'
    go_simp
    with_reducible rfl
  rotate_left
  · simp only [Act.put, List.setIfInBounds_toArray, List.set_cons_zero, List.set_cons_succ, i64_w, i32_w]
    rfl
  refine pure_ (i := 18) (N := some 216) (v := ?_) (a' := ?_) #[true, true, true, false, true, true, true, true, false, true, true, true, true, false, false, false, true, true, true, false, false, false, false, false, false, false] rfl rfl (by kernel_rfl) (fun _ _ _ h => h) (Or.inl ⟨by rfl, ?_⟩) ?_ ?_
  rotate_left
  · intro w'
    go_simp
    with_reducible rfl
  rotate_left
  · simp only [Act.put, List.setIfInBounds_toArray, List.set_cons_zero, List.set_cons_succ, i64_w, i32_w]
    rfl
  refine take_ (i := 3) (N := some 201) (v := ?_) (a' := ?_) #[true, true, true, true, true, true, true, true, false, true, true, true, true, false, false, false, true, true, true, false, false, false, false, false, false, false] rfl rfl (by kernel_rfl) (fun _ _ _ h => h) (Or.inl ⟨by rfl, ?_⟩) hHeld ?_ ?_
  rotate_left
  · rintro w' ⟨s0, s1, s2, s3, s4, s5⟩
    go_simp
    with_reducible rfl
  rotate_left
  · simp only [Act.put, List.setIfInBounds_toArray, List.set_cons_zero, List.set_cons_succ, i64_w, i32_w]
    rfl
  refine take_ (i := 8) (N := some 206) (v := ?_) (a' := ?_) #[true, true, true, true, true, true, true, true, true, true, true, true, true, false, false, false, true, true, true, false, false, false, false, false, false, false] rfl rfl (by kernel_rfl) (fun _ _ _ h => h) (Or.inl ⟨by rfl, ?_⟩) hHeld ?_ ?_
  rotate_left
  · rintro w' ⟨s0, s1, s2, s3, s4, s5⟩
    go_simp
    with_reducible rfl
  rotate_left
  · simp only [Act.put, List.setIfInBounds_toArray, List.set_cons_zero, List.set_cons_succ, i64_w, i32_w]
    rfl
  refine take_ (i := 13) (N := some 211) (v := ?_) (a' := ?_) #[true, true, true, true, true, true, true, true, true, true, true, true, true, true, false, false, true, true, true, false, false, false, false, false, false, false] rfl rfl (by kernel_rfl) (fun _ _ _ h => h) (Or.inl ⟨by rfl, ?_⟩) hHeld ?_ ?_
  rotate_left
  · rintro w' ⟨s0, s1, s2, s3, s4, s5⟩
    go_simp
    with_reducible rfl
  rotate_left
  · simp only [Act.put, List.setIfInBounds_toArray, List.set_cons_zero, List.set_cons_succ, i64_w, i32_w]
    rfl
  refine pure_ (i := 14) (N := some 212) (v := ?_) (a' := ?_) #[true, true, true, true, true, true, true, true, true, true, true, true, true, true, true, false, true, true, true, false, false, false, false, false, false, false] rfl rfl (by kernel_rfl) (fun _ _ _ h => h) (Or.inl ⟨by rfl, ?_⟩) ?_ ?_
  rotate_left
  · intro w'
    go_simp
    with_reducible rfl
  rotate_left
  · simp only [Act.put, List.setIfInBounds_toArray, List.set_cons_zero, List.set_cons_succ, i64_w, i32_w]
    rfl
  refine take_ (i := 15) (N := some 213) (v := ?_) (a' := ?_) #[true, true, true, true, true, true, true, true, true, true, true, true, true, true, true, true, true, true, true, false, false, false, false, false, false, false] rfl rfl (by kernel_rfl) (fun _ _ _ h => h) (Or.inl ⟨by rfl, ?_⟩) hHeld ?_ ?_
  rotate_left
  · rintro w' ⟨s0, s1, s2, s3, s4, s5⟩
    go_simp
    with_reducible rfl
  rotate_left
  · simp only [Act.put, List.setIfInBounds_toArray, List.set_cons_zero, List.set_cons_succ, i64_w, i32_w]
    rfl
  refine take_ (i := 19) (N := some 217) (v := ?_) (a' := ?_) #[true, true, true, true, true, true, true, true, true, true, true, true, true, true, true, true, true, true, true, true, false, false, false, false, false, false] rfl rfl (by kernel_rfl) (fun _ _ _ h => h) (Or.inl ⟨by rfl, ?_⟩) hHeld ?_ ?_
  rotate_left
  · rintro w' ⟨s0, s1, s2, s3, s4, s5⟩
    go_simp
    with_reducible rfl
  rotate_left
  · simp only [Act.put, List.setIfInBounds_toArray, List.set_cons_zero, List.set_cons_succ, i64_w, i32_w]
    rfl
  refine pure_ (i := 20) (N := some 218) (v := ?_) (a' := ?_) #[true, true, true, true, true, true, true, true, true, true, true, true, true, true, true, true, true, true, true, true, true, false, false, false, false, false] rfl rfl (by kernel_rfl) (fun _ _ _ h => h) (Or.inl ⟨by rfl, ?_⟩) ?_ ?_
  rotate_left
  · intro w'
    go_simp
    with_reducible rfl
  rotate_left
  · simp only [Act.put, List.setIfInBounds_toArray, List.set_cons_zero, List.set_cons_succ, i64_w, i32_w]
    rfl
  refine take_ (i := 21) (N := some 219) (v := ?_) (a' := ?_) #[true, true, true, true, true, true, true, true, true, true, true, true, true, true, true, true, true, true, true, true, true, true, false, false, false, false] rfl rfl (by kernel_rfl) (fun _ _ _ h => h) (Or.inl ⟨by rfl, ?_⟩) hHeld ?_ ?_
  rotate_left
  · rintro w' ⟨s0, s1, s2, s3, s4, s5⟩
    go_simp
    with_reducible rfl
  rotate_left
  · simp only [Act.put, List.setIfInBounds_toArray, List.set_cons_zero, List.set_cons_succ, i64_w, i32_w]
    rfl
  refine pure_ (i := 22) (N := some 220) (v := ?_) (a' := ?_) #[true, true, true, true, true, true, true, true, true, true, true, true, true, true, true, true, true, true, true, true, true, true, true, false, false, false] rfl rfl (by kernel_rfl) (fun _ _ _ h => h) (Or.inl ⟨by rfl, ?_⟩) ?_ ?_
  rotate_left
  · intro w'
    go_simp
    with_reducible rfl
  rotate_left
  · simp only [Act.put, List.setIfInBounds_toArray, List.set_cons_zero, List.set_cons_succ, i64_w, i32_w]
    rfl
  refine last_ (i := 23) (N := none) #[true, true, true, true, true, true, true, true, true, true, true, true, true, true, true, true, true, true, true, true, true, true, true, true, false, false] rfl rfl (by kernel_rfl) (by decide) (fun K hK => ?_)
  refine skip_ (w1 := ?_) (by rfl) rfl ?_ ?_
  rotate_left
  · go_simp
    rfl
  refine hK.out _ _ ?_
  clear hK K
  refine pure_ (i := 24) (N := some 221) (v := ?_) (a' := ?_) #[true, true, true, true, true, true, true, true, true, true, true, true, true, true, true, true, true, true, true, true, true, true, true, true, true, false] rfl rfl (by kernel_rfl) (fun _ _ _ h => h) (Or.inl ⟨by rfl, ?_⟩) ?_ ?_
  rotate_left
  · intro w'
    go_simp
    with_reducible rfl
  rotate_left
  · simp only [Act.put, List.setIfInBounds_toArray, List.set_cons_zero, List.set_cons_succ, i64_w, i32_w]
    rfl
  refine last_ (i := 25) (N := none) #[true, true, true, true, true, true, true, true, true, true, true, true, true, true, true, true, true, true, true, true, true, true, true, true, true, true] rfl rfl (by kernel_rfl) (by decide) (fun K hK => ?_)
  refine skip_ (w1 := ?_) (by rfl) rfl ?_ ?_
  rotate_left
  · go_simp
    rfl
  refine hK.out _ _ ?_
  clear hK K
  refine done_ (by kernel_rfl) ?_
  go_upto_region 15 with (fail)
  obtain ⟨W4, hW4⟩ : ∃ W4, W4 = W3.setCell ⟨gk, i, none⟩ (.string p) := ⟨_, rfl⟩
  rw [← hW4]
  obtain ⟨nN4, kk4⟩ := nN3.out.elem0 (i) (p)
  rw [← hW4] at nN4 kk4
  have nA4 := nA3.out.chg kk4 (aNA3.out.symm)
  have nB4 := nB3.out.chg kk4 (aNB3.out.symm)
  have aNA4 := aNA3.out
  have aNB4 := aNB3.out
  have aAB4 := aAB3.out
  have sN4 := sN3.out
  have sA4 := sA3.out
  have sB4 := sB3.out
  have kC4 := kC3.out.trans' kk4 (fun k h => (sN3.out k h).imp (fun h => .inl h) id)
  replace hW4 := Hid.mk' hW4
  replace kk4 := Hid.mk' kk4
  replace nN4 := Hid.mk' nN4
  replace nA4 := Hid.mk' nA4
  replace nB4 := Hid.mk' nB4
  replace sN4 := Hid.mk' sN4
  replace sA4 := Hid.mk' sA4
  replace sB4 := Hid.mk' sB4
  replace aNA4 := Hid.mk' aNA4
  replace aNB4 := Hid.mk' aNB4
  replace aAB4 := Hid.mk' aAB4
  replace kC4 := Hid.mk' kC4
  obtain ⟨W5, hW5⟩ : ∃ W5, W5 = W4.setCell ⟨gv, i, none⟩ (.int .i64 r) := ⟨_, rfl⟩
  rw [← hW5]
  obtain ⟨nN5, kk5⟩ := nN4.out.elem1 (i) (r)
  rw [← hW5] at nN5 kk5
  have nA5 := nA4.out.chg kk5 (aNA4.out.symm)
  have nB5 := nB4.out.chg kk5 (aNB4.out.symm)
  have aNA5 := aNA4.out
  have aNB5 := aNB4.out
  have aAB5 := aAB4.out
  have sN5 := sN4.out
  have sA5 := sA4.out
  have sB5 := sB4.out
  have kC5 := kC4.out.trans' kk5 (fun k h => (sN4.out k h).imp (fun h => .inl h) id)
  replace hW5 := Hid.mk' hW5
  replace kk5 := Hid.mk' kk5
  replace nN5 := Hid.mk' nN5
  replace nA5 := Hid.mk' nA5
  replace nB5 := Hid.mk' nB5
  replace sN5 := Hid.mk' sN5
  replace sA5 := Hid.mk' sA5
  replace sB5 := Hid.mk' sB5
  replace aNA5 := Hid.mk' aNA5
  replace aNB5 := Hid.mk' aNB5
  replace aAB5 := Hid.mk' aAB5
  replace kC5 := Hid.mk' kC5
  obtain ⟨W6, hW6⟩ : ∃ W6, W6 = W5.drew := ⟨_, rfl⟩
  rw [← hW6]
  have kk6 : Chg NoB W5 W6 := by rw [hW6]; exact (Chg.refl _ _).drew
  have nN6 := nN5.out.chg kk6 (fun _ _ h => h)
  have nA6 := nA5.out.chg kk6 (fun _ _ h => h)
  have nB6 := nB5.out.chg kk6 (fun _ _ h => h)
  have aNA6 := aNA5.out
  have aNB6 := aNB5.out
  have aAB6 := aAB5.out
  have sN6 := sN5.out
  have sA6 := sA5.out
  have sB6 := sB5.out
  have kC6 := kC5.out.trans' kk6 (fun _ h => h.elim)
  replace hW6 := Hid.mk' hW6
  replace kk6 := Hid.mk' kk6
  replace nN6 := Hid.mk' nN6
  replace nA6 := Hid.mk' nA6
  replace nB6 := Hid.mk' nB6
  replace sN6 := Hid.mk' sN6
  replace sA6 := Hid.mk' sA6
  replace sB6 := Hid.mk' sB6
  replace aNA6 := Hid.mk' aNA6
  replace aNB6 := Hid.mk' aNB6
  replace aAB6 := Hid.mk' aAB6
  replace kC6 := Hid.mk' kC6
  clear nc0 nc1 bc0 bc1 ek0c ek0f ek1c ek1f ep0c ep1c
  have bc0 := nB6.out.c0
  have bc1 := nB6.out.c1
  have bblk := Hid.mk' nB6.out.blk
  have RD0 := Hid.mk' nB6.out.rk
  have RD1 := Hid.mk' nB6.out.rv
  have hkb : Hid (¬ b = hk) := fun h => RD0.out.ne bblk.out (by decide) ((own_slice _ _ _ _ _ _).2 h)
  have hvb : Hid (¬ b = hv) := fun h => RD1.out.ne bblk.out (by decide) ((own_slice _ _ _ _ _ _).2 h)
  have hkv : Hid (¬ hk = hv) := fun h => RD0.out.apart RD1.out (by decide) hk ((own_slice _ _ _ _ _ _).2 rfl) ((own_slice _ _ _ _ _ _).2 h)
  refine start_ (n := 18) (S := fun w' => w'.cell? ⟨b, 0, none⟩ = some (.slice (some ⟨hk, 0, none⟩) nk1 ck1) ∧ w'.cell? ⟨b, 1, none⟩ = some (.slice (some ⟨hv, 0, none⟩) nv1 cv1)) (ds := [14, 17]) #[false, false, false, false, false, false, false, false, false, false, false, false, false, false, false, false, false, false] (by kernel_rfl) rfl rfl ⟨bc0, bc1⟩ (fun hHeld => ?_)
  refine pure_ (i := 0) (N := some 222) (v := ?_) (a' := ?_) #[true, false, false, false, false, false, false, false, false, false, false, false, false, false, false, false, false, false] rfl rfl (by kernel_rfl) (fun _ _ _ h => h) (Or.inl ⟨by rfl, ?_⟩) ?_ ?_
  rotate_left
  · intro w'
    go_simp
    with_reducible rfl
  rotate_left
  · simp only [Act.put, List.setIfInBounds_toArray, List.set_cons_zero, List.set_cons_succ, i64_w, i32_w]
    rfl
  refine pure_ (i := 1) (N := some 223) (v := ?_) (a' := ?_) #[true, true, false, false, false, false, false, false, false, false, false, false, false, false, false, false, false, false] rfl rfl (by kernel_rfl) (fun _ _ _ h => h) (Or.inl ⟨by rfl, ?_⟩) ?_ ?_
  rotate_left
  · intro w'
    go_simp
    with_reducible rfl
  rotate_left
  · simp only [Act.put, List.setIfInBounds_toArray, List.set_cons_zero, List.set_cons_succ, i64_w, i32_w]
    rfl
  refine pure_ (i := 2) (N := some 224) (v := ?_) (a' := ?_) #[true, true, true, false, false, false, false, false, false, false, false, false, false, false, false, false, false, false] rfl rfl (by kernel_rfl) (fun _ _ _ h => h) (Or.inl ⟨by rfl, ?_⟩) ?_ ?_
  rotate_left
  · intro w'
    go_simp
    with_reducible rfl
  rotate_left
  · simp only [Act.put, List.setIfInBounds_toArray, List.set_cons_zero, List.set_cons_succ, i64_w, i32_w]
    rfl
  refine pure_ (i := 3) (N := some 225) (v := ?_) (a' := ?_) #[true, true, true, true, false, false, false, false, false, false, false, false, false, false, false, false, false, false] rfl rfl (by kernel_rfl) (fun _ _ _ h => h) (Or.inl ⟨by rfl, ?_⟩) ?_ ?_
  rotate_left
  · intro w'
    go_simp
    with_reducible rfl
  rotate_left
  · simp only [Act.put, List.setIfInBounds_toArray, List.set_cons_zero, List.set_cons_succ, i64_w, i32_w]
    rfl
  refine pure_ (i := 4) (N := some 226) (v := ?_) (a' := ?_) #[true, true, true, true, true, false, false, false, false, false, false, false, false, false, false, false, false, false] rfl rfl (by kernel_rfl) (fun _ _ _ h => h) (Or.inl ⟨by rfl, ?_⟩) ?_ ?_
  rotate_left
  · intro w'
    go_simp
    with_reducible rfl
  rotate_left
  · simp only [Act.put, List.setIfInBounds_toArray, List.set_cons_zero, List.set_cons_succ, i64_w, i32_w]
    rfl
  refine pure_ (i := 7) (N := some 229) (v := ?_) (a' := ?_) #[true, true, true, true, true, false, false, true, false, false, false, false, false, false, false, false, false, false] rfl rfl (by kernel_rfl) (fun _ _ _ h => h) (Or.inl ⟨by rfl, ?_⟩) ?_ ?_
  rotate_left
  · intro w'
    go_simp
    with_reducible rfl
  rotate_left
  · simp only [Act.put, List.setIfInBounds_toArray, List.set_cons_zero, List.set_cons_succ, i64_w, i32_w]
    rfl
  refine pure_ (i := 8) (N := some 230) (v := ?_) (a' := ?_) #[true, true, true, true, true, false, false, true, true, false, false, false, false, false, false, false, false, false] rfl rfl (by kernel_rfl) (fun _ _ _ h => h) (Or.inl ⟨by rfl, ?_⟩) ?_ ?_
  rotate_left
  · intro w'
    go_simp
    with_reducible rfl
  rotate_left
  · simp only [Act.put, List.setIfInBounds_toArray, List.set_cons_zero, List.set_cons_succ, i64_w, i32_w]
    rfl
  refine pure_ (i := 9) (N := some 231) (v := ?_) (a' := ?_) #[true, true, true, true, true, false, false, true, true, true, false, false, false, false, false, false, false, false] rfl rfl (by kernel_rfl) (fun _ _ _ h => h) (Or.inl ⟨by rfl, ?_⟩) ?_ ?_
  rotate_left
  · intro w'
    go_simp
    with_reducible rfl
  rotate_left
  · simp only [Act.put, List.setIfInBounds_toArray, List.set_cons_zero, List.set_cons_succ, i64_w, i32_w]
    rfl
  refine take_ (i := 5) (N := some 227) (v := ?_) (a' := ?_) #[true, true, true, true, true, true, false, true, true, true, false, false, false, false, false, false, false, false] rfl rfl (by kernel_rfl) (fun _ _ _ h => h) (Or.inl ⟨by rfl, ?_⟩) hHeld ?_ ?_
  rotate_left
  · rintro w' ⟨s0, s1⟩
    go_simp
    with_reducible rfl
  rotate_left
  · simp only [Act.put, List.setIfInBounds_toArray, List.set_cons_zero, List.set_cons_succ, i64_w, i32_w]
    rfl
  refine take_ (i := 10) (N := some 232) (v := ?_) (a' := ?_) #[true, true, true, true, true, true, false, true, true, true, true, false, false, false, false, false, false, false] rfl rfl (by kernel_rfl) (fun _ _ _ h => h) (Or.inl ⟨by rfl, ?_⟩) hHeld ?_ ?_
  rotate_left
  · rintro w' ⟨s0, s1⟩
    go_simp
    with_reducible rfl
  rotate_left
  · simp only [Act.put, List.setIfInBounds_toArray, List.set_cons_zero, List.set_cons_succ, i64_w, i32_w]
    rfl
  refine one_ (i := 6) (N := some 228) #[true, true, true, true, true, true, true, true, true, true, true, false, false, false, false, false, false, false] rfl rfl (by kernel_rfl) (by decide) (fun K hK => ?_)
  refine goes_ Try.func38 (by kernel_rfl) rfl #[.slice (some ⟨hk, 0, none⟩) nk1 ck1, .int .i64 0, .int .i64 1] (by rfl) rfl rfl (by simp only [List.map_toArray, List.map_cons, List.map_nil]; rfl) ?_
  with_reducible refine (delS hk nk1 ck1 0 0 1 (bks.map sv) _ (Row.dr RD0.out) (by have := pk.out; simp; omega) rfl rfl (map_sv_cell _)).mono ?_
  rintro e wa ⟨rfl, ra, ka⟩
  refine ⟨_, rfl, ?_⟩
  replace ka : Chg (fun k => k = hk) W6 wa := ka.undrew
  replace ra := Hid.mk' ra
  replace ka := Hid.mk' ka
  refine hK.out _ _ ⟨(ka.out.cell hkb.out bc0), (ka.out.cell hkb.out bc1)⟩ (fun hHeld => ?_)
  clear hK K
  refine norm_ (a' := ?_) ?_ ?_
  rotate_left
  · show Act.put _ (some 228) _ = _
    simp only [Act.put, List.setIfInBounds_toArray, List.set_cons_zero, List.set_cons_succ, i64_w, i32_w]
    rfl
  refine one_ (i := 11) (N := some 233) #[true, true, true, true, true, true, true, true, true, true, true, true, false, false, false, false, false, false] rfl rfl (by kernel_rfl) (by decide) (fun K hK => ?_)
  refine goes_ Try.func39 (by kernel_rfl) rfl #[.slice (some ⟨hv, 0, none⟩) nv1 cv1, .int .i64 0, .int .i64 1] (by rfl) rfl rfl (by simp only [List.map_toArray, List.map_cons, List.map_nil]; rfl) ?_
  with_reducible refine (delI hv nv1 cv1 0 0 1 (bvs.map iv) _ (RD1.out.chg ka.out (fun j a e => absurd (e.symm.trans ((own_slice _ _ _ _ _ _).1 a)) hkv.out)) (by have := pv'.out; simp; omega) rfl rfl (map_iv_cell _)).mono ?_
  rintro e wb ⟨rfl, rb, kb⟩
  refine ⟨_, rfl, ?_⟩
  have bc0' := kb.cell hvb.out (ka.out.cell hkb.out bc0)
  have bc1' := kb.cell hvb.out (ka.out.cell hkb.out bc1)
  have bf0' : wb.frozen? ⟨b, 0, none⟩ = false := frozen_of_row _ b 0 _ _ (kb.heap hvb.out (ka.out.heap hkb.out bblk.out))
  have bf1' : wb.frozen? ⟨b, 1, none⟩ = false := frozen_of_row _ b 1 _ _ (kb.heap hvb.out (ka.out.heap hkb.out bblk.out))
  replace rb := Hid.mk' rb
  replace kb := Hid.mk' kb
  refine hK.out _ _ ⟨bc0', bc1'⟩ (fun hHeld => ?_)
  clear hK K
  refine norm_ (a' := ?_) ?_ ?_
  rotate_left
  · show Act.put _ (some 233) _ = _
    simp only [Act.put, List.setIfInBounds_toArray, List.set_cons_zero, List.set_cons_succ, i64_w, i32_w]
    rfl
  refine pure_ (i := 12) (N := some 234) (v := ?_) (a' := ?_) #[true, true, true, true, true, true, true, true, true, true, true, true, true, false, false, false, false, false] rfl rfl (by kernel_rfl) (fun _ _ _ h => h) (Or.inl ⟨by rfl, ?_⟩) ?_ ?_
  rotate_left
  · intro w'
    go_simp
    with_reducible rfl
  rotate_left
  · simp only [Act.put, List.setIfInBounds_toArray, List.set_cons_zero, List.set_cons_succ, i64_w, i32_w]
    rfl
  refine pure_ (i := 13) (N := some 235) (v := ?_) (a' := ?_) #[true, true, true, true, true, true, true, true, true, true, true, true, true, true, false, false, false, false] rfl rfl (by kernel_rfl) (fun _ _ _ h => h) (Or.inl ⟨by rfl, ?_⟩) ?_ ?_
  rotate_left
  · intro w'
    go_simp
    with_reducible rfl
  rotate_left
  · simp only [Act.put, List.setIfInBounds_toArray, List.set_cons_zero, List.set_cons_succ, i64_w, i32_w]
    rfl
  refine last_ (i := 14) (N := none) #[true, true, true, true, true, true, true, true, true, true, true, true, true, true, true, false, false, false] rfl rfl (by kernel_rfl) (by decide) (fun K hK => ?_)
  refine skip_ (w1 := ?_) (by rfl) rfl ?_ ?_
  rotate_left
  · go_simp
    rfl
  refine hK.out _ _ ?_
  clear hK K
  refine pure_ (i := 15) (N := some 236) (v := ?_) (a' := ?_) #[true, true, true, true, true, true, true, true, true, true, true, true, true, true, true, true, false, false] rfl rfl (by kernel_rfl) (fun _ _ _ h => h) (Or.inl ⟨by rfl, ?_⟩) ?_ ?_
  rotate_left
  · intro w'
    go_simp
    with_reducible rfl
  rotate_left
  · simp only [Act.put, List.setIfInBounds_toArray, List.set_cons_zero, List.set_cons_succ, i64_w, i32_w]
    rfl
  refine pure_ (i := 16) (N := some 237) (v := ?_) (a' := ?_) #[true, true, true, true, true, true, true, true, true, true, true, true, true, true, true, true, true, false] rfl rfl (by kernel_rfl) (fun _ _ _ h => h) (Or.inl ⟨by rfl, ?_⟩) ?_ ?_
  rotate_left
  · intro w'
    go_simp
    with_reducible rfl
  rotate_left
  · simp only [Act.put, List.setIfInBounds_toArray, List.set_cons_zero, List.set_cons_succ, i64_w, i32_w]
    rfl
  refine last_ (i := 17) (N := none) #[true, true, true, true, true, true, true, true, true, true, true, true, true, true, true, true, true, true] rfl rfl (by kernel_rfl) (by decide) (fun K hK => ?_)
  refine skip_ (w1 := ?_) (by rfl) rfl ?_ ?_
  rotate_left
  · go_simp
    rfl
  refine hK.out _ _ ?_
  clear hK K
  refine done_ (by kernel_rfl) ?_
  go_upto_region 16 with (fail)
  have kab : Chg (fun k => own (.slice (some ⟨hk, 0, none⟩) nk1 ck1) k ∨ own (.slice (some ⟨hv, 0, none⟩) nv1 cv1) k) W6 wb := (ka.out.mono fun k h => .inl ((own_slice _ _ _ _ _ _).2 h)).trans (kb.out.mono fun k h => .inr ((own_slice _ _ _ _ _ _).2 h))
  have oc0 : ∀ k, own (.slice (some ⟨hk, 0, none⟩) (nk1 - 1) ck1) k → own (.slice (some ⟨hk, 0, none⟩) nk1 ck1) k ∨ (W6.heap.size ≤ k ∧ k < wb.heap.size) := fun k hk => .inl ((own_slice _ _ _ _ _ _).2 ((own_slice _ _ _ _ _ _).1 hk))
  have oc1 : ∀ k, own (.slice (some ⟨hv, 0, none⟩) (nv1 - 1) cv1) k → own (.slice (some ⟨hv, 0, none⟩) nv1 cv1) k ∨ (W6.heap.size ≤ k ∧ k < wb.heap.size) := fun k hk => .inl ((own_slice _ _ _ _ _ _).2 ((own_slice _ _ _ _ _ _).1 hk))
  have ra' : Row wb 9 (.slice (some ⟨hk, 0, none⟩) (nk1 - 1) ck1) ((bks.drop 1).map sv) := by
    have := ra.out.chg kb.out (fun j a e => absurd (((own_slice _ _ _ _ _ _).1 a).symm.trans e) hkv.out)
    simpa using this
  have rb' : Row wb 3 (.slice (some ⟨hv, 0, none⟩) (nv1 - 1) cv1) ((bvs.drop 1).map iv) := by simpa using rb.out
  obtain ⟨W7, hW7⟩ : ∃ W7, W7 = (wb.setCell ⟨b, 0, none⟩ (.slice (some ⟨hk, 0, none⟩) (nk1 - 1) ck1)).setCell ⟨b, 1, none⟩ (.slice (some ⟨hv, 0, none⟩) (nv1 - 1) cv1) := ⟨_, rfl⟩
  rw [← hW7]
  obtain ⟨nB7, kk7⟩ := nB6.out.step01 (kab) (show Row _ _ (.slice (some ⟨hk, 0, none⟩) (nk1 - 1) ck1) ((bks.drop 1).map sv) from ra') (show Row _ _ (.slice (some ⟨hv, 0, none⟩) (nv1 - 1) cv1) ((bvs.drop 1).map iv) from rb')
  rw [← hW7] at nB7 kk7
  have nN7 := nN6.out.chg kk7 (aNB6.out)
  have nA7 := nA6.out.chg kk7 (aAB6.out)
  have aNB7 := (apart1 (oc1) (apart0 (oc0) (aNB6.out.symm) nN6.out.lt) nN6.out.lt).symm
  have aAB7 := (apart1 (oc1) (apart0 (oc0) (aAB6.out.symm) nA6.out.lt) nA6.out.lt).symm
  have aNA7 := aNA6.out
  have sB7 := nset1 (oc1) (nset0 (oc0) sB6.out (fun k h => .inr (Nat.le_trans kC6.out.size h))) (fun k h => .inr (Nat.le_trans kC6.out.size h))
  have sN7 := sN6.out
  have sA7 := sA6.out
  have kC7 := kC6.out.trans' kk7 (fun k h => (sB6.out k h).imp (fun h => .inr (.inr h)) id)
  replace hW7 := Hid.mk' hW7
  replace kk7 := Hid.mk' kk7
  replace nN7 := Hid.mk' nN7
  replace nA7 := Hid.mk' nA7
  replace nB7 := Hid.mk' nB7
  replace sN7 := Hid.mk' sN7
  replace sA7 := Hid.mk' sA7
  replace sB7 := Hid.mk' sB7
  replace aNA7 := Hid.mk' aNA7
  replace aNB7 := Hid.mk' aNB7
  replace aAB7 := Hid.mk' aAB7
  replace kC7 := Hid.mk' kC7
  clear bc0 bc1 bc0' bc1' bf0' bf1' kab oc0 oc1 ra' rb'
  have bc2 := nB7.out.c2
  rcases hZ'.out with ⟨rfl, rfl, rfl⟩ | ⟨z, rfl⟩
  · obtain rfl : zn1 = 0 := by have := lb2.out; rw [hab'.out] at this; simpa using this
    go_wp2_with (go_at_call 25; refine (leaf_yes b _ _ _ bc2).mono ?_; rintro e w' ⟨rfl, rfl⟩)
    go_ret
    exact ⟨_, _, _, _, _, _, _, _, _, rfl, nN7.out, nA7.out, (by have h := nB7.out; rw [hab'.out] at h; exact h), aNA7.out, aNB7.out, aAB7.out, sN7.out, sA7.out, sB7.out, kC7.out⟩
  have ez2 := Hid.mk' (show (bbs.map pv)[0]? = some (.pointer (some ⟨z, 0, none⟩)) by rw [hab'.out]; rfl)
  have zl := Hid.mk' (show 0 < bbs.length by rw [hab'.out]; simp)
  have zpos : 0 < zn1 := by have := lb2.out; have := zl.out; omega
  have zpos2 : (0 : Int) < (zn1 : Int) := by omega
  obtain ⟨hz, rfl, _⟩ := nB7.out.rc.at (by have := zl.out; simp; omega)
  have ac2 := nA7.out.c2
  have ablk7 := Hid.mk' nA7.out.blk
  have ez2c : W7.cell? ⟨hz, 0, none⟩ = some (.pointer (some ⟨z, 0, none⟩)) := by
    obtain ⟨_, h, _, hc, hf, _⟩ := nB7.out.rc.at (by have := zl.out; simp; omega)
    cases h
    exact hc _ _ ez2.out
  have RA2 := Hid.mk' nA7.out.rc
  have qa2 : Hid (¬ own (.slice zc0 zn0 zk0) a) := RA2.out.ne ablk7.out (by decide)
  have qb2 : Hid (¬ own (.slice zc0 zn0 zk0) b) := fun h => aAB7.out b (.inr (.inr (.inr h))) (.inl rfl)
  have qz2 : Hid (¬ own (.slice zc0 zn0 zk0) hz) := fun h => aAB7.out hz (.inr (.inr (.inr h))) (.inr (.inr (.inr rfl)))
  go_upto_region 17 with (go_at_call 25; refine (leaf_no b _ _ _ _ bc2 (by omega)).mono ?_; rintro e w' ⟨rfl, rfl⟩)
  refine start_ (n := 16) (S := fun w' => w'.cell? ⟨a, 2, none⟩ = some (.slice zc0 zn0 zk0) ∧ w'.cell? ⟨b, 2, none⟩ = some (.slice (some ⟨hz, 0, none⟩) zn1 zk1) ∧ w'.cell? ⟨hz, 0, none⟩ = some (.pointer (some ⟨z, 0, none⟩))) (ds := [15]) #[false, false, false, false, false, false, false, false, false, false, false, false, false, false, false, false] (by kernel_rfl) rfl rfl ⟨ac2, bc2, ez2c⟩ (fun hHeld => ?_)
  refine pure_ (i := 0) (N := some 241) (v := ?_) (a' := ?_) #[true, false, false, false, false, false, false, false, false, false, false, false, false, false, false, false] rfl rfl (by kernel_rfl) (fun _ _ _ h => h) (Or.inl ⟨by rfl, ?_⟩) ?_ ?_
  rotate_left
  · intro w'
    go_simp
    with_reducible rfl
  rotate_left
  · simp only [Act.put, List.setIfInBounds_toArray, List.set_cons_zero, List.set_cons_succ, i64_w, i32_w]
    rfl
  refine pure_ (i := 1) (N := some 242) (v := ?_) (a' := ?_) #[true, true, false, false, false, false, false, false, false, false, false, false, false, false, false, false] rfl rfl (by kernel_rfl) (fun _ _ _ h => h) (Or.inl ⟨by rfl, ?_⟩) ?_ ?_
  rotate_left
  · intro w'
    go_simp
    with_reducible rfl
  rotate_left
  · simp only [Act.put, List.setIfInBounds_toArray, List.set_cons_zero, List.set_cons_succ, i64_w, i32_w]
    rfl
  refine pure_ (i := 2) (N := some 243) (v := ?_) (a' := ?_) #[true, true, true, false, false, false, false, false, false, false, false, false, false, false, false, false] rfl rfl (by kernel_rfl) (fun _ _ _ h => h) (Or.inl ⟨by rfl, ?_⟩) ?_ ?_
  rotate_left
  · intro w'
    go_simp
    with_reducible rfl
  rotate_left
  · simp only [Act.put, List.setIfInBounds_toArray, List.set_cons_zero, List.set_cons_succ, i64_w, i32_w]
    rfl
  refine pure_ (i := 3) (N := some 244) (v := ?_) (a' := ?_) #[true, true, true, true, false, false, false, false, false, false, false, false, false, false, false, false] rfl rfl (by kernel_rfl) (fun _ _ _ h => h) (Or.inl ⟨by rfl, ?_⟩) ?_ ?_
  rotate_left
  · intro w'
    go_simp
    with_reducible rfl
  rotate_left
  · simp only [Act.put, List.setIfInBounds_toArray, List.set_cons_zero, List.set_cons_succ, i64_w, i32_w]
    rfl
  refine pure_ (i := 5) (N := some 246) (v := ?_) (a' := ?_) #[true, true, true, true, false, true, false, false, false, false, false, false, false, false, false, false] rfl rfl (by kernel_rfl) (fun _ _ _ h => h) (Or.inl ⟨by rfl, ?_⟩) ?_ ?_
  rotate_left
  · intro w'
    go_simp
    with_reducible rfl
  rotate_left
  · simp only [Act.put, List.setIfInBounds_toArray, List.set_cons_zero, List.set_cons_succ, i64_w, i32_w]
    rfl
  refine pure_ (i := 6) (N := some 247) (v := ?_) (a' := ?_) #[true, true, true, true, false, true, true, false, false, false, false, false, false, false, false, false] rfl rfl (by kernel_rfl) (fun _ _ _ h => h) (Or.inl ⟨by rfl, ?_⟩) ?_ ?_
  rotate_left
  · intro w'
    go_simp
    with_reducible rfl
  rotate_left
  · simp only [Act.put, List.setIfInBounds_toArray, List.set_cons_zero, List.set_cons_succ, i64_w, i32_w]
    rfl
  refine pure_ (i := 7) (N := some 248) (v := ?_) (a' := ?_) #[true, true, true, true, false, true, true, true, false, false, false, false, false, false, false, false] rfl rfl (by kernel_rfl) (fun _ _ _ h => h) (Or.inl ⟨by rfl, ?_⟩) ?_ ?_
  rotate_left
  · intro w'
    go_simp
    with_reducible rfl
  rotate_left
  · simp only [Act.put, List.setIfInBounds_toArray, List.set_cons_zero, List.set_cons_succ, i64_w, i32_w]
    rfl
  refine take_ (i := 4) (N := some 245) (v := ?_) (a' := ?_) #[true, true, true, true, true, true, true, true, false, false, false, false, false, false, false, false] rfl rfl (by kernel_rfl) (fun _ _ _ h => h) (Or.inl ⟨by rfl, ?_⟩) hHeld ?_ ?_
  rotate_left
  · rintro w' ⟨s0, s1, s2⟩
    go_simp
    with_reducible rfl
  rotate_left
  · simp only [Act.put, List.setIfInBounds_toArray, List.set_cons_zero, List.set_cons_succ, i64_w, i32_w]
    rfl
  refine take_ (i := 8) (N := some 249) (v := ?_) (a' := ?_) #[true, true, true, true, true, true, true, true, true, false, false, false, false, false, false, false] rfl rfl (by kernel_rfl) (fun _ _ _ h => h) (Or.inl ⟨by rfl, ?_⟩) hHeld ?_ ?_
  rotate_left
  · rintro w' ⟨s0, s1, s2⟩
    go_simp
    with_reducible rfl
  rotate_left
  · simp only [Act.put, List.setIfInBounds_toArray, List.set_cons_zero, List.set_cons_succ, i64_w, i32_w]
    rfl
  refine pure_ (i := 9) (N := some 250) (v := ?_) (a' := ?_) #[true, true, true, true, true, true, true, true, true, true, false, false, false, false, false, false] rfl rfl (by kernel_rfl) (fun _ _ _ h => h) (Or.inl ⟨by rfl, ?_⟩) ?_ ?_
  rotate_left
  · intro w'
    go_simp
    with_reducible rfl
  rotate_left
  · simp only [Act.put, List.setIfInBounds_toArray, List.set_cons_zero, List.set_cons_succ, i64_w, i32_w]
    rfl
  refine take_ (i := 10) (N := some 251) (v := ?_) (a' := ?_) #[true, true, true, true, true, true, true, true, true, true, true, false, false, false, false, false] rfl rfl (by kernel_rfl) (fun _ _ _ h => h) (Or.inl ⟨by rfl, ?_⟩) hHeld ?_ ?_
  rotate_left
  · rintro w' ⟨s0, s1, s2⟩
    go_simp
    with_reducible rfl
  rotate_left
  · simp only [Act.put, List.setIfInBounds_toArray, List.set_cons_zero, List.set_cons_succ, i64_w, i32_w]
    rfl
  refine one_ (i := 11) (N := some 252) #[true, true, true, true, true, true, true, true, true, true, true, true, false, false, false, false] rfl rfl (by kernel_rfl) (by decide) (fun K hK => ?_)
  refine value_ (w1 := ?_) (v := ?_) (by rfl) rfl ?_ ?_
  rotate_left 2
  · go_simp
    constructor
    · rfl
    · rfl
  refine hK.out _ _ ⟨(by first | exact Lib.cell?_alloc_some _ ac2 | (show World.cell? (World.alloc W7 _) _ = _; exact Lib.cell?_alloc_some _ ac2)), (by first | exact Lib.cell?_alloc_some _ bc2 | (show World.cell? (World.alloc W7 _) _ = _; exact Lib.cell?_alloc_some _ bc2)), (by first | exact Lib.cell?_alloc_some _ ez2c | (show World.cell? (World.alloc W7 _) _ = _; exact Lib.cell?_alloc_some _ ez2c))⟩ (fun hHeld => ?_)
  clear hK K
  refine norm_ (a' := ?_) ?_ ?_
  rotate_left
  · show Act.put _ (some 252) _ = _
    simp only [Act.put, List.setIfInBounds_toArray, List.set_cons_zero, List.set_cons_succ, i64_w, i32_w]
    rfl
  refine one_ (i := 12) (N := some 253) #[true, true, true, true, true, true, true, true, true, true, true, true, true, false, false, false] rfl rfl (by kernel_rfl) (by decide) (fun K hK => ?_)
  refine append_step (by rfl) rfl (.tmp 245) (.tmp 252) 52 48 (.pointer none) 8 rfl Try.underlying52 info48 rfl (.slice zc0 zn0 zk0) (.slice (some ⟨W7.heap.size, 0, none⟩) 1 1) (abs.map pv) [.pointer (some ⟨z, 0, none⟩)] (by rfl) (by rfl) (by first | exact Row.alD RA2.out _ | exact Row.al RA2.out _) (by first | exact Row.litD W7 48 (.pointer (some ⟨z, 0, none⟩)) | exact Row.lit W7 48 (.pointer (some ⟨z, 0, none⟩))) (by intro y hy; cases List.mem_singleton.1 hy; rfl) (by have := ln2.out; simp at this ⊢; omega) (by have := ln2.out; simp at this ⊢; omega) ?_
  intro v9 w9 r9 o9 k9
  replace k9 : Chg (own (.slice zc0 zn0 zk0)) W7 w9 := by first | exact Chg.of_allocD k9 | exact Chg.of_alloc k9
  replace o9 : ∀ k, own v9 k → own (.slice zc0 zn0 zk0) k ∨ (W7.heap.size ≤ k ∧ k < w9.heap.size) := fun k hk => (o9 k hk).imp id (fun h => ⟨Nat.le_trans (by simp) h.1, h.2⟩)
  obtain ⟨a9, n9, c9, rfl, l9⟩ := r9.form'
  have ac2' := k9.cell qa2.out ac2
  have af2' : w9.frozen? ⟨a, 2, none⟩ = false := frozen_of_row _ a 2 _ _ (k9.heap qa2.out ablk7.out)
  replace r9 := Hid.mk' r9
  replace o9 := Hid.mk' o9
  replace k9 := Hid.mk' k9
  refine hK.out _ _ ⟨ac2', (k9.out.cell qb2.out bc2), (k9.out.cell qz2.out ez2c)⟩ (fun hHeld => ?_)
  clear hK K
  refine norm_ (a' := ?_) ?_ ?_
  rotate_left
  · show Act.put _ (some 253) _ = _
    simp only [Act.put, List.setIfInBounds_toArray, List.set_cons_zero, List.set_cons_succ, i64_w, i32_w]
    rfl
  refine pure_ (i := 13) (N := some 254) (v := ?_) (a' := ?_) #[true, true, true, true, true, true, true, true, true, true, true, true, true, true, false, false] rfl rfl (by kernel_rfl) (fun _ _ _ h => h) (Or.inl ⟨by rfl, ?_⟩) ?_ ?_
  rotate_left
  · intro w'
    go_simp
    with_reducible rfl
  rotate_left
  · simp only [Act.put, List.setIfInBounds_toArray, List.set_cons_zero, List.set_cons_succ, i64_w, i32_w]
    rfl
  refine pure_ (i := 14) (N := some 255) (v := ?_) (a' := ?_) #[true, true, true, true, true, true, true, true, true, true, true, true, true, true, true, false] rfl rfl (by kernel_rfl) (fun _ _ _ h => h) (Or.inl ⟨by rfl, ?_⟩) ?_ ?_
  rotate_left
  · intro w'
    go_simp
    with_reducible rfl
  rotate_left
  · simp only [Act.put, List.setIfInBounds_toArray, List.set_cons_zero, List.set_cons_succ, i64_w, i32_w]
    rfl
  refine last_ (i := 15) (N := none) #[true, true, true, true, true, true, true, true, true, true, true, true, true, true, true, true] rfl rfl (by kernel_rfl) (by decide) (fun K hK => ?_)
  refine skip_ (w1 := ?_) (by rfl) rfl ?_ ?_
  rotate_left
  · go_simp
    rfl
  refine hK.out _ _ ?_
  clear hK K
  refine done_ (by kernel_rfl) ?_
  go_upto_region 18 with (fail)
  obtain ⟨W8, hW8⟩ : ∃ W8, W8 = w9.setCell ⟨a, 2, none⟩ (.slice a9 n9 c9) := ⟨_, rfl⟩
  rw [← hW8]
  obtain ⟨nA8, kk8⟩ := nA7.out.step2 (k9.out) (show Row _ _ (.slice a9 n9 c9) ((abs ++ [z]).map pv) from (by simpa [pv] using r9.out))
  rw [← hW8] at nA8 kk8
  have nN8 := nN7.out.chg kk8 (aNA7.out)
  have nB8 := nB7.out.chg kk8 (aAB7.out.symm)
  have aNA8 := (apart2 (o9.out) (aNA7.out.symm) nN7.out.lt).symm
  have aAB8 := apart2 (o9.out) (aAB7.out) nB7.out.lt
  have aNB8 := aNB7.out
  have sA8 := nset2 (o9.out) sA7.out (fun k h => .inr (Nat.le_trans kC7.out.size h))
  have sN8 := sN7.out
  have sB8 := sB7.out
  have kC8 := kC7.out.trans' kk8 (fun k h => (sA7.out k h).imp (fun h => .inr (.inl h)) id)
  replace hW8 := Hid.mk' hW8
  replace kk8 := Hid.mk' kk8
  replace nN8 := Hid.mk' nN8
  replace nA8 := Hid.mk' nA8
  replace nB8 := Hid.mk' nB8
  replace sN8 := Hid.mk' sN8
  replace sA8 := Hid.mk' sA8
  replace sB8 := Hid.mk' sB8
  replace aNA8 := Hid.mk' aNA8
  replace aNB8 := Hid.mk' aNB8
  replace aAB8 := Hid.mk' aAB8
  replace kC8 := Hid.mk' kC8
  clear ac2 bc2 ez2c ac2' af2'
  have bc2 := nB8.out.c2
  have bblk8 := Hid.mk' nB8.out.blk
  have RD2 := Hid.mk' nB8.out.rc
  have hzb : Hid (¬ b = hz) := fun h => RD2.out.ne bblk8.out (by decide) ((own_slice _ _ _ _ _ _).2 h)
  go_wp2_with (go_at_call 53; refine (delN hz zn1 zk1 0 0 1 (bbs.map pv) _ RD2.out (by have := zl.out; simp; omega) rfl rfl (map_pv_cell _)).mono ?_; rintro e wd ⟨rfl, rd, kd⟩; have bc2' := kd.cell (p := ⟨b, 2, none⟩) hzb.out bc2; have bf2' : wd.frozen? ⟨b, 2, none⟩ = false := (frozen_of_row _ b 2 _ _ (kd.heap hzb.out bblk8.out)); replace rd := Hid.mk' rd; replace kd := Hid.mk' kd)
  go_ret
  have kd' : Chg (own (.slice (some ⟨hz, 0, none⟩) zn1 zk1)) W8 wd := kd.out.mono fun k h => (own_slice _ _ _ _ _ _).2 h
  have od : ∀ k, own (.slice (some ⟨hz, 0, none⟩) (zn1 - 1) zk1) k → own (.slice (some ⟨hz, 0, none⟩) zn1 zk1) k ∨ (W8.heap.size ≤ k ∧ k < wd.heap.size) := fun k hk => .inl ((own_slice _ _ _ _ _ _).2 ((own_slice _ _ _ _ _ _).1 hk))
  obtain ⟨W9, hW9⟩ : ∃ W9, W9 = wd.setCell ⟨b, 2, none⟩ (.slice (some ⟨hz, 0, none⟩) (zn1 - 1) zk1) := ⟨_, rfl⟩
  rw [← hW9]
  obtain ⟨nB9, kk9⟩ := nB8.out.step2 (kd') (show Row _ _ (.slice (some ⟨hz, 0, none⟩) (zn1 - 1) zk1) ((bbs.drop 1).map pv) from (by simpa using rd.out))
  rw [← hW9] at nB9 kk9
  have nN9 := nN8.out.chg kk9 (aNB8.out)
  have nA9 := nA8.out.chg kk9 (aAB8.out)
  have aNB9 := (apart2 (od) (aNB8.out.symm) nN8.out.lt).symm
  have aAB9 := (apart2 (od) (aAB8.out.symm) nA8.out.lt).symm
  have aNA9 := aNA8.out
  have sB9 := nset2 (od) sB8.out (fun k h => .inr (Nat.le_trans kC8.out.size h))
  have sN9 := sN8.out
  have sA9 := sA8.out
  have kC9 := kC8.out.trans' kk9 (fun k h => (sB8.out k h).imp (fun h => .inr (.inr h)) id)
  replace hW9 := Hid.mk' hW9
  replace kk9 := Hid.mk' kk9
  replace nN9 := Hid.mk' nN9
  replace nA9 := Hid.mk' nA9
  replace nB9 := Hid.mk' nB9
  replace sN9 := Hid.mk' sN9
  replace sA9 := Hid.mk' sA9
  replace sB9 := Hid.mk' sB9
  replace aNA9 := Hid.mk' aNA9
  replace aNB9 := Hid.mk' aNB9
  replace aAB9 := Hid.mk' aAB9
  replace kC9 := Hid.mk' kC9
  exact ⟨_, _, _, _, _, _, _, _, _, rfl, nN9.out, nA9.out, (by have h := nB9.out; rw [hab'.out] at h; exact h), aNA9.out, aNB9.out, aAB9.out, sN9.out, sA9.out, sB9.out, kC9.out⟩

end Go.Proofs.Ytamnmoejjjaegaa
