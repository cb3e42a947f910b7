/- The four paths of (*node).put: found, leaf, full child, other child. Conditions: what find returns, what the calls do. -/
import Derived.Test.YtamnmoejjjaegaaN0
import Derived.Test.YtamnmoejjjaegaaH
import Derived.Test.YtamnmoejjjaegaaW
set_option linter.unusedVariables false
set_option linter.unusedSimpArgs false
namespace Go.Proofs.Ytamnmoejjjaegaa
open Go Go.RowKit Go.Proofs.YtamnmoejjjaegaaW.PrintLast

set_option maxHeartbeats 4000000 in
set_option maxRecDepth 100000 in
theorem put_found (n i : Nat) (k : ByteArray) (v d y : Int) (ks : List ByteArray) (vs : List Int) (bs : List Nat) (vk vv vc : Value) (w : World) (hN : Nd w n vk vv vc ks vs bs)
    (hf : Calls Try.prog 31 #[vk, .string k] w fun e w' => e = .returned (.tuple #[.int .i64 i, .bool true]) ∧ w = w') (hi : vs[i]? = some y) (hl : vs.length ≤ 1000) :
    Calls Try.prog 28 #[.pointer (some ⟨n, 0, none⟩), .string k, .int .i64 v, .int .i64 d] w fun e w' => e = .returned (.tuple #[.int .i64 y, .bool true]) ∧ Nd w' n vk vv vc ks (vs.set i v) bs ∧ Chg (nset n vk vv vc) w w' := by
  have hi2 : i < vs.length := (List.getElem?_eq_some_iff.1 hi).1
  have ex := Hid.mk' (show (vs.map iv)[i]? = some (.int .i64 y) by rw [List.getElem?_map, hi]; rfl)
  obtain ⟨ak, nk, ck, av, nv, cv, ac, nc, cc, rfl, rfl, rfl, lk0, lv0, lc0⟩ := hN.form'
  obtain ⟨gv, rfl, _, hc, hfz, _⟩ := hN.rv.at (by simp; omega)
  have b1 : (i : Int) < (nv : Int) := by have := lv0.out; omega
  have i1000 : i ≤ 1000 := by omega
  have c0 := hN.c0
  have c1 := hN.c1
  have e1 : w.cell? ⟨gv, i, none⟩ = some (.int .i64 y) := hc _ _ ex.out
  have f1 : w.frozen? ⟨gv, i, none⟩ = false := hfz _
  have hN' := Hid.mk' hN
  have hf' := Hid.mk' hf
  clear hN hf hi hi2 hc hfz hl
  go_enter Try.func28, Try.ntmps28
  go_upto_region 4 with (go_at_call 31; refine hf'.out.mono ?_; rintro e w' ⟨rfl, rfl⟩)
  refine start_ (n := 16) (S := fun w' => w'.cell? ⟨n, 1, none⟩ = some (.slice (some ⟨gv, 0, none⟩) nv cv) ∧ w'.cell? ⟨gv, i, none⟩ = some (.int .i64 y)) (ds := [15]) #[false, false, false, false, false, false, false, false, false, false, false, false, false, false, false, false] (by kernel_rfl) rfl rfl ⟨c1, e1⟩ (fun hHeld => ?_)
  refine pure_ (i := 0) (N := some 24) (v := ?_) (a' := ?_) #[true, false, false, false, false, false, false, false, false, false, false, false, false, false, false, false] rfl rfl (by kernel_rfl) (fun _ _ _ h => h) (Or.inl ⟨by rfl, ?_⟩) ?_ ?_
  rotate_left
  · intro w'
    go_simp
    with_reducible rfl
  rotate_left
  · simp only [Act.put, List.setIfInBounds_toArray, List.set_cons_zero, List.set_cons_succ, i64_w, i32_w]
    rfl
  refine pure_ (i := 1) (N := some 25) (v := ?_) (a' := ?_) #[true, true, false, false, false, false, false, false, false, false, false, false, false, false, false, false] rfl rfl (by kernel_rfl) (fun _ _ _ h => h) (Or.inl ⟨by rfl, ?_⟩) ?_ ?_
  rotate_left
  · intro w'
    go_simp
    with_reducible rfl
  rotate_left
  · simp only [Act.put, List.setIfInBounds_toArray, List.set_cons_zero, List.set_cons_succ, i64_w, i32_w]
    rfl
  refine pure_ (i := 2) (N := some 26) (v := ?_) (a' := ?_) #[true, true, true, false, false, false, false, false, false, false, false, false, false, false, false, false] rfl rfl (by kernel_rfl) (fun _ _ _ h => h) (Or.inl ⟨by rfl, ?_⟩) ?_ ?_
  rotate_left
  · intro w'
    go_simp
    with_reducible rfl
  rotate_left
  · simp only [Act.put, List.setIfInBounds_toArray, List.set_cons_zero, List.set_cons_succ, i64_w, i32_w]
    rfl
  refine pure_ (i := 4) (N := some 28) (v := ?_) (a' := ?_) #[true, true, true, false, true, false, false, false, false, false, false, false, false, false, false, false] rfl rfl (by kernel_rfl) (fun _ _ _ h => h) (Or.inl ⟨by rfl, ?_⟩) ?_ ?_
  rotate_left
  · intro w'
    go_simp
    with_reducible rfl
  rotate_left
  · simp only [Act.put, List.setIfInBounds_toArray, List.set_cons_zero, List.set_cons_succ, i64_w, i32_w]
    rfl
  refine pure_ (i := 5) (N := some 29) (v := ?_) (a' := ?_) #[true, true, true, false, true, true, false, false, false, false, false, false, false, false, false, false] rfl rfl (by kernel_rfl) (fun _ _ _ h => h) (Or.inl ⟨by rfl, ?_⟩) ?_ ?_
  rotate_left
  · intro w'
    go_simp
    with_reducible rfl
  rotate_left
  · simp only [Act.put, List.setIfInBounds_toArray, List.set_cons_zero, List.set_cons_succ, i64_w, i32_w]
    rfl
  refine pure_ (i := 6) (N := some 30) (v := ?_) (a' := ?_) #[true, true, true, false, true, true, true, false, false, false, false, false, false, false, false, false] rfl rfl (by kernel_rfl) (fun _ _ _ h => h) (Or.inl ⟨by rfl, ?_⟩) ?_ ?_
  rotate_left
  · intro w'
    go_simp
    with_reducible rfl
  rotate_left
  · simp only [Act.put, List.setIfInBounds_toArray, List.set_cons_zero, List.set_cons_succ, i64_w, i32_w]
    rfl
  refine pure_ (i := 7) (N := some 31) (v := ?_) (a' := ?_) #[true, true, true, false, true, true, true, true, false, false, false, false, false, false, false, false] rfl rfl (by kernel_rfl) (fun _ _ _ h => h) (Or.inl ⟨by rfl, ?_⟩) ?_ ?_
  rotate_left
  · intro w'
    go_simp
    with_reducible rfl
  rotate_left
  · simp only [Act.put, List.setIfInBounds_toArray, List.set_cons_zero, List.set_cons_succ, i64_w, i32_w]
    rfl
  refine pure_ (i := 9) (N := some 33) (v := ?_) (a' := ?_) #[true, true, true, false, true, true, true, true, false, true, false, false, false, false, false, false] rfl rfl (by kernel_rfl) (fun _ _ _ h => h) (Or.inl ⟨by rfl, ?_⟩) ?_ ?_
  rotate_left
  · intro w'
    go_simp
    with_reducible rfl
  rotate_left
  · simp only [Act.put, List.setIfInBounds_toArray, List.set_cons_zero, List.set_cons_succ, i64_w, i32_w]
    rfl
  refine pure_ (i := 12) (N := some 36) (v := ?_) (a' := ?_) #[true, true, true, false, true, true, true, true, false, true, false, false, true, false, false, false] rfl rfl (by kernel_rfl) (fun _ _ _ h => h) (Or.inl ⟨by rfl, ?_⟩) ?_ ?_
  rotate_left
  · intro w'
    go_simp
    with_reducible rfl
  rotate_left
  · simp only [Act.put, List.setIfInBounds_toArray, List.set_cons_zero, List.set_cons_succ, i64_w, i32_w]
    rfl
  refine take_ (i := 3) (N := some 27) (v := ?_) (a' := ?_) #[true, true, true, true, true, true, true, true, false, true, false, false, true, false, false, false] rfl rfl (by kernel_rfl) (fun _ _ _ h => h) (Or.inl ⟨by rfl, ?_⟩) hHeld ?_ ?_
  rotate_left
  · rintro w' ⟨s0, s1⟩
    go_simp
    with_reducible rfl
  rotate_left
  · simp only [Act.put, List.setIfInBounds_toArray, List.set_cons_zero, List.set_cons_succ, i64_w, i32_w]
    rfl
  refine take_ (i := 8) (N := some 32) (v := ?_) (a' := ?_) #[true, true, true, true, true, true, true, true, true, true, false, false, true, false, false, false] rfl rfl (by kernel_rfl) (fun _ _ _ h => h) (Or.inl ⟨by rfl, ?_⟩) hHeld ?_ ?_
  rotate_left
  · rintro w' ⟨s0, s1⟩
    go_simp
    with_reducible rfl
  rotate_left
  · simp only [Act.put, List.setIfInBounds_toArray, List.set_cons_zero, List.set_cons_succ, i64_w, i32_w]
    rfl
  refine pure_ (i := 10) (N := some 34) (v := ?_) (a' := ?_) #[true, true, true, true, true, true, true, true, true, true, true, false, true, false, false, false] rfl rfl (by kernel_rfl) (fun _ _ _ h => h) (Or.inl ⟨by rfl, ?_⟩) ?_ ?_
  rotate_left
  · intro w'
    go_simp
    with_reducible rfl
  rotate_left
  · simp only [Act.put, List.setIfInBounds_toArray, List.set_cons_zero, List.set_cons_succ, i64_w, i32_w]
    rfl
  refine take_ (i := 11) (N := some 35) (v := ?_) (a' := ?_) #[true, true, true, true, true, true, true, true, true, true, true, true, true, false, false, false] rfl rfl (by kernel_rfl) (fun _ _ _ h => h) (Or.inl ⟨by rfl, ?_⟩) hHeld ?_ ?_
  rotate_left
  · rintro w' ⟨s0, s1⟩
    go_simp
    with_reducible rfl
  rotate_left
  · simp only [Act.put, List.setIfInBounds_toArray, List.set_cons_zero, List.set_cons_succ, i64_w, i32_w]
    rfl
  refine pure_ (i := 13) (N := some 12) (v := ?_) (a' := ?_) #[true, true, true, true, true, true, true, true, true, true, true, true, true, true, false, false] rfl rfl (by kernel_rfl) (fun _ _ _ h => h) (Or.inl ⟨by rfl, ?_⟩) ?_ ?_
  rotate_left
  · intro w'
    go_simp
    with_reducible rfl
  rotate_left
  · simp only [Act.put, List.setIfInBounds_toArray, List.set_cons_zero, List.set_cons_succ, i64_w, i32_w]
    rfl
  refine pure_ (i := 14) (N := some 37) (v := ?_) (a' := ?_) #[true, true, true, true, true, true, true, true, true, true, true, true, true, true, true, false] rfl rfl (by kernel_rfl) (fun _ _ _ h => h) (Or.inl ⟨by rfl, ?_⟩) ?_ ?_
  rotate_left
  · intro w'
    go_simp
    with_reducible rfl
  rotate_left
  · simp only [Act.put, List.setIfInBounds_toArray, List.set_cons_zero, List.set_cons_succ, i64_w, i32_w]
    rfl
  refine last_ (i := 15) (N := none) #[true, true, true, true, true, true, true, true, true, true, true, true, true, true, true, true] rfl rfl (by kernel_rfl) (by decide) (fun K hK => ?_)
  refine skip_ (w1 := ?_) (by rfl) rfl ?_ ?_
  rotate_left
  · go_simp
    rfl
  refine hK.out _ _ ?_
  clear hK K
  refine done_ (by kernel_rfl) ?_
  go_wp2_with fail
  go_ret2
  obtain ⟨h1, h2⟩ := hN'.out.elem1 i v
  exact ⟨rfl, h1.chg ((Chg.refl NoB _).drew) (fun _ _ h => h), h2.drew⟩

set_option maxHeartbeats 4000000 in
set_option maxRecDepth 100000 in
theorem put_leaf (n i : Nat) (k : ByteArray) (v d : Int) (ks : List ByteArray) (vs : List Int) (vk vv vc : Value) (w : World) (hN : Nd w n vk vv vc ks vs [])
    (hf : Calls Try.prog 31 #[vk, .string k] w fun e w' => e = .returned (.tuple #[.int .i64 i, .bool false]) ∧ w = w') (hi : i ≤ ks.length) (hl : ks.length ≤ 1000) (hv : vs.length = ks.length) :
    Calls Try.prog 28 #[.pointer (some ⟨n, 0, none⟩), .string k, .int .i64 v, .int .i64 d] w fun e w' => ∃ vk' vv', e = .returned (.tuple #[.int .i64 0, .bool false]) ∧ Nd w' n vk' vv' vc (ks.take i ++ k :: ks.drop i) (vs.take i ++ v :: vs.drop i) [] ∧
      Sub (nset n vk' vv' vc) (fun k => nset n vk vv vc k ∨ w.heap.size ≤ k) ∧ Chg (nset n vk vv vc) w w' := by
  obtain ⟨ak, nk, ck, av, nv, cv, ac, nc, cc, rfl, rfl, rfl, lk0, lv0, lc0⟩ := hN.form'
  obtain rfl : nc = 0 := lc0.out
  have i1000 : i ≤ 1000 := by omega
  have ln0 : Hid ((ks.map sv).length ≤ 1048576) := by show _ ≤ _; simp; omega
  have ln1 : Hid ((vs.map iv).length ≤ 1048576) := by show _ ≤ _; simp; omega
  have li0 : Hid (i ≤ (ks.map sv).length) := by show _ ≤ _; simp; omega
  have li1 : Hid (i ≤ (vs.map iv).length) := by show _ ≤ _; simp; omega
  have c0 := hN.c0
  have c1 := hN.c1
  have c2 := hN.c2
  have nblk := Hid.mk' hN.blk
  have nN0 := Hid.mk' hN
  have RK := Hid.mk' hN.rk
  have RV := Hid.mk' hN.rv
  have hf' := Hid.mk' hf
  have sz := Hid.mk' (show Sub (nset n (.slice ak nk ck) (.slice av nv cv) (.slice ac 0 cc)) (fun k => nset n (.slice ak nk ck) (.slice av nv cv) (.slice ac 0 cc) k ∨ w.heap.size ≤ k) from fun k h => .inl h)
  have qk : Hid (¬ own (.slice ak nk ck) n) := RK.out.ne nblk.out (by decide)
  clear hN hf hi hl hv
  obtain ⟨W1, hW1⟩ : ∃ W1, W1 = w.alloc (.cells #[.string k] 9) := ⟨_, rfl⟩
  have rx : Hid (Row W1 9 (.slice (some ⟨w.heap.size, 0, none⟩) 1 1) [.string k]) := by show Row _ _ _ _; rw [hW1]; exact Row.lit w 9 (.string k)
  have r1 : Hid (Row W1 9 (.slice ak nk ck) (ks.map sv)) := by show Row _ _ _ _; rw [hW1]; exact RK.out.al _
  have ne1 : Hid (¬ own (.slice ak nk ck) w.heap.size) := fun h => by have := RK.out.lt h; omega
  have k1 : Hid (Chg NoB w W1) := by show Chg _ _ _; rw [hW1]; exact (Chg.refl _ _).alloc _
  have hW1' := Hid.mk' hW1
  clear hW1
  go_enter Try.func28, Try.ntmps28
  go_upto_region 8 with (first
    | (go_at_call 31; refine hf'.out.mono ?_; rintro e w' ⟨rfl, rfl⟩)
    | (go_at_call 25; refine (leaf_yes n _ _ _ c2).mono ?_; rintro e w' ⟨rfl, rfl⟩)
    | (go_at_call 46; rw [← hW1'.out]; refine (insS (.slice ak nk ck) i _ w.heap.size (.string k) (ks.map sv) _ r1.out li0.out rfl rx.out ne1.out rfl (map_sv_cell _) ln0.out).mono ?_; rintro e w2 ⟨v2, rfl, r2, o2, k2⟩
       replace k2 : Chg (own (.slice ak nk ck)) w w2 := (k1.out.mono fun _ h => h.elim).trans k2
       replace o2 : ∀ j, own v2 j → own (.slice ak nk ck) j ∨ (w.heap.size ≤ j ∧ j < w2.heap.size) := fun j hj => (o2 j hj).imp id fun h => ⟨Nat.le_trans k1.out.size h.1, h.2⟩
       have cf2 : w2.frozen? ⟨n, 0, none⟩ = false := frozen_of_row _ n 0 _ _ (k2.heap qk.out nblk.out)
       have cc2 := k2.cell qk.out c0
       obtain ⟨bk, mk, dk, rfl, ek⟩ := r2.form'
       replace r2 := Hid.mk' r2; replace o2 := Hid.mk' o2; replace k2 := Hid.mk' k2))
  obtain ⟨W3, hW3⟩ : ∃ W3, W3 = w2.setCell ⟨n, 0, none⟩ (.slice bk mk dk) := ⟨_, rfl⟩
  rw [← hW3]
  obtain ⟨nN3, k3⟩ := nN0.out.step0 k2.out (show Row _ _ (.slice bk mk dk) ((ks.take i ++ k :: ks.drop i).map sv) from by have := r2.out; rwa [show ((ks.map sv).take i ++ Value.string k :: (ks.map sv).drop i) = ((ks.take i ++ k :: ks.drop i).map sv) from by simp [sv, List.map_take, List.map_drop]] at this)
  rw [← hW3] at nN3 k3
  have s3 := nset0 o2.out sz.out (fun k h => .inr h)
  clear hW3 c0 c1 c2 cf2 cc2 rx r1 ne1 k1 hW1'
  replace nN3 := Hid.mk' nN3
  replace k3 := Hid.mk' k3
  replace s3 := Hid.mk' s3
  clear r2 o2 k2
  have c1 := nN3.out.c1
  have nblk3 := Hid.mk' nN3.out.blk
  have RV3 := Hid.mk' nN3.out.rv
  have qv : Hid (¬ own (.slice av nv cv) n) := RV3.out.ne nblk3.out (by decide)
  obtain ⟨W4, hW4⟩ : ∃ W4, W4 = W3.alloc (.cells #[.int .i64 v] 3) := ⟨_, rfl⟩
  have rx : Hid (Row W4 3 (.slice (some ⟨W3.heap.size, 0, none⟩) 1 1) [.int .i64 v]) := by show Row _ _ _ _; rw [hW4]; exact Row.lit W3 3 (.int .i64 v)
  have r1 : Hid (Row W4 3 (.slice av nv cv) (vs.map iv)) := by show Row _ _ _ _; rw [hW4]; exact RV3.out.al _
  have ne1 : Hid (¬ own (.slice av nv cv) W3.heap.size) := fun h => by have := RV3.out.lt h; omega
  have k1 : Hid (Chg NoB W3 W4) := by show Chg _ _ _; rw [hW4]; exact (Chg.refl _ _).alloc _
  have hW4' := Hid.mk' hW4
  clear hW4
  go_wp2_with (go_at_call 47; rw [← hW4'.out]; refine (insI (.slice av nv cv) i _ W3.heap.size (.int .i64 v) (vs.map iv) _ r1.out li1.out rfl rx.out ne1.out rfl (map_iv_cell _) ln1.out).mono ?_; rintro e w5 ⟨v5, rfl, r5, o5, k5⟩
               replace k5 : Chg (own (.slice av nv cv)) W3 w5 := (k1.out.mono fun _ h => h.elim).trans k5
               replace o5 : ∀ j, own v5 j → own (.slice av nv cv) j ∨ (W3.heap.size ≤ j ∧ j < w5.heap.size) := fun j hj => (o5 j hj).imp id fun h => ⟨Nat.le_trans k1.out.size h.1, h.2⟩
               have cf5 : w5.frozen? ⟨n, 1, none⟩ = false := frozen_of_row _ n 1 _ _ (k5.heap qv.out nblk3.out)
               have cc5 := k5.cell qv.out c1
               obtain ⟨bv, mv, dv, rfl, ev⟩ := r5.form'
               replace r5 := Hid.mk' r5; replace o5 := Hid.mk' o5; replace k5 := Hid.mk' k5)
  go_ret2
  obtain ⟨nN6, k6⟩ := nN3.out.step1 k5.out (show Row _ _ (.slice bv mv dv) ((vs.take i ++ v :: vs.drop i).map iv) from by have := r5.out; rwa [show ((vs.map iv).take i ++ Value.int .i64 v :: (vs.map iv).drop i) = ((vs.take i ++ v :: vs.drop i).map iv) from by simp [iv, List.map_take, List.map_drop]] at this)
  exact ⟨_, _, rfl, nN6, nset1 o5.out s3.out (fun k h => .inr (Nat.le_trans k3.out.size h)), k3.out.trans' k6 fun k h => (s3.out k h).imp id id⟩

set_option maxHeartbeats 4000000 in
set_option maxRecDepth 100000 in
theorem put_full (n i q nq cq dd : Nat) (aq : Option Addr) (k : ByteArray) (v vd o : Int) (f : Bool) (ks : List ByteArray) (vs : List Int) (bs : List Nat) (vk vv vc : Value) (Q1 R : World → Prop) (w : World) (hN : Nd w n vk vv vc ks vs bs)
    (hf : Calls Try.prog 31 #[vk, .string k] w fun e w' => e = .returned (.tuple #[.int .i64 i, .bool false]) ∧ w = w') (hi : bs[i]? = some q) (hl : bs.length ≤ 1000)
    (hq : w.cell? ⟨q, 0, none⟩ = some (.slice aq nq cq)) (hvd : vd = dd) (hd : 2 ≤ dd) (hd2 : dd ≤ 32) (hnq : nq + 1 = 2 * dd)
    (hsplit : Calls Try.prog 27 #[.pointer (some ⟨n, 0, none⟩), .int .i64 (i : Int), .int .i64 vd] w fun e w' => e = .returned (.tuple #[]) ∧ Q1 w')
    (hput : ∀ w1, Q1 w1 → Calls Try.prog 28 #[.pointer (some ⟨n, 0, none⟩), .string k, .int .i64 v, .int .i64 vd] w1 fun e w' => e = .returned (.tuple #[.int .i64 o, .bool f]) ∧ R w') :
    Calls Try.prog 28 #[.pointer (some ⟨n, 0, none⟩), .string k, .int .i64 v, .int .i64 vd] w fun e w' => e = .returned (.tuple #[.int .i64 o, .bool f]) ∧ R w' := by
  subst hvd
  obtain ⟨ak, nk, ck, av, nv, cv, ac, nc, cc, rfl, rfl, rfl, lk0, lv0, lc0⟩ := hN.form'
  have hi2 : i < bs.length := (List.getElem?_eq_some_iff.1 hi).1
  obtain ⟨gc, rfl, _, hc, hfz, _⟩ := hN.rc.at (by simp; omega)
  have e1 : w.cell? ⟨gc, i, none⟩ = some (.pointer (some ⟨q, 0, none⟩)) := hc _ _ (by rw [List.getElem?_map, hi]; rfl)
  have b1 : (i : Int) < (nc : Int) := by have := lc0.out; omega
  have b2 : 0 < nc := by have := lc0.out; omega
  have i1000 : i ≤ 1000 := by omega
  have m1 : (nq : Int) = 2 * (dd : Int) - 1 := by omega
  have m2 : IntKind.i64.wrap (2 * (dd : Int)) = 2 * (dd : Int) := by rw [IntKind.wrap_i64]; omega
  have m3 : IntKind.i64.wrap (2 * (dd : Int) - 1) = 2 * (dd : Int) - 1 := by rw [IntKind.wrap_i64]; omega
  have m4 : ((nq : Int) == 2 * (dd : Int) - 1) = true := by simp [m1]
  have c0 := hN.c0
  have c2 := hN.c2
  have hf' := Hid.mk' hf
  have hs' := Hid.mk' hsplit
  have hp' := Hid.mk' hput
  clear hN hf hi hi2 hc hfz hl hsplit hput m1 lk0 lv0 lc0 hnq
  go_enter Try.func28, Try.ntmps28
  go_wp2_with (first
    | (go_at_call 31; refine hf'.out.mono ?_; rintro e w' ⟨rfl, rfl⟩)
    | (go_at_call 25; refine (leaf_no n _ _ _ _ c2 b2).mono ?_; rintro e w' ⟨rfl, rfl⟩)
    | (go_at_call 27; refine hs'.out.mono ?_; rintro e w2 ⟨rfl, q1⟩)
    | (go_at_call 28; refine (hp'.out _ q1).mono ?_; rintro e w3 ⟨rfl, q2⟩))
  go_ret2
  exact ⟨rfl, q2⟩

set_option maxHeartbeats 4000000 in
set_option maxRecDepth 100000 in
theorem put_kid (n i q nq cq dd : Nat) (aq : Option Addr) (k : ByteArray) (v vd o : Int) (f : Bool) (ks : List ByteArray) (vs : List Int) (bs : List Nat) (vk vv vc : Value) (R : World → Prop) (w : World) (hN : Nd w n vk vv vc ks vs bs)
    (hf : Calls Try.prog 31 #[vk, .string k] w fun e w' => e = .returned (.tuple #[.int .i64 i, .bool false]) ∧ w = w') (hi : bs[i]? = some q) (hl : bs.length ≤ 1000)
    (hq : w.cell? ⟨q, 0, none⟩ = some (.slice aq nq cq)) (hvd : vd = dd) (hd : 2 ≤ dd) (hd2 : dd ≤ 32) (hnq : nq + 1 < 2 * dd)
    (hput : Calls Try.prog 28 #[.pointer (some ⟨q, 0, none⟩), .string k, .int .i64 v, .int .i64 vd] w fun e w' => e = .returned (.tuple #[.int .i64 o, .bool f]) ∧ R w') :
    Calls Try.prog 28 #[.pointer (some ⟨n, 0, none⟩), .string k, .int .i64 v, .int .i64 vd] w fun e w' => e = .returned (.tuple #[.int .i64 o, .bool f]) ∧ R w' := by
  subst hvd
  obtain ⟨ak, nk, ck, av, nv, cv, ac, nc, cc, rfl, rfl, rfl, lk0, lv0, lc0⟩ := hN.form'
  have hi2 : i < bs.length := (List.getElem?_eq_some_iff.1 hi).1
  obtain ⟨gc, rfl, _, hc, hfz, _⟩ := hN.rc.at (by simp; omega)
  have e1 : w.cell? ⟨gc, i, none⟩ = some (.pointer (some ⟨q, 0, none⟩)) := hc _ _ (by rw [List.getElem?_map, hi]; rfl)
  have b1 : (i : Int) < (nc : Int) := by have := lc0.out; omega
  have b2 : 0 < nc := by have := lc0.out; omega
  have i1000 : i ≤ 1000 := by omega
  have m2 : IntKind.i64.wrap (2 * (dd : Int)) = 2 * (dd : Int) := by rw [IntKind.wrap_i64]; omega
  have m3 : IntKind.i64.wrap (2 * (dd : Int) - 1) = 2 * (dd : Int) - 1 := by rw [IntKind.wrap_i64]; omega
  have m4 : ((nq : Int) == 2 * (dd : Int) - 1) = false := by rw [beq_eq_false_iff_ne]; omega
  have c0 := hN.c0
  have c2 := hN.c2
  have hf' := Hid.mk' hf
  have hp' := Hid.mk' hput
  clear hN hf hi hi2 hc hfz hl hput lk0 lv0 lc0 hnq
  go_enter Try.func28, Try.ntmps28
  go_wp2_with (first
    | (go_at_call 31; refine hf'.out.mono ?_; rintro e w' ⟨rfl, rfl⟩)
    | (go_at_call 25; refine (leaf_no n _ _ _ _ c2 b2).mono ?_; rintro e w' ⟨rfl, rfl⟩)
    | (go_at_call 28; refine hp'.out.mono ?_; rintro e w3 ⟨rfl, q2⟩))
  go_ret2
  exact ⟨rfl, q2⟩
end Go.Proofs.Ytamnmoejjjaegaa
