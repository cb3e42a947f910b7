/- The paths of (*node).remove: leaf, enriched child, joined children, key taken from a child. Conditions: what find returns, what the calls do. -/
import Derived.Test.YtamnmoejjjaegaaN0
import Derived.Test.YtamnmoejjjaegaaH
import Derived.Test.YtamnmoejjjaegaaW
set_option linter.unusedVariables false
set_option linter.unusedSimpArgs false
namespace Go.Proofs.Ytamnmoejjjaegaa
open Go Go.RowKit Go.Proofs.YtamnmoejjjaegaaW.PrintLast

theorem Row.frz {w : World} {E g n c : Nat} {xs : List Value} (h : Row w E (.slice (some ⟨g, 0, none⟩) n c) xs) (i : Nat) : w.frozen? ⟨g, i, none⟩ = false := by
  rcases h with ⟨h, -⟩ | ⟨g', cap, cur, h, h1, -⟩
  · cases h
  · cases h
    exact frozen_of_row _ _ i _ _ h1

set_option maxHeartbeats 4000000 in
set_option maxRecDepth 100000 in
theorem rem_leaf_no (n i : Nat) (k : ByteArray) (d : Int) (ks : List ByteArray) (vs : List Int) (vk vv vc : Value) (w : World) (hN : Nd w n vk vv vc ks vs [])
    (hf : Calls Try.prog 31 #[vk, .string k] w fun e w' => e = .returned (.tuple #[.int .i64 i, .bool false]) ∧ w = w') :
    Calls Try.prog 24 #[.pointer (some ⟨n, 0, none⟩), .string k, .int .i64 d] w fun e w' => e = .returned (.tuple #[.int .i64 0, .bool false]) ∧ w = w' := by
  obtain ⟨ak, nk, ck, av, nv, cv, ac, nc, cc, rfl, rfl, rfl, lk0, lv0, lc0⟩ := hN.form'
  obtain rfl : nc = 0 := lc0.out
  have c0 := hN.c0
  have c2 := hN.c2
  have hf' := Hid.mk' hf
  clear hN hf
  go_enter Try.func24, Try.ntmps24
  go_wp2_with (first
    | (go_at_call 31; refine hf'.out.mono ?_; rintro e w' ⟨rfl, rfl⟩)
    | (go_at_call 25; refine (leaf_yes n _ _ _ c2).mono ?_; rintro e w' ⟨rfl, rfl⟩))
  go_ret2
  exact ⟨rfl, rfl⟩

set_option maxHeartbeats 8000000 in
set_option maxRecDepth 100000 in
theorem rem_leaf_yes (n i : Nat) (k : ByteArray) (d y : Int) (ks : List ByteArray) (vs : List Int) (vk vv vc : Value) (w : World) (hN : Nd w n vk vv vc ks vs [])
    (hf : Calls Try.prog 31 #[vk, .string k] w fun e w' => e = .returned (.tuple #[.int .i64 i, .bool true]) ∧ w = w') (hi : i < ks.length) (hy : vs[i]? = some y) (hl : ks.length ≤ 1000) (hv : vs.length = ks.length) :
    Calls Try.prog 24 #[.pointer (some ⟨n, 0, none⟩), .string k, .int .i64 d] w fun e w' => ∃ vk' vv', e = .returned (.tuple #[.int .i64 y, .bool true]) ∧ Nd w' n vk' vv' vc (ks.take i ++ ks.drop (i + 1)) (vs.take i ++ vs.drop (i + 1)) [] ∧
      Sub (nset n vk' vv' vc) (fun k => nset n vk vv vc k ∨ w.heap.size ≤ k) ∧ Chg (nset n vk vv vc) w w' := by
  have ex1 := Hid.mk' (show (vs.map iv)[i]? = some (.int .i64 y) by rw [List.getElem?_map, hy]; rfl)
  obtain ⟨ak, nk, ck, av, nv, cv, ac, nc, cc, rfl, rfl, rfl, lk0, lv0, lc0⟩ := hN.form'
  obtain rfl : nc = 0 := lc0.out
  obtain ⟨gk, rfl, _⟩ := hN.rk.at (by simp; omega)
  obtain ⟨gv, rfl, _, hc, _, _⟩ := hN.rv.at (by simp; omega)
  have e1 : w.cell? ⟨gv, i, none⟩ = some (.int .i64 y) := hc _ _ ex1.out
  have b1 : (i : Int) < (nv : Int) := by have := lv0.out; omega
  have b2 : (i : Int) < (nk : Int) := by have := lk0.out; omega
  have i1000 : i ≤ 1000 := by omega
  have li0 : Hid (i < (ks.map sv).length) := by show _ < _; simp; omega
  have li1 : Hid (i < (vs.map iv).length) := by show _ < _; simp; omega
  have c0 := hN.c0
  have c1 := hN.c1
  have c2 := hN.c2
  have nblk := Hid.mk' hN.blk
  have nN0 := Hid.mk' hN
  have RK := Hid.mk' hN.rk
  have RV := Hid.mk' hN.rv
  have RKV : Hid (gk ≠ gv) := fun h => RK.out.apart RV.out (by decide) gk ((own_slice _ _ _ _ _ _).2 rfl) ((own_slice _ _ _ _ _ _).2 h)
  have hf' := Hid.mk' hf
  have sz := Hid.mk' (show Sub (nset n (.slice (some ⟨gk, 0, none⟩) nk ck) (.slice (some ⟨gv, 0, none⟩) nv cv) (.slice ac 0 cc)) (fun k => nset n (.slice (some ⟨gk, 0, none⟩) nk ck) (.slice (some ⟨gv, 0, none⟩) nv cv) (.slice ac 0 cc) k ∨ w.heap.size ≤ k) from fun k h => .inl h)
  have qk : Hid (¬ n = gk) := fun h => RK.out.ne nblk.out (by decide) ((own_slice _ _ _ _ _ _).2 h)
  have qv : Hid (¬ n = gv) := fun h => RV.out.ne nblk.out (by decide) ((own_slice _ _ _ _ _ _).2 h)
  have w1 : IntKind.i64.wrap ((i : Int) + 1) = (i : Int) + 1 := by rw [IntKind.wrap_i64]; omega
  clear hN hf hi hl hv hy hc
  go_enter Try.func24, Try.ntmps24
  go_upto_region 6 with (first
    | (go_at_call 31; refine hf'.out.mono ?_; rintro e w' ⟨rfl, rfl⟩)
    | (go_at_call 25; refine (leaf_yes n _ _ _ c2).mono ?_; rintro e w' ⟨rfl, rfl⟩))
  refine start_ (n := 24) (S := fun w' => w'.cell? ⟨n, 0, none⟩ = some (.slice (some ⟨gk, 0, none⟩) nk ck) ∧ w'.cell? ⟨n, 1, none⟩ = some (.slice (some ⟨gv, 0, none⟩) nv cv)) (ds := [20, 23]) #[false, false, false, false, false, false, false, false, false, false, false, false, false, false, false, false, false, false, false, false, false, false, false, false] (by kernel_rfl) rfl rfl ⟨c0, c1⟩ (fun hHeld => ?_)
  refine pure_ (i := 0) (N := some 31) (v := ?_) (a' := ?_) #[true, false, false, false, false, false, false, false, false, false, false, false, false, false, false, false, false, false, false, false, false, false, false, false] rfl rfl (by kernel_rfl) (fun _ _ _ h => h) (Or.inl ⟨by rfl, ?_⟩) ?_ ?_
  rotate_left
  · intro w'
    go_simp
    with_reducible rfl
  rotate_left
  · simp only [Act.put, List.setIfInBounds_toArray, List.set_cons_zero, List.set_cons_succ, i64_w, i32_w]
    rfl
  refine pure_ (i := 1) (N := some 32) (v := ?_) (a' := ?_) #[true, true, false, false, false, false, false, false, false, false, false, false, false, false, false, false, false, false, false, false, false, false, false, false] rfl rfl (by kernel_rfl) (fun _ _ _ h => h) (Or.inl ⟨by rfl, ?_⟩) ?_ ?_
  rotate_left
  · intro w'
    go_simp
    with_reducible rfl
  rotate_left
  · simp only [Act.put, List.setIfInBounds_toArray, List.set_cons_zero, List.set_cons_succ, i64_w, i32_w]
    rfl
  refine pure_ (i := 2) (N := some 33) (v := ?_) (a' := ?_) #[true, true, true, false, false, false, false, false, false, false, false, false, false, false, false, false, false, false, false, false, false, false, false, false] rfl rfl (by kernel_rfl) (fun _ _ _ h => h) (Or.inl ⟨by rfl, ?_⟩) ?_ ?_
  rotate_left
  · intro w'
    go_simp
    with_reducible rfl
  rotate_left
  · simp only [Act.put, List.setIfInBounds_toArray, List.set_cons_zero, List.set_cons_succ, i64_w, i32_w]
    rfl
  refine pure_ (i := 3) (N := some 34) (v := ?_) (a' := ?_) #[true, true, true, true, false, false, false, false, false, false, false, false, false, false, false, false, false, false, false, false, false, false, false, false] rfl rfl (by kernel_rfl) (fun _ _ _ h => h) (Or.inl ⟨by rfl, ?_⟩) ?_ ?_
  rotate_left
  · intro w'
    go_simp
    with_reducible rfl
  rotate_left
  · simp only [Act.put, List.setIfInBounds_toArray, List.set_cons_zero, List.set_cons_succ, i64_w, i32_w]
    rfl
  refine pure_ (i := 4) (N := some 35) (v := ?_) (a' := ?_) #[true, true, true, true, true, false, false, false, false, false, false, false, false, false, false, false, false, false, false, false, false, false, false, false] rfl rfl (by kernel_rfl) (fun _ _ _ h => h) (Or.inl ⟨by rfl, ?_⟩) ?_ ?_
  rotate_left
  · intro w'
    go_simp
    with_reducible rfl
  rotate_left
  · simp only [Act.put, List.setIfInBounds_toArray, List.set_cons_zero, List.set_cons_succ, i64_w, i32_w]
    rfl
  refine pure_ (i := 6) (N := some 37) (v := ?_) (a' := ?_) #[true, true, true, true, true, false, true, false, false, false, false, false, false, false, false, false, false, false, false, false, false, false, false, false] rfl rfl (by kernel_rfl) (fun _ _ _ h => h) (Or.inl ⟨by rfl, ?_⟩) ?_ ?_
  rotate_left
  · intro w'
    go_simp
    with_reducible rfl
  rotate_left
  · simp only [Act.put, List.setIfInBounds_toArray, List.set_cons_zero, List.set_cons_succ, i64_w, i32_w]
    rfl
  refine pure_ (i := 7) (N := some 38) (v := ?_) (a' := ?_) #[true, true, true, true, true, false, true, true, false, false, false, false, false, false, false, false, false, false, false, false, false, false, false, false] rfl rfl (by kernel_rfl) (fun _ _ _ h => h) (Or.inl ⟨by rfl, ?_⟩) ?_ ?_
  rotate_left
  · intro w'
    go_simp
    with_reducible rfl
  rotate_left
  · simp only [Act.put, List.setIfInBounds_toArray, List.set_cons_zero, List.set_cons_succ, i64_w, i32_w]
    rfl
  refine pure_ (i := 8) (N := some 39) (v := ?_) (a' := ?_) #[true, true, true, true, true, false, true, true, true, false, false, false, false, false, false, false, false, false, false, false, false, false, false, false] rfl rfl (by kernel_rfl) (fun _ _ _ h => h) (Or.inl ⟨by rfl, ?_⟩) ?_ ?_
  rotate_left
  · intro w'
    go_simp
    with_reducible rfl
  rotate_left
  · simp only [Act.put, List.setIfInBounds_toArray, List.set_cons_zero, List.set_cons_succ, i64_w, i32_w]
    rfl
  refine pure_ (i := 10) (N := some 41) (v := ?_) (a' := ?_) #[true, true, true, true, true, false, true, true, true, false, true, false, false, false, false, false, false, false, false, false, false, false, false, false] rfl rfl (by kernel_rfl) (fun _ _ _ h => h) (Or.inl ⟨by rfl, ?_⟩) ?_ ?_
  rotate_left
  · intro w'
    go_simp
    with_reducible rfl
  rotate_left
  · simp only [Act.put, List.setIfInBounds_toArray, List.set_cons_zero, List.set_cons_succ, i64_w, i32_w]
    rfl
  refine pure_ (i := 11) (N := some 42) (v := ?_) (a' := ?_) #[true, true, true, true, true, false, true, true, true, false, true, true, false, false, false, false, false, false, false, false, false, false, false, false] rfl rfl (by kernel_rfl) (fun _ _ _ h => h) (Or.inl ⟨by rfl, ?_⟩) ?_ ?_
  rotate_left
  · intro w'
    go_simp
    with_reducible rfl
  rotate_left
  · simp only [Act.put, List.setIfInBounds_toArray, List.set_cons_zero, List.set_cons_succ, i64_w, i32_w]
    rfl
  refine pure_ (i := 12) (N := some 43) (v := ?_) (a' := ?_) #[true, true, true, true, true, false, true, true, true, false, true, true, true, false, false, false, false, false, false, false, false, false, false, false] rfl rfl (by kernel_rfl) (fun _ _ _ h => h) (Or.inl ⟨by rfl, ?_⟩) ?_ ?_
  rotate_left
  · intro w'
    go_simp
    with_reducible rfl
  rotate_left
  · simp only [Act.put, List.setIfInBounds_toArray, List.set_cons_zero, List.set_cons_succ, i64_w, i32_w]
    rfl
  refine pure_ (i := 14) (N := some 45) (v := ?_) (a' := ?_) #[true, true, true, true, true, false, true, true, true, false, true, true, true, false, true, false, false, false, false, false, false, false, false, false] rfl rfl (by kernel_rfl) (fun _ _ _ h => h) (Or.inl ⟨by rfl, ?_⟩) ?_ ?_
  rotate_left
  · intro w'
    go_simp
    with_reducible rfl
  rotate_left
  · simp only [Act.put, List.setIfInBounds_toArray, List.set_cons_zero, List.set_cons_succ, i64_w, i32_w]
    rfl
  refine pure_ (i := 15) (N := some 46) (v := ?_) (a' := ?_) #[true, true, true, true, true, false, true, true, true, false, true, true, true, false, true, true, false, false, false, false, false, false, false, false] rfl rfl (by kernel_rfl) (fun _ _ _ h => h) (Or.inl ⟨by rfl, ?_⟩) ?_ ?_
  rotate_left
  · intro w'
    go_simp
    with_reducible rfl
  rotate_left
  · simp only [Act.put, List.setIfInBounds_toArray, List.set_cons_zero, List.set_cons_succ, i64_w, i32_w]
    rfl
  refine pure_ (i := 16) (N := some 47) (v := ?_) (a' := ?_) #[true, true, true, true, true, false, true, true, true, false, true, true, true, false, true, true, true, false, false, false, false, false, false, false] rfl rfl (by kernel_rfl) (fun _ _ _ h => h) (Or.inl ⟨by rfl, ?_⟩) ?_ ?_
  rotate_left
  · intro w'
    go_simp
    with_reducible rfl
  rotate_left
  · simp only [Act.put, List.setIfInBounds_toArray, List.set_cons_zero, List.set_cons_succ, i64_w, i32_w]
    rfl
  refine take_ (i := 5) (N := some 36) (v := ?_) (a' := ?_) #[true, true, true, true, true, true, true, true, true, false, true, true, true, false, true, true, true, false, false, false, false, false, false, false] rfl rfl (by kernel_rfl) (fun _ _ _ h => h) (Or.inl ⟨by rfl, ?_⟩) hHeld ?_ ?_
  rotate_left
  · rintro w' ⟨s0, s1⟩
    go_simp
    with_reducible rfl
  rotate_left
  · simp only [Act.put, List.setIfInBounds_toArray, List.set_cons_zero, List.set_cons_succ, i64_w, i32_w]
    rfl
  refine take_ (i := 13) (N := some 44) (v := ?_) (a' := ?_) #[true, true, true, true, true, true, true, true, true, false, true, true, true, true, true, true, true, false, false, false, false, false, false, false] rfl rfl (by kernel_rfl) (fun _ _ _ h => h) (Or.inl ⟨by rfl, ?_⟩) hHeld ?_ ?_
  rotate_left
  · rintro w' ⟨s0, s1⟩
    go_simp
    with_reducible rfl
  rotate_left
  · simp only [Act.put, List.setIfInBounds_toArray, List.set_cons_zero, List.set_cons_succ, i64_w, i32_w]
    rfl
  refine one_ (i := 9) (N := some 40) #[true, true, true, true, true, true, true, true, true, true, true, true, true, true, true, true, true, false, false, false, false, false, false, false] rfl rfl (by kernel_rfl) (by decide) (fun K hK => ?_)
  refine goes_ Try.func38 (by kernel_rfl) rfl #[.slice (some ⟨gk, 0, none⟩) nk ck, .int .i64 i, .int .i64 ((i : Int) + 1)] (by rfl) rfl rfl (by simp only [List.map_toArray, List.map_cons, List.map_nil]; rfl) ?_
  with_reducible refine (delS gk nk ck i _ _ (ks.map sv) _ (by first | exact RK.out | exact RK.out.dr) li0.out rfl rfl (map_sv_cell _)).mono ?_
  rintro e w7 ⟨rfl, r7, k7⟩
  refine ⟨_, rfl, ?_⟩
  replace k7 : Chg (fun k => k = gk) w w7 := by first | exact k7 | exact k7.undrew
  have rv7 := RV.out.chg k7 (fun k a e => RKV.out ((own_slice _ _ _ _ _ _).1 a ▸ e.symm ▸ rfl))
  replace r7 := Hid.mk' r7
  replace k7 := Hid.mk' k7
  replace rv7 := Hid.mk' rv7
  refine hK.out _ _ ⟨(k7.out.cell qk.out c0), (k7.out.cell qk.out c1)⟩ (fun hHeld => ?_)
  clear hK K
  refine norm_ (a' := ?_) ?_ ?_
  rotate_left
  · show Act.put _ (some 40) _ = _
    simp only [Act.put, List.setIfInBounds_toArray, List.set_cons_zero, List.set_cons_succ, i64_w, i32_w]
    rfl
  refine one_ (i := 17) (N := some 48) #[true, true, true, true, true, true, true, true, true, true, true, true, true, true, true, true, true, true, false, false, false, false, false, false] rfl rfl (by kernel_rfl) (by decide) (fun K hK => ?_)
  refine goes_ Try.func39 (by kernel_rfl) rfl #[.slice (some ⟨gv, 0, none⟩) nv cv, .int .i64 i, .int .i64 ((i : Int) + 1)] (by rfl) rfl rfl (by simp only [List.map_toArray, List.map_cons, List.map_nil]; rfl) ?_
  with_reducible refine (delI gv nv cv i _ _ (vs.map iv) _ rv7.out li1.out rfl rfl (map_iv_cell _)).mono ?_
  rintro e w8 ⟨rfl, r8, k8⟩
  refine ⟨_, rfl, ?_⟩
  have rk8 := r7.out.chg k8 (fun k a e => RKV.out ((own_slice _ _ _ _ _ _).1 a ▸ e ▸ rfl))
  have k9 : Chg (fun k => own (.slice (some ⟨gk, 0, none⟩) nk ck) k ∨ own (.slice (some ⟨gv, 0, none⟩) nv cv) k) w w8 := (k7.out.mono fun k h => .inl ((own_slice _ _ _ _ _ _).2 h)).trans (k8.mono fun k h => .inr ((own_slice _ _ _ _ _ _).2 h))
  have c0' := k8.cell (p := ⟨n, 0, none⟩) qv.out (k7.out.cell qk.out c0)
  have c1' := k8.cell (p := ⟨n, 1, none⟩) qv.out (k7.out.cell qk.out c1)
  have f0' : w8.frozen? ⟨n, 0, none⟩ = false := frozen_of_row _ n 0 _ _ (k8.heap qv.out (k7.out.heap qk.out nblk.out))
  have f1' : w8.frozen? ⟨n, 1, none⟩ = false := frozen_of_row _ n 1 _ _ (k8.heap qv.out (k7.out.heap qk.out nblk.out))
  replace r8 := Hid.mk' r8
  replace rk8 := Hid.mk' rk8
  replace k9 := Hid.mk' k9
  clear k8
  refine hK.out _ _ ⟨c0', c1'⟩ (fun hHeld => ?_)
  clear hK K
  refine norm_ (a' := ?_) ?_ ?_
  rotate_left
  · show Act.put _ (some 48) _ = _
    simp only [Act.put, List.setIfInBounds_toArray, List.set_cons_zero, List.set_cons_succ, i64_w, i32_w]
    rfl
  refine pure_ (i := 18) (N := some 49) (v := ?_) (a' := ?_) #[true, true, true, true, true, true, true, true, true, true, true, true, true, true, true, true, true, true, true, false, false, false, false, false] rfl rfl (by kernel_rfl) (fun _ _ _ h => h) (Or.inl ⟨by rfl, ?_⟩) ?_ ?_
  rotate_left
  · intro w'
    go_simp
    with_reducible rfl
  rotate_left
  · simp only [Act.put, List.setIfInBounds_toArray, List.set_cons_zero, List.set_cons_succ, i64_w, i32_w]
    rfl
  refine pure_ (i := 19) (N := some 50) (v := ?_) (a' := ?_) #[true, true, true, true, true, true, true, true, true, true, true, true, true, true, true, true, true, true, true, true, false, false, false, false] rfl rfl (by kernel_rfl) (fun _ _ _ h => h) (Or.inl ⟨by rfl, ?_⟩) ?_ ?_
  rotate_left
  · intro w'
    go_simp
    with_reducible rfl
  rotate_left
  · simp only [Act.put, List.setIfInBounds_toArray, List.set_cons_zero, List.set_cons_succ, i64_w, i32_w]
    rfl
  refine last_ (i := 20) (N := none) #[true, true, true, true, true, true, true, true, true, true, true, true, true, true, true, true, true, true, true, true, true, false, false, false] rfl rfl (by kernel_rfl) (by decide) (fun K hK => ?_)
  refine skip_ (w1 := ?_) (by rfl) rfl ?_ ?_
  rotate_left
  · go_simp
    rfl
  refine hK.out _ _ ?_
  clear hK K
  refine pure_ (i := 21) (N := some 51) (v := ?_) (a' := ?_) #[true, true, true, true, true, true, true, true, true, true, true, true, true, true, true, true, true, true, true, true, true, true, false, false] rfl rfl (by kernel_rfl) (fun _ _ _ h => h) (Or.inl ⟨by rfl, ?_⟩) ?_ ?_
  rotate_left
  · intro w'
    go_simp
    with_reducible rfl
  rotate_left
  · simp only [Act.put, List.setIfInBounds_toArray, List.set_cons_zero, List.set_cons_succ, i64_w, i32_w]
    rfl
  refine pure_ (i := 22) (N := some 52) (v := ?_) (a' := ?_) #[true, true, true, true, true, true, true, true, true, true, true, true, true, true, true, true, true, true, true, true, true, true, true, false] rfl rfl (by kernel_rfl) (fun _ _ _ h => h) (Or.inl ⟨by rfl, ?_⟩) ?_ ?_
  rotate_left
  · intro w'
    go_simp
    with_reducible rfl
  rotate_left
  · simp only [Act.put, List.setIfInBounds_toArray, List.set_cons_zero, List.set_cons_succ, i64_w, i32_w]
    rfl
  refine last_ (i := 23) (N := none) #[true, true, true, true, true, true, true, true, true, true, true, true, true, true, true, true, true, true, true, true, true, true, true, true] rfl rfl (by kernel_rfl) (by decide) (fun K hK => ?_)
  refine skip_ (w1 := ?_) (by rfl) rfl ?_ ?_
  rotate_left
  · go_simp
    rfl
  refine hK.out _ _ ?_
  clear hK K
  refine done_ (by kernel_rfl) ?_
  go_wp2_with fail
  go_ret2
  obtain ⟨h1, h2⟩ := nN0.out.step01 k9.out (show Row _ _ (.slice (some ⟨gk, 0, none⟩) (nk - 1) ck) ((ks.take i ++ ks.drop (i + 1)).map sv) from by have := rk8.out; rwa [← List.map_take, ← List.map_drop, ← List.map_append] at this) (show Row _ _ (.slice (some ⟨gv, 0, none⟩) (nv - 1) cv) ((vs.take i ++ vs.drop (i + 1)).map iv) from by have := r8.out; rwa [← List.map_take, ← List.map_drop, ← List.map_append] at this)
  refine ⟨_, _, rfl, h1, ?_, h2⟩
  exact nset1 (W := w) (w6 := w8) (vv := .slice (some ⟨gv, 0, none⟩) nv cv) (fun k hk => .inl ((own_slice _ _ _ _ _ _).2 ((own_slice _ _ _ _ _ _).1 hk))) (nset0 (W := w) (w6 := w8) (vk := .slice (some ⟨gk, 0, none⟩) nk ck) (fun k hk => .inl ((own_slice _ _ _ _ _ _).2 ((own_slice _ _ _ _ _ _).1 hk))) sz.out (fun k h => .inr h)) (fun k h => .inr h)

/-- A child of a node, in its row. -/
def KidAt (w : World) (n j q : Nat) : Prop := ∃ gc nc cc, w.cell? ⟨n, 2, none⟩ = some (.slice (some ⟨gc, 0, none⟩) nc cc) ∧ j < nc ∧ w.cell? ⟨gc, j, none⟩ = some (.pointer (some ⟨q, 0, none⟩)) ∧ j ≤ 1000
theorem Nd.kidAt {w : World} {b : Nat} {vk vv vc : Value} {ks : List ByteArray} {vs : List Int} {bs : List Nat} (hN : Nd w b vk vv vc ks vs bs) {j q : Nat} (h : bs[j]? = some q) (hl : bs.length ≤ 1000) : KidAt w b j q := by
  have hj : j < bs.length := (List.getElem?_eq_some_iff.1 h).1
  obtain ⟨ak, nk, ck, av, nv, cv, ac, nc, cc, rfl, rfl, rfl, lk0, lv0, lc0⟩ := hN.form'
  obtain ⟨gc, rfl, _, hc, _, _⟩ := hN.rc.at (by simp; omega)
  exact ⟨gc, nc, cc, hN.c2, by have := lc0.out; omega, hc _ _ (by rw [List.getElem?_map, h]; rfl), by omega⟩

set_option maxHeartbeats 4000000 in
set_option maxRecDepth 100000 in
theorem rem_enrich (n i : Nat) (k : ByteArray) (d o : Int) (f : Bool) (ks : List ByteArray) (vs : List Int) (bs : List Nat) (vk vv vc : Value) (Q1 : Nat → World → Prop) (R : World → Prop) (w : World) (hN : Nd w n vk vv vc ks vs bs) (hb : bs ≠ [])
    (hf : Calls Try.prog 31 #[vk, .string k] w fun e w' => e = .returned (.tuple #[.int .i64 i, .bool false]) ∧ w = w')
    (hen : Calls Try.prog 40 #[.pointer (some ⟨n, 0, none⟩), .int .i64 (i : Int), .int .i64 d] w fun e w' => ∃ j : Nat, e = .returned (.int .i64 j) ∧ Q1 j w')
    (hrem : ∀ j w1, Q1 j w1 → ∃ q, KidAt w1 n j q ∧ Calls Try.prog 24 #[.pointer (some ⟨q, 0, none⟩), .string k, .int .i64 d] w1 fun e w' => e = .returned (.tuple #[.int .i64 o, .bool f]) ∧ R w') :
    Calls Try.prog 24 #[.pointer (some ⟨n, 0, none⟩), .string k, .int .i64 d] w fun e w' => e = .returned (.tuple #[.int .i64 o, .bool f]) ∧ R w' := by
  obtain ⟨ak, nk, ck, av, nv, cv, ac, nc, cc, rfl, rfl, rfl, lk0, lv0, lc0⟩ := hN.form'
  have b2 : 0 < nc := by
    have := lc0.out
    cases bs with
    | nil => exact (hb rfl).elim
    | cons _ _ => simp at this; omega
  have c0 := hN.c0
  have c2 := hN.c2
  have hf' := Hid.mk' hf
  have he' := Hid.mk' hen
  have hr' := Hid.mk' hrem
  clear hN hf hen hrem lk0 lv0 lc0 hb
  go_enter Try.func24, Try.ntmps24
  go_upto_region 10 with (first
    | (go_at_call 31; refine hf'.out.mono ?_; rintro e w' ⟨rfl, rfl⟩)
    | (go_at_call 25; refine (leaf_no n _ _ _ _ c2 b2).mono ?_; rintro e w' ⟨rfl, rfl⟩)
    | (go_at_call 40; refine he'.out.mono ?_; rintro e W1 ⟨j, rfl, q1⟩))
  obtain ⟨q, ⟨gc, mc, dc, d2, jl, e1, j1000⟩, hcall⟩ := hr'.out _ _ q1
  have jl' : (j : Int) < (mc : Int) := by omega
  have hcall' := Hid.mk' hcall
  clear c0 c2 hcall
  go_wp2_with (go_at_call 24; refine hcall'.out.mono ?_; rintro e w3 ⟨rfl, q2⟩)
  go_ret2
  exact ⟨rfl, q2⟩

set_option maxHeartbeats 4000000 in
set_option maxRecDepth 100000 in
theorem rem_join (n i q0 q1' nq0 cq0 nq1 cq1 dd : Nat) (aq0 aq1 : Option Addr) (k : ByteArray) (vd y : Int) (ks : List ByteArray) (vs : List Int) (bs : List Nat) (vk vv vc : Value) (Q1 R : World → Prop) (w : World) (hN : Nd w n vk vv vc ks vs bs)
    (hf : Calls Try.prog 31 #[vk, .string k] w fun e w' => e = .returned (.tuple #[.int .i64 i, .bool true]) ∧ w = w') (hy : vs[i]? = some y) (hl : vs.length ≤ 1000) (hlb : bs.length ≤ 1000) (hvd : vd = dd)
    (hk0 : bs[i]? = some q0) (hk1 : bs[i + 1]? = some q1') (hq0 : w.cell? ⟨q0, 0, none⟩ = some (.slice aq0 nq0 cq0)) (hq1 : w.cell? ⟨q1', 0, none⟩ = some (.slice aq1 nq1 cq1)) (hp0 : nq0 < dd) (hp1 : nq1 < dd)
    (hj : Calls Try.prog 42 #[.pointer (some ⟨n, 0, none⟩), .int .i64 (i : Int)] w fun e w' => e = .returned (.tuple #[]) ∧ Q1 w')
    (hrem : ∀ w1, Q1 w1 → ∃ q, KidAt w1 n i q ∧ Calls Try.prog 24 #[.pointer (some ⟨q, 0, none⟩), .string k, .int .i64 vd] w1 fun e w' => (∃ (o : Int) (f : Bool), e = .returned (.tuple #[.int .i64 o, .bool f])) ∧ R w') :
    Calls Try.prog 24 #[.pointer (some ⟨n, 0, none⟩), .string k, .int .i64 vd] w fun e w' => e = .returned (.tuple #[.int .i64 y, .bool true]) ∧ R w' := by
  subst hvd
  have ex1 := Hid.mk' (show (vs.map iv)[i]? = some (.int .i64 y) by rw [List.getElem?_map, hy]; rfl)
  have hi1 : i < vs.length := (List.getElem?_eq_some_iff.1 hy).1
  have hi2 : i + 1 < bs.length := (List.getElem?_eq_some_iff.1 hk1).1
  obtain ⟨ak, nk, ck, av, nv, cv, ac, nc, cc, rfl, rfl, rfl, lk0, lv0, lc0⟩ := hN.form'
  obtain ⟨gv, rfl, _, hc, _, _⟩ := hN.rv.at (by simp; omega)
  obtain ⟨gc, rfl, _, hcc, _, _⟩ := hN.rc.at (by simp; omega)
  have e1 : w.cell? ⟨gv, i, none⟩ = some (.int .i64 y) := hc _ _ ex1.out
  have e2 : w.cell? ⟨gc, i, none⟩ = some (.pointer (some ⟨q0, 0, none⟩)) := hcc _ _ (by rw [List.getElem?_map, hk0]; rfl)
  have e3 : w.cell? ⟨gc, i + 1, none⟩ = some (.pointer (some ⟨q1', 0, none⟩)) := hcc _ _ (by rw [List.getElem?_map, hk1]; rfl)
  have b0 : (i : Int) < (nv : Int) := by have := lv0.out; omega
  have b1 : (i : Int) < (nc : Int) := by have := lc0.out; omega
  have b3 : (i : Int) + 1 < (nc : Int) := by have := lc0.out; omega
  have b2 : 0 < nc := by omega
  have i1000 : i ≤ 1000 := by omega
  have w1 : IntKind.i64.wrap ((i : Int) + 1) = (i : Int) + 1 := by rw [IntKind.wrap_i64]; omega
  have w2 : (0 : Int) ≤ (i : Int) + 1 := by omega
  have w4 : ((i : Int) + 1).toNat = i + 1 := by omega
  have m1 : decide (dd ≤ nq0) = false := by simp; omega
  have m2 : decide (dd ≤ nq1) = false := by simp; omega
  have c0 := hN.c0
  have c1 := hN.c1
  have c2 := hN.c2
  have hf' := Hid.mk' hf
  have hj' := Hid.mk' hj
  have hr' := Hid.mk' hrem
  clear hN hf hj hrem lk0 lv0 lc0 hc hcc hi1 hi2 hk0 hk1 hl hlb hy hp0 hp1
  go_enter Try.func24, Try.ntmps24
  go_upto_region 13 with (first
    | (go_at_call 31; refine hf'.out.mono ?_; rintro e w' ⟨rfl, rfl⟩)
    | (go_at_call 25; refine (leaf_no n _ _ _ _ c2 b2).mono ?_; rintro e w' ⟨rfl, rfl⟩)
    | (go_at_call 42; refine hj'.out.mono ?_; rintro e W1 ⟨rfl, q1⟩))
  obtain ⟨q, ⟨gc', mc, dc, d2, jl, f1, j1000⟩, hcall⟩ := hr'.out _ q1
  have jl' : (i : Int) < (mc : Int) := by omega
  have hcall' := Hid.mk' hcall
  clear hcall
  go_wp2_with (go_at_call 24; refine hcall'.out.mono ?_; rintro e w3 ⟨⟨o, f, rfl⟩, q2⟩)
  go_ret2
  exact ⟨rfl, q2⟩

set_option maxHeartbeats 8000000 in
set_option maxRecDepth 100000 in
theorem rem_left (n i q0 q1' nq0 cq0 dd : Nat) (aq0 : Option Addr) (k px : ByteArray) (vd y py : Int) (ks : List ByteArray) (vs : List Int) (bs : List Nat) (vk vv vc : Value) (R : World → Prop) (w : World) (hN : Nd w n vk vv vc ks vs bs)
    (hf : Calls Try.prog 31 #[vk, .string k] w fun e w' => e = .returned (.tuple #[.int .i64 i, .bool true]) ∧ w = w') (hik : i < ks.length) (hy : vs[i]? = some y) (hl : vs.length ≤ 1000) (hlk : ks.length ≤ 1000) (hlb : bs.length ≤ 1000) (hvd : vd = dd)
    (hk0 : bs[i]? = some q0) (hk1 : bs[i + 1]? = some q1') (hq0 : w.cell? ⟨q0, 0, none⟩ = some (.slice aq0 nq0 cq0))  (hp0 : dd ≤ nq0)
    (hend : ∀ W, Chg NoB w W → Calls Try.prog 41 #[.pointer (some ⟨q0, 0, none⟩), .bool true] W fun e w' => e = .returned (.tuple #[.string px, .int .i64 py]) ∧ Chg NoB W w')
    (hrem : ∀ w1, Nd w1 n vk vv vc (ks.set i px) (vs.set i py) bs → Chg (nset n vk vv vc) w w1 → Calls Try.prog 24 #[.pointer (some ⟨q0, 0, none⟩), .string px, .int .i64 vd] w1 fun e w' => (∃ (o : Int) (f : Bool), e = .returned (.tuple #[.int .i64 o, .bool f])) ∧ R w') :
    Calls Try.prog 24 #[.pointer (some ⟨n, 0, none⟩), .string k, .int .i64 vd] w fun e w' => e = .returned (.tuple #[.int .i64 y, .bool true]) ∧ R w' := by
  subst hvd
  have ex1 := Hid.mk' (show (vs.map iv)[i]? = some (.int .i64 y) by rw [List.getElem?_map, hy]; rfl)
  have ek0 := Hid.mk' (show (bs.map pv)[i]? = some (.pointer (some ⟨q0, 0, none⟩)) by rw [List.getElem?_map, hk0]; rfl)
  have ek1 := Hid.mk' (show (bs.map pv)[i + 1]? = some (.pointer (some ⟨q1', 0, none⟩)) by rw [List.getElem?_map, hk1]; rfl)
  have hi1 : i < vs.length := (List.getElem?_eq_some_iff.1 hy).1
  have hi2 : i + 1 < bs.length := (List.getElem?_eq_some_iff.1 hk1).1
  obtain ⟨x, hx⟩ : ∃ x, ks[i]? = some x := ⟨_, List.getElem?_eq_getElem hik⟩
  have ex0 := Hid.mk' (show (ks.map sv)[i]? = some (.string x) by rw [List.getElem?_map, hx]; rfl)
  obtain ⟨ak, nk, ck, av, nv, cv, ac, nc, cc, rfl, rfl, rfl, lk0, lv0, lc0⟩ := hN.form'
  obtain ⟨gk, rfl, _, hck, hfk, _⟩ := hN.rk.at (by simp; omega)
  obtain ⟨gv, rfl, _, hc, hfv, _⟩ := hN.rv.at (by simp; omega)
  obtain ⟨gc, rfl, _, hcc, _, _⟩ := hN.rc.at (by simp; omega)
  have e0 : w.cell? ⟨gk, i, none⟩ = some (.string x) := hck _ _ ex0.out
  have e1 : w.cell? ⟨gv, i, none⟩ = some (.int .i64 y) := hc _ _ ex1.out
  have e2 : w.cell? ⟨gc, i, none⟩ = some (.pointer (some ⟨q0, 0, none⟩)) := hcc _ _ ek0.out
  have e3 : w.cell? ⟨gc, i + 1, none⟩ = some (.pointer (some ⟨q1', 0, none⟩)) := hcc _ _ ek1.out
  have b0 : (i : Int) < (nv : Int) := by have := lv0.out; omega
  have b4 : (i : Int) < (nk : Int) := by have := lk0.out; omega
  have b1 : (i : Int) < (nc : Int) := by have := lc0.out; omega
  have b3 : (i : Int) + 1 < (nc : Int) := by have := lc0.out; omega
  have b2 : 0 < nc := by omega
  have i1000 : i ≤ 1000 := by omega
  have w1 : IntKind.i64.wrap ((i : Int) + 1) = (i : Int) + 1 := by rw [IntKind.wrap_i64]; omega
  have w2 : (0 : Int) ≤ (i : Int) + 1 := by omega
  have w4 : ((i : Int) + 1).toNat = i + 1 := by omega
  have m1 : decide (dd ≤ nq0) = true := by simp; omega
  have c0 := hN.c0
  have c1 := hN.c1
  have c2 := hN.c2
  have nN0 := Hid.mk' hN
  have gkv : gk ≠ gv := fun h => hN.rk.apart hN.rv (by decide) gk ((own_slice _ _ _ _ _ _).2 rfl) ((own_slice _ _ _ _ _ _).2 h)
  have hf' := Hid.mk' hf
  have he' := Hid.mk' hend
  have hr' := Hid.mk' hrem
  have fk := Hid.mk' hfk
  have fv := Hid.mk' hfv
  replace hx := Hid.mk' hx
  clear hN hf hend hrem lk0 lv0 lc0 hc hcc hck hi1 hi2 hk0 hk1 hl hlb hlk hy hp0 hik hfk hfv
  go_enter Try.func24, Try.ntmps24
  go_upto_region 15 with (first
    | (go_at_call 31; refine hf'.out.mono ?_; rintro e w' ⟨rfl, rfl⟩)
    | (go_at_call 25; refine (leaf_no n _ _ _ _ c2 b2).mono ?_; rintro e w' ⟨rfl, rfl⟩))
  refine start_ (n := 25) (S := fun w' => w'.cell? ⟨n, 0, none⟩ = some (.slice (some ⟨gk, 0, none⟩) nk ck) ∧ w'.cell? ⟨n, 1, none⟩ = some (.slice (some ⟨gv, 0, none⟩) nv cv) ∧ w'.cell? ⟨n, 2, none⟩ = some (.slice (some ⟨gc, 0, none⟩) nc cc) ∧ w'.cell? ⟨gk, i, none⟩ = some (.string x) ∧ w'.cell? ⟨gv, i, none⟩ = some (.int .i64 y) ∧ w'.cell? ⟨gc, i, none⟩ = some (.pointer (some ⟨q0, 0, none⟩))) (ds := [22, 24]) #[false, false, false, false, false, false, false, false, false, false, false, false, false, false, false, false, false, false, false, false, false, false, false, false, false] (by kernel_rfl) rfl rfl ⟨c0, c1, c2, e0, e1, e2⟩ (fun hHeld => ?_)
  refine pure_ (i := 0) (N := some 108) (v := ?_) (a' := ?_) #[true, false, false, false, false, false, false, false, false, false, false, false, false, false, false, false, false, false, false, false, false, false, false, false, false] rfl rfl (by kernel_rfl) (fun _ _ _ h => h) (Or.inl ⟨by rfl, ?_⟩) ?_ ?_
  rotate_left
  · intro w'
    go_simp
    with_reducible rfl
  rotate_left
  · simp only [Act.put, List.setIfInBounds_toArray, List.set_cons_zero, List.set_cons_succ, i64_w, i32_w]
    rfl
  refine pure_ (i := 1) (N := some 109) (v := ?_) (a' := ?_) #[true, true, false, false, false, false, false, false, false, false, false, false, false, false, false, false, false, false, false, false, false, false, false, false, false] rfl rfl (by kernel_rfl) (fun _ _ _ h => h) (Or.inl ⟨by rfl, ?_⟩) ?_ ?_
  rotate_left
  · intro w'
    go_simp
    with_reducible rfl
  rotate_left
  · simp only [Act.put, List.setIfInBounds_toArray, List.set_cons_zero, List.set_cons_succ, i64_w, i32_w]
    rfl
  refine pure_ (i := 2) (N := some 110) (v := ?_) (a' := ?_) #[true, true, true, false, false, false, false, false, false, false, false, false, false, false, false, false, false, false, false, false, false, false, false, false, false] rfl rfl (by kernel_rfl) (fun _ _ _ h => h) (Or.inl ⟨by rfl, ?_⟩) ?_ ?_
  rotate_left
  · intro w'
    go_simp
    with_reducible rfl
  rotate_left
  · simp only [Act.put, List.setIfInBounds_toArray, List.set_cons_zero, List.set_cons_succ, i64_w, i32_w]
    rfl
  refine pure_ (i := 4) (N := some 112) (v := ?_) (a' := ?_) #[true, true, true, false, true, false, false, false, false, false, false, false, false, false, false, false, false, false, false, false, false, false, false, false, false] rfl rfl (by kernel_rfl) (fun _ _ _ h => h) (Or.inl ⟨by rfl, ?_⟩) ?_ ?_
  rotate_left
  · intro w'
    go_simp
    with_reducible rfl
  rotate_left
  · simp only [Act.put, List.setIfInBounds_toArray, List.set_cons_zero, List.set_cons_succ, i64_w, i32_w]
    rfl
  refine pure_ (i := 5) (N := some 113) (v := ?_) (a' := ?_) #[true, true, true, false, true, true, false, false, false, false, false, false, false, false, false, false, false, false, false, false, false, false, false, false, false] rfl rfl (by kernel_rfl) (fun _ _ _ h => h) (Or.inl ⟨by rfl, ?_⟩) ?_ ?_
  rotate_left
  · intro w'
    go_simp
    with_reducible rfl
  rotate_left
  · simp only [Act.put, List.setIfInBounds_toArray, List.set_cons_zero, List.set_cons_succ, i64_w, i32_w]
    rfl
  refine pure_ (i := 6) (N := some 114) (v := ?_) (a' := ?_) #[true, true, true, false, true, true, true, false, false, false, false, false, false, false, false, false, false, false, false, false, false, false, false, false, false] rfl rfl (by kernel_rfl) (fun _ _ _ h => h) (Or.inl ⟨by rfl, ?_⟩) ?_ ?_
  rotate_left
  · intro w'
    go_simp
    with_reducible rfl
  rotate_left
  · simp only [Act.put, List.setIfInBounds_toArray, List.set_cons_zero, List.set_cons_succ, i64_w, i32_w]
    rfl
  refine pure_ (i := 7) (N := some 115) (v := ?_) (a' := ?_) #[true, true, true, false, true, true, true, true, false, false, false, false, false, false, false, false, false, false, false, false, false, false, false, false, false] rfl rfl (by kernel_rfl) (fun _ _ _ h => h) (Or.inl ⟨by rfl, ?_⟩) ?_ ?_
  rotate_left
  · intro w'
    go_simp
    with_reducible rfl
  rotate_left
  · simp only [Act.put, List.setIfInBounds_toArray, List.set_cons_zero, List.set_cons_succ, i64_w, i32_w]
    rfl
  refine pure_ (i := 9) (N := some 117) (v := ?_) (a' := ?_) #[true, true, true, false, true, true, true, true, false, true, false, false, false, false, false, false, false, false, false, false, false, false, false, false, false] rfl rfl (by kernel_rfl) (fun _ _ _ h => h) (Or.inl ⟨by rfl, ?_⟩) ?_ ?_
  rotate_left
  · intro w'
    go_simp
    with_reducible rfl
  rotate_left
  · simp only [Act.put, List.setIfInBounds_toArray, List.set_cons_zero, List.set_cons_succ, i64_w, i32_w]
    rfl
  refine pure_ (i := 10) (N := some 118) (v := ?_) (a' := ?_) #[true, true, true, false, true, true, true, true, false, true, true, false, false, false, false, false, false, false, false, false, false, false, false, false, false] rfl rfl (by kernel_rfl) (fun _ _ _ h => h) (Or.inl ⟨by rfl, ?_⟩) ?_ ?_
  rotate_left
  · intro w'
    go_simp
    with_reducible rfl
  rotate_left
  · simp only [Act.put, List.setIfInBounds_toArray, List.set_cons_zero, List.set_cons_succ, i64_w, i32_w]
    rfl
  refine pure_ (i := 11) (N := some 119) (v := ?_) (a' := ?_) #[true, true, true, false, true, true, true, true, false, true, true, true, false, false, false, false, false, false, false, false, false, false, false, false, false] rfl rfl (by kernel_rfl) (fun _ _ _ h => h) (Or.inl ⟨by rfl, ?_⟩) ?_ ?_
  rotate_left
  · intro w'
    go_simp
    with_reducible rfl
  rotate_left
  · simp only [Act.put, List.setIfInBounds_toArray, List.set_cons_zero, List.set_cons_succ, i64_w, i32_w]
    rfl
  refine pure_ (i := 12) (N := some 120) (v := ?_) (a' := ?_) #[true, true, true, false, true, true, true, true, false, true, true, true, true, false, false, false, false, false, false, false, false, false, false, false, false] rfl rfl (by kernel_rfl) (fun _ _ _ h => h) (Or.inl ⟨by rfl, ?_⟩) ?_ ?_
  rotate_left
  · intro w'
    go_simp
    with_reducible rfl
  rotate_left
  · simp only [Act.put, List.setIfInBounds_toArray, List.set_cons_zero, List.set_cons_succ, i64_w, i32_w]
    rfl
  refine pure_ (i := 14) (N := some 122) (v := ?_) (a' := ?_) #[true, true, true, false, true, true, true, true, false, true, true, true, true, false, true, false, false, false, false, false, false, false, false, false, false] rfl rfl (by kernel_rfl) (fun _ _ _ h => h) (Or.inl ⟨by rfl, ?_⟩) ?_ ?_
  rotate_left
  · intro w'
    go_simp
    with_reducible rfl
  rotate_left
  · simp only [Act.put, List.setIfInBounds_toArray, List.set_cons_zero, List.set_cons_succ, i64_w, i32_w]
    rfl
  refine take_ (i := 3) (N := some 111) (v := ?_) (a' := ?_) #[true, true, true, true, true, true, true, true, false, true, true, true, true, false, true, false, false, false, false, false, false, false, false, false, false] rfl rfl (by kernel_rfl) (fun _ _ _ h => h) (Or.inl ⟨by rfl, ?_⟩) hHeld ?_ ?_
  rotate_left
  · rintro w' ⟨s0, s1, s2, s3, s4, s5⟩
    go_simp
    with_reducible rfl
  rotate_left
  · simp only [Act.put, List.setIfInBounds_toArray, List.set_cons_zero, List.set_cons_succ, i64_w, i32_w]
    rfl
  refine take_ (i := 8) (N := some 116) (v := ?_) (a' := ?_) #[true, true, true, true, true, true, true, true, true, true, true, true, true, false, true, false, false, false, false, false, false, false, false, false, false] rfl rfl (by kernel_rfl) (fun _ _ _ h => h) (Or.inl ⟨by rfl, ?_⟩) hHeld ?_ ?_
  rotate_left
  · rintro w' ⟨s0, s1, s2, s3, s4, s5⟩
    go_simp
    with_reducible rfl
  rotate_left
  · simp only [Act.put, List.setIfInBounds_toArray, List.set_cons_zero, List.set_cons_succ, i64_w, i32_w]
    rfl
  refine take_ (i := 13) (N := some 121) (v := ?_) (a' := ?_) #[true, true, true, true, true, true, true, true, true, true, true, true, true, true, true, false, false, false, false, false, false, false, false, false, false] rfl rfl (by kernel_rfl) (fun _ _ _ h => h) (Or.inl ⟨by rfl, ?_⟩) hHeld ?_ ?_
  rotate_left
  · rintro w' ⟨s0, s1, s2, s3, s4, s5⟩
    go_simp
    with_reducible rfl
  rotate_left
  · simp only [Act.put, List.setIfInBounds_toArray, List.set_cons_zero, List.set_cons_succ, i64_w, i32_w]
    rfl
  refine pure_ (i := 15) (N := some 123) (v := ?_) (a' := ?_) #[true, true, true, true, true, true, true, true, true, true, true, true, true, true, true, true, false, false, false, false, false, false, false, false, false] rfl rfl (by kernel_rfl) (fun _ _ _ h => h) (Or.inl ⟨by rfl, ?_⟩) ?_ ?_
  rotate_left
  · intro w'
    go_simp
    with_reducible rfl
  rotate_left
  · simp only [Act.put, List.setIfInBounds_toArray, List.set_cons_zero, List.set_cons_succ, i64_w, i32_w]
    rfl
  refine take_ (i := 16) (N := some 124) (v := ?_) (a' := ?_) #[true, true, true, true, true, true, true, true, true, true, true, true, true, true, true, true, true, false, false, false, false, false, false, false, false] rfl rfl (by kernel_rfl) (fun _ _ _ h => h) (Or.inl ⟨by rfl, ?_⟩) hHeld ?_ ?_
  rotate_left
  · rintro w' ⟨s0, s1, s2, s3, s4, s5⟩
    go_simp
    with_reducible rfl
  rotate_left
  · simp only [Act.put, List.setIfInBounds_toArray, List.set_cons_zero, List.set_cons_succ, i64_w, i32_w]
    rfl
  refine one_ (i := 17) (N := some 125) #[true, true, true, true, true, true, true, true, true, true, true, true, true, true, true, true, true, true, false, false, false, false, false, false, false] rfl rfl (by kernel_rfl) (by decide) (fun K hK => ?_)
  refine goes_ Try.func41 (by kernel_rfl) rfl #[.pointer (some ⟨q0, 0, none⟩), .bool true] (by rfl) rfl rfl (by simp only [List.map_toArray, List.map_cons, List.map_nil]; rfl) ?_
  with_reducible refine ((he'.out _ (by first | exact Chg.refl _ _ | exact (Chg.refl _ _).drew))).mono ?_
  rintro e w7 ⟨rfl, k7⟩
  refine ⟨_, rfl, ?_⟩
  replace k7 : Chg NoB w w7 := by first | exact k7 | exact k7.undrew
  have f0' : w7.frozen? ⟨gk, i, none⟩ = false := (nN0.out.rk.chg k7 fun _ _ h => h).frz i
  have f1' : w7.frozen? ⟨gv, i, none⟩ = false := (nN0.out.rv.chg k7 fun _ _ h => h).frz i
  replace k7 := Hid.mk' k7
  have c0' := k7.out.cell (fun h => h) c0
  have c1' := k7.out.cell (fun h => h) c1
  have c2' := k7.out.cell (fun h => h) c2
  have e0' := k7.out.cell (fun h => h) e0
  have e1' := k7.out.cell (fun h => h) e1
  have e2' := k7.out.cell (fun h => h) e2
  refine hK.out _ _ ⟨c0', c1', c2', e0', e1', e2'⟩ (fun hHeld => ?_)
  clear hK K
  refine norm_ (a' := ?_) ?_ ?_
  rotate_left
  · show Act.put _ (some 125) _ = _
    simp only [Act.put, List.setIfInBounds_toArray, List.set_cons_zero, List.set_cons_succ, i64_w, i32_w]
    rfl
  refine pure_ (i := 18) (N := some 107) (v := ?_) (a' := ?_) #[true, true, true, true, true, true, true, true, true, true, true, true, true, true, true, true, true, true, true, false, false, false, false, false, false] rfl rfl (by kernel_rfl) (fun _ _ _ h => h) (Or.inl ⟨by rfl, ?_⟩) ?_ ?_
  rotate_left
  · intro w'
    go_simp
    with_reducible rfl
  rotate_left
  · simp only [Act.put, List.setIfInBounds_toArray, List.set_cons_zero, List.set_cons_succ, i64_w, i32_w]
    rfl
  refine pure_ (i := 19) (N := some 126) (v := ?_) (a' := ?_) #[true, true, true, true, true, true, true, true, true, true, true, true, true, true, true, true, true, true, true, true, false, false, false, false, false] rfl rfl (by kernel_rfl) (fun _ _ _ h => h) (Or.inl ⟨by rfl, ?_⟩) ?_ ?_
  rotate_left
  · intro w'
    go_simp
    with_reducible rfl
  rotate_left
  · simp only [Act.put, List.setIfInBounds_toArray, List.set_cons_zero, List.set_cons_succ, i64_w, i32_w]
    rfl
  refine pure_ (i := 20) (N := some 127) (v := ?_) (a' := ?_) #[true, true, true, true, true, true, true, true, true, true, true, true, true, true, true, true, true, true, true, true, true, false, false, false, false] rfl rfl (by kernel_rfl) (fun _ _ _ h => h) (Or.inl ⟨by rfl, ?_⟩) ?_ ?_
  rotate_left
  · intro w'
    go_simp
    with_reducible rfl
  rotate_left
  · simp only [Act.put, List.setIfInBounds_toArray, List.set_cons_zero, List.set_cons_succ, i64_w, i32_w]
    rfl
  refine pure_ (i := 21) (N := some 128) (v := ?_) (a' := ?_) #[true, true, true, true, true, true, true, true, true, true, true, true, true, true, true, true, true, true, true, true, true, true, false, false, false] rfl rfl (by kernel_rfl) (fun _ _ _ h => h) (Or.inl ⟨by rfl, ?_⟩) ?_ ?_
  rotate_left
  · intro w'
    go_simp
    with_reducible rfl
  rotate_left
  · simp only [Act.put, List.setIfInBounds_toArray, List.set_cons_zero, List.set_cons_succ, i64_w, i32_w]
    rfl
  refine last_ (i := 22) (N := none) #[true, true, true, true, true, true, true, true, true, true, true, true, true, true, true, true, true, true, true, true, true, true, true, false, false] rfl rfl (by kernel_rfl) (by decide) (fun K hK => ?_)
  refine skip_ (w1 := ?_) (by rfl) rfl ?_ ?_
  rotate_left
  · go_simp
    rfl
  refine hK.out _ _ ?_
  clear hK K
  refine pure_ (i := 23) (N := some 129) (v := ?_) (a' := ?_) #[true, true, true, true, true, true, true, true, true, true, true, true, true, true, true, true, true, true, true, true, true, true, true, true, false] rfl rfl (by kernel_rfl) (fun _ _ _ h => h) (Or.inl ⟨by rfl, ?_⟩) ?_ ?_
  rotate_left
  · intro w'
    go_simp
    with_reducible rfl
  rotate_left
  · simp only [Act.put, List.setIfInBounds_toArray, List.set_cons_zero, List.set_cons_succ, i64_w, i32_w]
    rfl
  refine last_ (i := 24) (N := none) #[true, true, true, true, true, true, true, true, true, true, true, true, true, true, true, true, true, true, true, true, true, true, true, true, true] rfl rfl (by kernel_rfl) (by decide) (fun K hK => ?_)
  refine skip_ (w1 := ?_) (by rfl) rfl ?_ ?_
  rotate_left
  · go_simp
    rfl
  refine hK.out _ _ ?_
  clear hK K
  refine done_ (by kernel_rfl) ?_
  go_upto_region 16 with (fail)
  obtain ⟨W4, hW4⟩ : ∃ W4, W4 = w7.setCell ⟨gk, i, none⟩ (.string px) := ⟨_, rfl⟩
  rw [← hW4]
  obtain ⟨W5, hW5⟩ : ∃ W5, W5 = W4.setCell ⟨gv, i, none⟩ (.int .i64 py) := ⟨_, rfl⟩
  rw [← hW5]
  have nN7 := nN0.out.chg k7.out (fun _ _ h => h)
  obtain ⟨nN4, k4⟩ := nN7.elem0 i px
  rw [← hW4] at nN4 k4
  obtain ⟨nN5, k5⟩ := nN4.elem1 i py
  rw [← hW5] at nN5 k5
  have k6 := Hid.mk' (((k7.out.mono fun _ h => h.elim).trans k4).trans k5)
  have nN6 := Hid.mk' nN5
  clear hW4 hW5 nN7 nN4 nN5 k4 k5
  have hcall := Hid.mk' (hr'.out _ nN6.out k6.out)
  have hcallD := Hid.mk' (hr'.out _ (nN6.out.chg ((Chg.refl NoB W5).drew) (fun _ _ h => h)) k6.out.drew)
  have d0 := nN6.out.c0
  have d1 := nN6.out.c1
  have d2 := nN6.out.c2
  have g0 : W5.cell? ⟨gk, i, none⟩ = some (.string px) := by
    obtain ⟨_, h, _, hc, _⟩ := nN6.out.rk.at (by have := (List.getElem?_eq_some_iff.1 hx.out).1; simp; omega)
    cases h
    exact hc _ _ (by rw [List.getElem?_map, List.getElem?_set_self (by exact (List.getElem?_eq_some_iff.1 hx.out).1)]; rfl)
  have g2 : W5.cell? ⟨gc, i, none⟩ = some (.pointer (some ⟨q0, 0, none⟩)) := by
    obtain ⟨_, h, _, hc, _⟩ := nN6.out.rc.at (by have := ek1.out; have := (List.getElem?_eq_some_iff.1 this).1; omega)
    cases h
    exact hc _ _ ek0.out
  clear c0 c1 c2 e0 e1 e2 e3 c0' c1' c2' e0' e1' e2' f0' f1'
  refine start_ (n := 16) (S := fun w' => w'.cell? ⟨n, 2, none⟩ = some (.slice (some ⟨gc, 0, none⟩) nc cc) ∧ w'.cell? ⟨gc, i, none⟩ = some (.pointer (some ⟨q0, 0, none⟩)) ∧ w'.cell? ⟨n, 0, none⟩ = some (.slice (some ⟨gk, 0, none⟩) nk ck) ∧ w'.cell? ⟨gk, i, none⟩ = some (.string px)) (ds := [15]) #[false, false, false, false, false, false, false, false, false, false, false, false, false, false, false, false] (by kernel_rfl) rfl rfl ⟨d2, g2, d0, g0⟩ (fun hHeld => ?_)
  refine pure_ (i := 0) (N := some 130) (v := ?_) (a' := ?_) #[true, false, false, false, false, false, false, false, false, false, false, false, false, false, false, false] rfl rfl (by kernel_rfl) (fun _ _ _ h => h) (Or.inl ⟨by rfl, ?_⟩) ?_ ?_
  rotate_left
  · intro w'
    go_simp
    with_reducible rfl
  rotate_left
  · simp only [Act.put, List.setIfInBounds_toArray, List.set_cons_zero, List.set_cons_succ, i64_w, i32_w]
    rfl
  refine pure_ (i := 1) (N := some 131) (v := ?_) (a' := ?_) #[true, true, false, false, false, false, false, false, false, false, false, false, false, false, false, false] rfl rfl (by kernel_rfl) (fun _ _ _ h => h) (Or.inl ⟨by rfl, ?_⟩) ?_ ?_
  rotate_left
  · intro w'
    go_simp
    with_reducible rfl
  rotate_left
  · simp only [Act.put, List.setIfInBounds_toArray, List.set_cons_zero, List.set_cons_succ, i64_w, i32_w]
    rfl
  refine pure_ (i := 2) (N := some 132) (v := ?_) (a' := ?_) #[true, true, true, false, false, false, false, false, false, false, false, false, false, false, false, false] rfl rfl (by kernel_rfl) (fun _ _ _ h => h) (Or.inl ⟨by rfl, ?_⟩) ?_ ?_
  rotate_left
  · intro w'
    go_simp
    with_reducible rfl
  rotate_left
  · simp only [Act.put, List.setIfInBounds_toArray, List.set_cons_zero, List.set_cons_succ, i64_w, i32_w]
    rfl
  refine pure_ (i := 4) (N := some 134) (v := ?_) (a' := ?_) #[true, true, true, false, true, false, false, false, false, false, false, false, false, false, false, false] rfl rfl (by kernel_rfl) (fun _ _ _ h => h) (Or.inl ⟨by rfl, ?_⟩) ?_ ?_
  rotate_left
  · intro w'
    go_simp
    with_reducible rfl
  rotate_left
  · simp only [Act.put, List.setIfInBounds_toArray, List.set_cons_zero, List.set_cons_succ, i64_w, i32_w]
    rfl
  refine pure_ (i := 7) (N := some 137) (v := ?_) (a' := ?_) #[true, true, true, false, true, false, false, true, false, false, false, false, false, false, false, false] rfl rfl (by kernel_rfl) (fun _ _ _ h => h) (Or.inl ⟨by rfl, ?_⟩) ?_ ?_
  rotate_left
  · intro w'
    go_simp
    with_reducible rfl
  rotate_left
  · simp only [Act.put, List.setIfInBounds_toArray, List.set_cons_zero, List.set_cons_succ, i64_w, i32_w]
    rfl
  refine pure_ (i := 8) (N := some 138) (v := ?_) (a' := ?_) #[true, true, true, false, true, false, false, true, true, false, false, false, false, false, false, false] rfl rfl (by kernel_rfl) (fun _ _ _ h => h) (Or.inl ⟨by rfl, ?_⟩) ?_ ?_
  rotate_left
  · intro w'
    go_simp
    with_reducible rfl
  rotate_left
  · simp only [Act.put, List.setIfInBounds_toArray, List.set_cons_zero, List.set_cons_succ, i64_w, i32_w]
    rfl
  refine pure_ (i := 9) (N := some 139) (v := ?_) (a' := ?_) #[true, true, true, false, true, false, false, true, true, true, false, false, false, false, false, false] rfl rfl (by kernel_rfl) (fun _ _ _ h => h) (Or.inl ⟨by rfl, ?_⟩) ?_ ?_
  rotate_left
  · intro w'
    go_simp
    with_reducible rfl
  rotate_left
  · simp only [Act.put, List.setIfInBounds_toArray, List.set_cons_zero, List.set_cons_succ, i64_w, i32_w]
    rfl
  refine pure_ (i := 11) (N := some 141) (v := ?_) (a' := ?_) #[true, true, true, false, true, false, false, true, true, true, false, true, false, false, false, false] rfl rfl (by kernel_rfl) (fun _ _ _ h => h) (Or.inl ⟨by rfl, ?_⟩) ?_ ?_
  rotate_left
  · intro w'
    go_simp
    with_reducible rfl
  rotate_left
  · simp only [Act.put, List.setIfInBounds_toArray, List.set_cons_zero, List.set_cons_succ, i64_w, i32_w]
    rfl
  refine pure_ (i := 14) (N := some 144) (v := ?_) (a' := ?_) #[true, true, true, false, true, false, false, true, true, true, false, true, false, false, true, false] rfl rfl (by kernel_rfl) (fun _ _ _ h => h) (Or.inl ⟨by rfl, ?_⟩) ?_ ?_
  rotate_left
  · intro w'
    go_simp
    with_reducible rfl
  rotate_left
  · simp only [Act.put, List.setIfInBounds_toArray, List.set_cons_zero, List.set_cons_succ, i64_w, i32_w]
    rfl
  refine take_ (i := 3) (N := some 133) (v := ?_) (a' := ?_) #[true, true, true, true, true, false, false, true, true, true, false, true, false, false, true, false] rfl rfl (by kernel_rfl) (fun _ _ _ h => h) (Or.inl ⟨by rfl, ?_⟩) hHeld ?_ ?_
  rotate_left
  · rintro w' ⟨s0, s1, s2, s3⟩
    go_simp
    with_reducible rfl
  rotate_left
  · simp only [Act.put, List.setIfInBounds_toArray, List.set_cons_zero, List.set_cons_succ, i64_w, i32_w]
    rfl
  refine pure_ (i := 5) (N := some 135) (v := ?_) (a' := ?_) #[true, true, true, true, true, true, false, true, true, true, false, true, false, false, true, false] rfl rfl (by kernel_rfl) (fun _ _ _ h => h) (Or.inl ⟨by rfl, ?_⟩) ?_ ?_
  rotate_left
  · intro w'
    go_simp
    with_reducible rfl
  rotate_left
  · simp only [Act.put, List.setIfInBounds_toArray, List.set_cons_zero, List.set_cons_succ, i64_w, i32_w]
    rfl
  refine take_ (i := 6) (N := some 136) (v := ?_) (a' := ?_) #[true, true, true, true, true, true, true, true, true, true, false, true, false, false, true, false] rfl rfl (by kernel_rfl) (fun _ _ _ h => h) (Or.inl ⟨by rfl, ?_⟩) hHeld ?_ ?_
  rotate_left
  · rintro w' ⟨s0, s1, s2, s3⟩
    go_simp
    with_reducible rfl
  rotate_left
  · simp only [Act.put, List.setIfInBounds_toArray, List.set_cons_zero, List.set_cons_succ, i64_w, i32_w]
    rfl
  refine take_ (i := 10) (N := some 140) (v := ?_) (a' := ?_) #[true, true, true, true, true, true, true, true, true, true, true, true, false, false, true, false] rfl rfl (by kernel_rfl) (fun _ _ _ h => h) (Or.inl ⟨by rfl, ?_⟩) hHeld ?_ ?_
  rotate_left
  · rintro w' ⟨s0, s1, s2, s3⟩
    go_simp
    with_reducible rfl
  rotate_left
  · simp only [Act.put, List.setIfInBounds_toArray, List.set_cons_zero, List.set_cons_succ, i64_w, i32_w]
    rfl
  refine pure_ (i := 12) (N := some 142) (v := ?_) (a' := ?_) #[true, true, true, true, true, true, true, true, true, true, true, true, true, false, true, false] rfl rfl (by kernel_rfl) (fun _ _ _ h => h) (Or.inl ⟨by rfl, ?_⟩) ?_ ?_
  rotate_left
  · intro w'
    go_simp
    with_reducible rfl
  rotate_left
  · simp only [Act.put, List.setIfInBounds_toArray, List.set_cons_zero, List.set_cons_succ, i64_w, i32_w]
    rfl
  refine take_ (i := 13) (N := some 143) (v := ?_) (a' := ?_) #[true, true, true, true, true, true, true, true, true, true, true, true, true, true, true, false] rfl rfl (by kernel_rfl) (fun _ _ _ h => h) (Or.inl ⟨by rfl, ?_⟩) hHeld ?_ ?_
  rotate_left
  · rintro w' ⟨s0, s1, s2, s3⟩
    go_simp
    with_reducible rfl
  rotate_left
  · simp only [Act.put, List.setIfInBounds_toArray, List.set_cons_zero, List.set_cons_succ, i64_w, i32_w]
    rfl
  refine last_ (i := 15) (N := some 145) #[true, true, true, true, true, true, true, true, true, true, true, true, true, true, true, true] rfl rfl (by kernel_rfl) (by decide) (fun K hK => ?_)
  refine goes_ Try.func24 (by kernel_rfl) rfl #[.pointer (some ⟨q0, 0, none⟩), .string px, .int .i64 (dd : Int)] (by rfl) rfl rfl (by simp only [List.map_toArray, List.map_cons, List.map_nil]; rfl) ?_
  first | with_reducible refine hcall.out.mono ?_ | with_reducible refine hcallD.out.mono ?_
  rintro e w9 ⟨⟨o9, f9, rfl⟩, q9⟩
  refine ⟨_, rfl, ?_⟩
  refine hK.out _ _ ?_
  clear hK K
  refine norm_ (a' := ?_) ?_ ?_
  rotate_left
  · show Act.put _ (some 145) _ = _
    simp only [Act.put, List.setIfInBounds_toArray, List.set_cons_zero, List.set_cons_succ, i64_w, i32_w]
    rfl
  refine done_ (by kernel_rfl) ?_
  go_wp2_with fail
  go_ret2
  exact ⟨rfl, q9⟩

set_option maxHeartbeats 8000000 in
set_option maxRecDepth 100000 in
theorem rem_right (n i q0 q1' nq0 cq0 nq1 cq1 dd : Nat) (aq0 aq1 : Option Addr) (k px : ByteArray) (vd y py : Int) (ks : List ByteArray) (vs : List Int) (bs : List Nat) (vk vv vc : Value) (R : World → Prop) (w : World) (hN : Nd w n vk vv vc ks vs bs)
    (hf : Calls Try.prog 31 #[vk, .string k] w fun e w' => e = .returned (.tuple #[.int .i64 i, .bool true]) ∧ w = w') (hik : i < ks.length) (hy : vs[i]? = some y) (hl : vs.length ≤ 1000) (hlk : ks.length ≤ 1000) (hlb : bs.length ≤ 1000) (hvd : vd = dd)
    (hk0 : bs[i]? = some q0) (hk1 : bs[i + 1]? = some q1') (hq0 : w.cell? ⟨q0, 0, none⟩ = some (.slice aq0 nq0 cq0)) (hq1 : w.cell? ⟨q1', 0, none⟩ = some (.slice aq1 nq1 cq1)) (hp0 : nq0 < dd) (hp1 : dd ≤ nq1)
    (hend : ∀ W, Chg NoB w W → Calls Try.prog 41 #[.pointer (some ⟨q1', 0, none⟩), .bool false] W fun e w' => e = .returned (.tuple #[.string px, .int .i64 py]) ∧ Chg NoB W w')
    (hrem : ∀ w1, Nd w1 n vk vv vc (ks.set i px) (vs.set i py) bs → Chg (nset n vk vv vc) w w1 → Calls Try.prog 24 #[.pointer (some ⟨q1', 0, none⟩), .string px, .int .i64 vd] w1 fun e w' => (∃ (o : Int) (f : Bool), e = .returned (.tuple #[.int .i64 o, .bool f])) ∧ R w') :
    Calls Try.prog 24 #[.pointer (some ⟨n, 0, none⟩), .string k, .int .i64 vd] w fun e w' => e = .returned (.tuple #[.int .i64 y, .bool true]) ∧ R w' := by
  subst hvd
  have ex1 := Hid.mk' (show (vs.map iv)[i]? = some (.int .i64 y) by rw [List.getElem?_map, hy]; rfl)
  have ek0 := Hid.mk' (show (bs.map pv)[i]? = some (.pointer (some ⟨q0, 0, none⟩)) by rw [List.getElem?_map, hk0]; rfl)
  have ek1 := Hid.mk' (show (bs.map pv)[i + 1]? = some (.pointer (some ⟨q1', 0, none⟩)) by rw [List.getElem?_map, hk1]; rfl)
  have hi1 : i < vs.length := (List.getElem?_eq_some_iff.1 hy).1
  have hi2 : i + 1 < bs.length := (List.getElem?_eq_some_iff.1 hk1).1
  obtain ⟨x, hx⟩ : ∃ x, ks[i]? = some x := ⟨_, List.getElem?_eq_getElem hik⟩
  have ex0 := Hid.mk' (show (ks.map sv)[i]? = some (.string x) by rw [List.getElem?_map, hx]; rfl)
  obtain ⟨ak, nk, ck, av, nv, cv, ac, nc, cc, rfl, rfl, rfl, lk0, lv0, lc0⟩ := hN.form'
  obtain ⟨gk, rfl, _, hck, hfk, _⟩ := hN.rk.at (by simp; omega)
  obtain ⟨gv, rfl, _, hc, hfv, _⟩ := hN.rv.at (by simp; omega)
  obtain ⟨gc, rfl, _, hcc, _, _⟩ := hN.rc.at (by simp; omega)
  have e0 : w.cell? ⟨gk, i, none⟩ = some (.string x) := hck _ _ ex0.out
  have e1 : w.cell? ⟨gv, i, none⟩ = some (.int .i64 y) := hc _ _ ex1.out
  have e2 : w.cell? ⟨gc, i, none⟩ = some (.pointer (some ⟨q0, 0, none⟩)) := hcc _ _ ek0.out
  have e3 : w.cell? ⟨gc, i + 1, none⟩ = some (.pointer (some ⟨q1', 0, none⟩)) := hcc _ _ ek1.out
  have b0 : (i : Int) < (nv : Int) := by have := lv0.out; omega
  have b4 : (i : Int) < (nk : Int) := by have := lk0.out; omega
  have b1 : (i : Int) < (nc : Int) := by have := lc0.out; omega
  have b3 : (i : Int) + 1 < (nc : Int) := by have := lc0.out; omega
  have b2 : 0 < nc := by omega
  have i1000 : i ≤ 1000 := by omega
  have w1 : IntKind.i64.wrap ((i : Int) + 1) = (i : Int) + 1 := by rw [IntKind.wrap_i64]; omega
  have w2 : (0 : Int) ≤ (i : Int) + 1 := by omega
  have w4 : ((i : Int) + 1).toNat = i + 1 := by omega
  have m1 : decide (dd ≤ nq0) = false := by simp; omega
  have m2 : decide (dd ≤ nq1) = true := by simp; omega
  have c0 := hN.c0
  have c1 := hN.c1
  have c2 := hN.c2
  have nN0 := Hid.mk' hN
  have gkv : gk ≠ gv := fun h => hN.rk.apart hN.rv (by decide) gk ((own_slice _ _ _ _ _ _).2 rfl) ((own_slice _ _ _ _ _ _).2 h)
  have hf' := Hid.mk' hf
  have he' := Hid.mk' hend
  have hr' := Hid.mk' hrem
  have fk := Hid.mk' hfk
  have fv := Hid.mk' hfv
  replace hx := Hid.mk' hx
  clear hN hf hend hrem lk0 lv0 lc0 hc hcc hck hi1 hi2 hk0 hk1 hl hlb hlk hy hp0 hp1 hik hfk hfv
  go_enter Try.func24, Try.ntmps24
  go_upto_region 18 with (first
    | (go_at_call 31; refine hf'.out.mono ?_; rintro e w' ⟨rfl, rfl⟩)
    | (go_at_call 25; refine (leaf_no n _ _ _ _ c2 b2).mono ?_; rintro e w' ⟨rfl, rfl⟩))
  refine start_ (n := 26) (S := fun w' => w'.cell? ⟨n, 0, none⟩ = some (.slice (some ⟨gk, 0, none⟩) nk ck) ∧ w'.cell? ⟨n, 1, none⟩ = some (.slice (some ⟨gv, 0, none⟩) nv cv) ∧ w'.cell? ⟨n, 2, none⟩ = some (.slice (some ⟨gc, 0, none⟩) nc cc) ∧ w'.cell? ⟨gk, i, none⟩ = some (.string x) ∧ w'.cell? ⟨gv, i, none⟩ = some (.int .i64 y) ∧ w'.cell? ⟨gc, i + 1, none⟩ = some (.pointer (some ⟨q1', 0, none⟩))) (ds := [23, 25]) #[false, false, false, false, false, false, false, false, false, false, false, false, false, false, false, false, false, false, false, false, false, false, false, false, false, false] (by kernel_rfl) rfl rfl ⟨c0, c1, c2, e0, e1, e3⟩ (fun hHeld => ?_)
  refine pure_ (i := 0) (N := some 162) (v := ?_) (a' := ?_) #[true, false, false, false, false, false, false, false, false, false, false, false, false, false, false, false, false, false, false, false, false, false, false, false, false, false] rfl rfl (by kernel_rfl) (fun _ _ _ h => h) (Or.inl ⟨by rfl, ?_⟩) ?_ ?_
  rotate_left
  · intro w'
    go_simp
    with_reducible rfl
  rotate_left
  · simp only [Act.put, List.setIfInBounds_toArray, List.set_cons_zero, List.set_cons_succ, i64_w, i32_w]
    rfl
  refine pure_ (i := 1) (N := some 163) (v := ?_) (a' := ?_) #[true, true, false, false, false, false, false, false, false, false, false, false, false, false, false, false, false, false, false, false, false, false, false, false, false, false] rfl rfl (by kernel_rfl) (fun _ _ _ h => h) (Or.inl ⟨by rfl, ?_⟩) ?_ ?_
  rotate_left
  · intro w'
    go_simp
    with_reducible rfl
  rotate_left
  · simp only [Act.put, List.setIfInBounds_toArray, List.set_cons_zero, List.set_cons_succ, i64_w, i32_w]
    rfl
  refine pure_ (i := 2) (N := some 164) (v := ?_) (a' := ?_) #[true, true, true, false, false, false, false, false, false, false, false, false, false, false, false, false, false, false, false, false, false, false, false, false, false, false] rfl rfl (by kernel_rfl) (fun _ _ _ h => h) (Or.inl ⟨by rfl, ?_⟩) ?_ ?_
  rotate_left
  · intro w'
    go_simp
    with_reducible rfl
  rotate_left
  · simp only [Act.put, List.setIfInBounds_toArray, List.set_cons_zero, List.set_cons_succ, i64_w, i32_w]
    rfl
  refine pure_ (i := 4) (N := some 166) (v := ?_) (a' := ?_) #[true, true, true, false, true, false, false, false, false, false, false, false, false, false, false, false, false, false, false, false, false, false, false, false, false, false] rfl rfl (by kernel_rfl) (fun _ _ _ h => h) (Or.inl ⟨by rfl, ?_⟩) ?_ ?_
  rotate_left
  · intro w'
    go_simp
    with_reducible rfl
  rotate_left
  · simp only [Act.put, List.setIfInBounds_toArray, List.set_cons_zero, List.set_cons_succ, i64_w, i32_w]
    rfl
  refine pure_ (i := 5) (N := some 167) (v := ?_) (a' := ?_) #[true, true, true, false, true, true, false, false, false, false, false, false, false, false, false, false, false, false, false, false, false, false, false, false, false, false] rfl rfl (by kernel_rfl) (fun _ _ _ h => h) (Or.inl ⟨by rfl, ?_⟩) ?_ ?_
  rotate_left
  · intro w'
    go_simp
    with_reducible rfl
  rotate_left
  · simp only [Act.put, List.setIfInBounds_toArray, List.set_cons_zero, List.set_cons_succ, i64_w, i32_w]
    rfl
  refine pure_ (i := 6) (N := some 168) (v := ?_) (a' := ?_) #[true, true, true, false, true, true, true, false, false, false, false, false, false, false, false, false, false, false, false, false, false, false, false, false, false, false] rfl rfl (by kernel_rfl) (fun _ _ _ h => h) (Or.inl ⟨by rfl, ?_⟩) ?_ ?_
  rotate_left
  · intro w'
    go_simp
    with_reducible rfl
  rotate_left
  · simp only [Act.put, List.setIfInBounds_toArray, List.set_cons_zero, List.set_cons_succ, i64_w, i32_w]
    rfl
  refine pure_ (i := 7) (N := some 169) (v := ?_) (a' := ?_) #[true, true, true, false, true, true, true, true, false, false, false, false, false, false, false, false, false, false, false, false, false, false, false, false, false, false] rfl rfl (by kernel_rfl) (fun _ _ _ h => h) (Or.inl ⟨by rfl, ?_⟩) ?_ ?_
  rotate_left
  · intro w'
    go_simp
    with_reducible rfl
  rotate_left
  · simp only [Act.put, List.setIfInBounds_toArray, List.set_cons_zero, List.set_cons_succ, i64_w, i32_w]
    rfl
  refine pure_ (i := 9) (N := some 171) (v := ?_) (a' := ?_) #[true, true, true, false, true, true, true, true, false, true, false, false, false, false, false, false, false, false, false, false, false, false, false, false, false, false] rfl rfl (by kernel_rfl) (fun _ _ _ h => h) (Or.inl ⟨by rfl, ?_⟩) ?_ ?_
  rotate_left
  · intro w'
    go_simp
    with_reducible rfl
  rotate_left
  · simp only [Act.put, List.setIfInBounds_toArray, List.set_cons_zero, List.set_cons_succ, i64_w, i32_w]
    rfl
  refine pure_ (i := 10) (N := some 172) (v := ?_) (a' := ?_) #[true, true, true, false, true, true, true, true, false, true, true, false, false, false, false, false, false, false, false, false, false, false, false, false, false, false] rfl rfl (by kernel_rfl) (fun _ _ _ h => h) (Or.inl ⟨by rfl, ?_⟩) ?_ ?_
  rotate_left
  · intro w'
    go_simp
    with_reducible rfl
  rotate_left
  · simp only [Act.put, List.setIfInBounds_toArray, List.set_cons_zero, List.set_cons_succ, i64_w, i32_w]
    rfl
  refine pure_ (i := 11) (N := some 173) (v := ?_) (a' := ?_) #[true, true, true, false, true, true, true, true, false, true, true, true, false, false, false, false, false, false, false, false, false, false, false, false, false, false] rfl rfl (by kernel_rfl) (fun _ _ _ h => h) (Or.inl ⟨by rfl, ?_⟩) ?_ ?_
  rotate_left
  · intro w'
    go_simp
    with_reducible rfl
  rotate_left
  · simp only [Act.put, List.setIfInBounds_toArray, List.set_cons_zero, List.set_cons_succ, i64_w, i32_w]
    rfl
  refine pure_ (i := 12) (N := some 174) (v := ?_) (a' := ?_) #[true, true, true, false, true, true, true, true, false, true, true, true, true, false, false, false, false, false, false, false, false, false, false, false, false, false] rfl rfl (by kernel_rfl) (fun _ _ _ h => h) (Or.inl ⟨by rfl, ?_⟩) ?_ ?_
  rotate_left
  · intro w'
    go_simp
    with_reducible rfl
  rotate_left
  · simp only [Act.put, List.setIfInBounds_toArray, List.set_cons_zero, List.set_cons_succ, i64_w, i32_w]
    rfl
  refine pure_ (i := 14) (N := some 176) (v := ?_) (a' := ?_) #[true, true, true, false, true, true, true, true, false, true, true, true, true, false, true, false, false, false, false, false, false, false, false, false, false, false] rfl rfl (by kernel_rfl) (fun _ _ _ h => h) (Or.inl ⟨by rfl, ?_⟩) ?_ ?_
  rotate_left
  · intro w'
    go_simp
    with_reducible rfl
  rotate_left
  · simp only [Act.put, List.setIfInBounds_toArray, List.set_cons_zero, List.set_cons_succ, i64_w, i32_w]
    rfl
  refine pure_ (i := 15) (N := some 177) (v := ?_) (a' := ?_) #[true, true, true, false, true, true, true, true, false, true, true, true, true, false, true, true, false, false, false, false, false, false, false, false, false, false] rfl rfl (by kernel_rfl) (fun _ _ _ h => h) (Or.inl ⟨by rfl, ?_⟩) ?_ ?_
  rotate_left
  · intro w'
    go_simp
    with_reducible rfl
  rotate_left
  · simp only [Act.put, List.setIfInBounds_toArray, List.set_cons_zero, List.set_cons_succ, i64_w, i32_w]
    rfl
  refine take_ (i := 3) (N := some 165) (v := ?_) (a' := ?_) #[true, true, true, true, true, true, true, true, false, true, true, true, true, false, true, true, false, false, false, false, false, false, false, false, false, false] rfl rfl (by kernel_rfl) (fun _ _ _ h => h) (Or.inl ⟨by rfl, ?_⟩) hHeld ?_ ?_
  rotate_left
  · rintro w' ⟨s0, s1, s2, s3, s4, s5⟩
    go_simp
    with_reducible rfl
  rotate_left
  · simp only [Act.put, List.setIfInBounds_toArray, List.set_cons_zero, List.set_cons_succ, i64_w, i32_w]
    rfl
  refine take_ (i := 8) (N := some 170) (v := ?_) (a' := ?_) #[true, true, true, true, true, true, true, true, true, true, true, true, true, false, true, true, false, false, false, false, false, false, false, false, false, false] rfl rfl (by kernel_rfl) (fun _ _ _ h => h) (Or.inl ⟨by rfl, ?_⟩) hHeld ?_ ?_
  rotate_left
  · rintro w' ⟨s0, s1, s2, s3, s4, s5⟩
    go_simp
    with_reducible rfl
  rotate_left
  · simp only [Act.put, List.setIfInBounds_toArray, List.set_cons_zero, List.set_cons_succ, i64_w, i32_w]
    rfl
  refine take_ (i := 13) (N := some 175) (v := ?_) (a' := ?_) #[true, true, true, true, true, true, true, true, true, true, true, true, true, true, true, true, false, false, false, false, false, false, false, false, false, false] rfl rfl (by kernel_rfl) (fun _ _ _ h => h) (Or.inl ⟨by rfl, ?_⟩) hHeld ?_ ?_
  rotate_left
  · rintro w' ⟨s0, s1, s2, s3, s4, s5⟩
    go_simp
    with_reducible rfl
  rotate_left
  · simp only [Act.put, List.setIfInBounds_toArray, List.set_cons_zero, List.set_cons_succ, i64_w, i32_w]
    rfl
  refine pure_ (i := 16) (N := some 178) (v := ?_) (a' := ?_) #[true, true, true, true, true, true, true, true, true, true, true, true, true, true, true, true, true, false, false, false, false, false, false, false, false, false] rfl rfl (by kernel_rfl) (fun _ _ _ h => h) (Or.inl ⟨by rfl, ?_⟩) ?_ ?_
  rotate_left
  · intro w'
    go_simp
    with_reducible rfl
  rotate_left
  · simp only [Act.put, List.setIfInBounds_toArray, List.set_cons_zero, List.set_cons_succ, i64_w, i32_w]
    rfl
  refine take_ (i := 17) (N := some 179) (v := ?_) (a' := ?_) #[true, true, true, true, true, true, true, true, true, true, true, true, true, true, true, true, true, true, false, false, false, false, false, false, false, false] rfl rfl (by kernel_rfl) (fun _ _ _ h => h) (Or.inl ⟨by rfl, ?_⟩) hHeld ?_ ?_
  rotate_left
  · rintro w' ⟨s0, s1, s2, s3, s4, s5⟩
    go_simp
    with_reducible rfl
  rotate_left
  · simp only [Act.put, List.setIfInBounds_toArray, List.set_cons_zero, List.set_cons_succ, i64_w, i32_w]
    rfl
  refine one_ (i := 18) (N := some 180) #[true, true, true, true, true, true, true, true, true, true, true, true, true, true, true, true, true, true, true, false, false, false, false, false, false, false] rfl rfl (by kernel_rfl) (by decide) (fun K hK => ?_)
  refine goes_ Try.func41 (by kernel_rfl) rfl #[.pointer (some ⟨q1', 0, none⟩), .bool false] (by rfl) rfl rfl (by simp only [List.map_toArray, List.map_cons, List.map_nil]; rfl) ?_
  with_reducible refine ((he'.out _ (by first | exact Chg.refl _ _ | exact (Chg.refl _ _).drew))).mono ?_
  rintro e w7 ⟨rfl, k7⟩
  refine ⟨_, rfl, ?_⟩
  replace k7 : Chg NoB w w7 := by first | exact k7 | exact k7.undrew
  have f0' : w7.frozen? ⟨gk, i, none⟩ = false := (nN0.out.rk.chg k7 fun _ _ h => h).frz i
  have f1' : w7.frozen? ⟨gv, i, none⟩ = false := (nN0.out.rv.chg k7 fun _ _ h => h).frz i
  replace k7 := Hid.mk' k7
  have c0' := k7.out.cell (fun h => h) c0
  have c1' := k7.out.cell (fun h => h) c1
  have c2' := k7.out.cell (fun h => h) c2
  have e0' := k7.out.cell (fun h => h) e0
  have e1' := k7.out.cell (fun h => h) e1
  have e3' := k7.out.cell (fun h => h) e3
  refine hK.out _ _ ⟨c0', c1', c2', e0', e1', e3'⟩ (fun hHeld => ?_)
  clear hK K
  refine norm_ (a' := ?_) ?_ ?_
  rotate_left
  · show Act.put _ (some 180) _ = _
    simp only [Act.put, List.setIfInBounds_toArray, List.set_cons_zero, List.set_cons_succ, i64_w, i32_w]
    rfl
  refine pure_ (i := 19) (N := some 161) (v := ?_) (a' := ?_) #[true, true, true, true, true, true, true, true, true, true, true, true, true, true, true, true, true, true, true, true, false, false, false, false, false, false] rfl rfl (by kernel_rfl) (fun _ _ _ h => h) (Or.inl ⟨by rfl, ?_⟩) ?_ ?_
  rotate_left
  · intro w'
    go_simp
    with_reducible rfl
  rotate_left
  · simp only [Act.put, List.setIfInBounds_toArray, List.set_cons_zero, List.set_cons_succ, i64_w, i32_w]
    rfl
  refine pure_ (i := 20) (N := some 181) (v := ?_) (a' := ?_) #[true, true, true, true, true, true, true, true, true, true, true, true, true, true, true, true, true, true, true, true, true, false, false, false, false, false] rfl rfl (by kernel_rfl) (fun _ _ _ h => h) (Or.inl ⟨by rfl, ?_⟩) ?_ ?_
  rotate_left
  · intro w'
    go_simp
    with_reducible rfl
  rotate_left
  · simp only [Act.put, List.setIfInBounds_toArray, List.set_cons_zero, List.set_cons_succ, i64_w, i32_w]
    rfl
  refine pure_ (i := 21) (N := some 182) (v := ?_) (a' := ?_) #[true, true, true, true, true, true, true, true, true, true, true, true, true, true, true, true, true, true, true, true, true, true, false, false, false, false] rfl rfl (by kernel_rfl) (fun _ _ _ h => h) (Or.inl ⟨by rfl, ?_⟩) ?_ ?_
  rotate_left
  · intro w'
    go_simp
    with_reducible rfl
  rotate_left
  · simp only [Act.put, List.setIfInBounds_toArray, List.set_cons_zero, List.set_cons_succ, i64_w, i32_w]
    rfl
  refine pure_ (i := 22) (N := some 183) (v := ?_) (a' := ?_) #[true, true, true, true, true, true, true, true, true, true, true, true, true, true, true, true, true, true, true, true, true, true, true, false, false, false] rfl rfl (by kernel_rfl) (fun _ _ _ h => h) (Or.inl ⟨by rfl, ?_⟩) ?_ ?_
  rotate_left
  · intro w'
    go_simp
    with_reducible rfl
  rotate_left
  · simp only [Act.put, List.setIfInBounds_toArray, List.set_cons_zero, List.set_cons_succ, i64_w, i32_w]
    rfl
  refine last_ (i := 23) (N := none) #[true, true, true, true, true, true, true, true, true, true, true, true, true, true, true, true, true, true, true, true, true, true, true, true, false, false] rfl rfl (by kernel_rfl) (by decide) (fun K hK => ?_)
  refine skip_ (w1 := ?_) (by rfl) rfl ?_ ?_
  rotate_left
  · go_simp
    rfl
  refine hK.out _ _ ?_
  clear hK K
  refine pure_ (i := 24) (N := some 184) (v := ?_) (a' := ?_) #[true, true, true, true, true, true, true, true, true, true, true, true, true, true, true, true, true, true, true, true, true, true, true, true, true, false] rfl rfl (by kernel_rfl) (fun _ _ _ h => h) (Or.inl ⟨by rfl, ?_⟩) ?_ ?_
  rotate_left
  · intro w'
    go_simp
    with_reducible rfl
  rotate_left
  · simp only [Act.put, List.setIfInBounds_toArray, List.set_cons_zero, List.set_cons_succ, i64_w, i32_w]
    rfl
  refine last_ (i := 25) (N := none) #[true, true, true, true, true, true, true, true, true, true, true, true, true, true, true, true, true, true, true, true, true, true, true, true, true, true] rfl rfl (by kernel_rfl) (by decide) (fun K hK => ?_)
  refine skip_ (w1 := ?_) (by rfl) rfl ?_ ?_
  rotate_left
  · go_simp
    rfl
  refine hK.out _ _ ?_
  clear hK K
  refine done_ (by kernel_rfl) ?_
  go_upto_region 19 with (fail)
  obtain ⟨W4, hW4⟩ : ∃ W4, W4 = w7.setCell ⟨gk, i, none⟩ (.string px) := ⟨_, rfl⟩
  rw [← hW4]
  obtain ⟨W5, hW5⟩ : ∃ W5, W5 = W4.setCell ⟨gv, i, none⟩ (.int .i64 py) := ⟨_, rfl⟩
  rw [← hW5]
  have nN7 := nN0.out.chg k7.out (fun _ _ h => h)
  obtain ⟨nN4, k4⟩ := nN7.elem0 i px
  rw [← hW4] at nN4 k4
  obtain ⟨nN5, k5⟩ := nN4.elem1 i py
  rw [← hW5] at nN5 k5
  have k6 := Hid.mk' (((k7.out.mono fun _ h => h.elim).trans k4).trans k5)
  have nN6 := Hid.mk' nN5
  clear hW4 hW5 nN7 nN4 nN5 k4 k5
  have hcall := Hid.mk' (hr'.out _ nN6.out k6.out)
  have hcallD := Hid.mk' (hr'.out _ (nN6.out.chg ((Chg.refl NoB W5).drew) (fun _ _ h => h)) k6.out.drew)
  have d0 := nN6.out.c0
  have d1 := nN6.out.c1
  have d2 := nN6.out.c2
  have g0 : W5.cell? ⟨gk, i, none⟩ = some (.string px) := by
    obtain ⟨_, h, _, hc, _⟩ := nN6.out.rk.at (by have := (List.getElem?_eq_some_iff.1 hx.out).1; simp; omega)
    cases h
    exact hc _ _ (by rw [List.getElem?_map, List.getElem?_set_self (by exact (List.getElem?_eq_some_iff.1 hx.out).1)]; rfl)
  have g2 : W5.cell? ⟨gc, i + 1, none⟩ = some (.pointer (some ⟨q1', 0, none⟩)) := by
    obtain ⟨_, h, _, hc, _⟩ := nN6.out.rc.at (by have := ek1.out; have := (List.getElem?_eq_some_iff.1 this).1; omega)
    cases h
    exact hc _ _ ek1.out
  clear c0 c1 c2 e0 e1 e2 e3 c0' c1' c2' e0' e1' e3' f0' f1'
  refine start_ (n := 17) (S := fun w' => w'.cell? ⟨n, 2, none⟩ = some (.slice (some ⟨gc, 0, none⟩) nc cc) ∧ w'.cell? ⟨gc, i + 1, none⟩ = some (.pointer (some ⟨q1', 0, none⟩)) ∧ w'.cell? ⟨n, 0, none⟩ = some (.slice (some ⟨gk, 0, none⟩) nk ck) ∧ w'.cell? ⟨gk, i, none⟩ = some (.string px)) (ds := [16]) #[false, false, false, false, false, false, false, false, false, false, false, false, false, false, false, false, false] (by kernel_rfl) rfl rfl ⟨d2, g2, d0, g0⟩ (fun hHeld => ?_)
  refine pure_ (i := 0) (N := some 185) (v := ?_) (a' := ?_) #[true, false, false, false, false, false, false, false, false, false, false, false, false, false, false, false, false] rfl rfl (by kernel_rfl) (fun _ _ _ h => h) (Or.inl ⟨by rfl, ?_⟩) ?_ ?_
  rotate_left
  · intro w'
    go_simp
    with_reducible rfl
  rotate_left
  · simp only [Act.put, List.setIfInBounds_toArray, List.set_cons_zero, List.set_cons_succ, i64_w, i32_w]
    rfl
  refine pure_ (i := 1) (N := some 186) (v := ?_) (a' := ?_) #[true, true, false, false, false, false, false, false, false, false, false, false, false, false, false, false, false] rfl rfl (by kernel_rfl) (fun _ _ _ h => h) (Or.inl ⟨by rfl, ?_⟩) ?_ ?_
  rotate_left
  · intro w'
    go_simp
    with_reducible rfl
  rotate_left
  · simp only [Act.put, List.setIfInBounds_toArray, List.set_cons_zero, List.set_cons_succ, i64_w, i32_w]
    rfl
  refine pure_ (i := 2) (N := some 187) (v := ?_) (a' := ?_) #[true, true, true, false, false, false, false, false, false, false, false, false, false, false, false, false, false] rfl rfl (by kernel_rfl) (fun _ _ _ h => h) (Or.inl ⟨by rfl, ?_⟩) ?_ ?_
  rotate_left
  · intro w'
    go_simp
    with_reducible rfl
  rotate_left
  · simp only [Act.put, List.setIfInBounds_toArray, List.set_cons_zero, List.set_cons_succ, i64_w, i32_w]
    rfl
  refine pure_ (i := 4) (N := some 189) (v := ?_) (a' := ?_) #[true, true, true, false, true, false, false, false, false, false, false, false, false, false, false, false, false] rfl rfl (by kernel_rfl) (fun _ _ _ h => h) (Or.inl ⟨by rfl, ?_⟩) ?_ ?_
  rotate_left
  · intro w'
    go_simp
    with_reducible rfl
  rotate_left
  · simp only [Act.put, List.setIfInBounds_toArray, List.set_cons_zero, List.set_cons_succ, i64_w, i32_w]
    rfl
  refine pure_ (i := 5) (N := some 190) (v := ?_) (a' := ?_) #[true, true, true, false, true, true, false, false, false, false, false, false, false, false, false, false, false] rfl rfl (by kernel_rfl) (fun _ _ _ h => h) (Or.inl ⟨by rfl, ?_⟩) ?_ ?_
  rotate_left
  · intro w'
    go_simp
    with_reducible rfl
  rotate_left
  · simp only [Act.put, List.setIfInBounds_toArray, List.set_cons_zero, List.set_cons_succ, i64_w, i32_w]
    rfl
  refine pure_ (i := 8) (N := some 193) (v := ?_) (a' := ?_) #[true, true, true, false, true, true, false, false, true, false, false, false, false, false, false, false, false] rfl rfl (by kernel_rfl) (fun _ _ _ h => h) (Or.inl ⟨by rfl, ?_⟩) ?_ ?_
  rotate_left
  · intro w'
    go_simp
    with_reducible rfl
  rotate_left
  · simp only [Act.put, List.setIfInBounds_toArray, List.set_cons_zero, List.set_cons_succ, i64_w, i32_w]
    rfl
  refine pure_ (i := 9) (N := some 194) (v := ?_) (a' := ?_) #[true, true, true, false, true, true, false, false, true, true, false, false, false, false, false, false, false] rfl rfl (by kernel_rfl) (fun _ _ _ h => h) (Or.inl ⟨by rfl, ?_⟩) ?_ ?_
  rotate_left
  · intro w'
    go_simp
    with_reducible rfl
  rotate_left
  · simp only [Act.put, List.setIfInBounds_toArray, List.set_cons_zero, List.set_cons_succ, i64_w, i32_w]
    rfl
  refine pure_ (i := 10) (N := some 195) (v := ?_) (a' := ?_) #[true, true, true, false, true, true, false, false, true, true, true, false, false, false, false, false, false] rfl rfl (by kernel_rfl) (fun _ _ _ h => h) (Or.inl ⟨by rfl, ?_⟩) ?_ ?_
  rotate_left
  · intro w'
    go_simp
    with_reducible rfl
  rotate_left
  · simp only [Act.put, List.setIfInBounds_toArray, List.set_cons_zero, List.set_cons_succ, i64_w, i32_w]
    rfl
  refine pure_ (i := 12) (N := some 197) (v := ?_) (a' := ?_) #[true, true, true, false, true, true, false, false, true, true, true, false, true, false, false, false, false] rfl rfl (by kernel_rfl) (fun _ _ _ h => h) (Or.inl ⟨by rfl, ?_⟩) ?_ ?_
  rotate_left
  · intro w'
    go_simp
    with_reducible rfl
  rotate_left
  · simp only [Act.put, List.setIfInBounds_toArray, List.set_cons_zero, List.set_cons_succ, i64_w, i32_w]
    rfl
  refine pure_ (i := 15) (N := some 200) (v := ?_) (a' := ?_) #[true, true, true, false, true, true, false, false, true, true, true, false, true, false, false, true, false] rfl rfl (by kernel_rfl) (fun _ _ _ h => h) (Or.inl ⟨by rfl, ?_⟩) ?_ ?_
  rotate_left
  · intro w'
    go_simp
    with_reducible rfl
  rotate_left
  · simp only [Act.put, List.setIfInBounds_toArray, List.set_cons_zero, List.set_cons_succ, i64_w, i32_w]
    rfl
  refine take_ (i := 3) (N := some 188) (v := ?_) (a' := ?_) #[true, true, true, true, true, true, false, false, true, true, true, false, true, false, false, true, false] rfl rfl (by kernel_rfl) (fun _ _ _ h => h) (Or.inl ⟨by rfl, ?_⟩) hHeld ?_ ?_
  rotate_left
  · rintro w' ⟨s0, s1, s2, s3⟩
    go_simp
    with_reducible rfl
  rotate_left
  · simp only [Act.put, List.setIfInBounds_toArray, List.set_cons_zero, List.set_cons_succ, i64_w, i32_w]
    rfl
  refine pure_ (i := 6) (N := some 191) (v := ?_) (a' := ?_) #[true, true, true, true, true, true, true, false, true, true, true, false, true, false, false, true, false] rfl rfl (by kernel_rfl) (fun _ _ _ h => h) (Or.inl ⟨by rfl, ?_⟩) ?_ ?_
  rotate_left
  · intro w'
    go_simp
    with_reducible rfl
  rotate_left
  · simp only [Act.put, List.setIfInBounds_toArray, List.set_cons_zero, List.set_cons_succ, i64_w, i32_w]
    rfl
  refine take_ (i := 7) (N := some 192) (v := ?_) (a' := ?_) #[true, true, true, true, true, true, true, true, true, true, true, false, true, false, false, true, false] rfl rfl (by kernel_rfl) (fun _ _ _ h => h) (Or.inl ⟨by rfl, ?_⟩) hHeld ?_ ?_
  rotate_left
  · rintro w' ⟨s0, s1, s2, s3⟩
    go_simp
    with_reducible rfl
  rotate_left
  · simp only [Act.put, List.setIfInBounds_toArray, List.set_cons_zero, List.set_cons_succ, i64_w, i32_w]
    rfl
  refine take_ (i := 11) (N := some 196) (v := ?_) (a' := ?_) #[true, true, true, true, true, true, true, true, true, true, true, true, true, false, false, true, false] rfl rfl (by kernel_rfl) (fun _ _ _ h => h) (Or.inl ⟨by rfl, ?_⟩) hHeld ?_ ?_
  rotate_left
  · rintro w' ⟨s0, s1, s2, s3⟩
    go_simp
    with_reducible rfl
  rotate_left
  · simp only [Act.put, List.setIfInBounds_toArray, List.set_cons_zero, List.set_cons_succ, i64_w, i32_w]
    rfl
  refine pure_ (i := 13) (N := some 198) (v := ?_) (a' := ?_) #[true, true, true, true, true, true, true, true, true, true, true, true, true, true, false, true, false] rfl rfl (by kernel_rfl) (fun _ _ _ h => h) (Or.inl ⟨by rfl, ?_⟩) ?_ ?_
  rotate_left
  · intro w'
    go_simp
    with_reducible rfl
  rotate_left
  · simp only [Act.put, List.setIfInBounds_toArray, List.set_cons_zero, List.set_cons_succ, i64_w, i32_w]
    rfl
  refine take_ (i := 14) (N := some 199) (v := ?_) (a' := ?_) #[true, true, true, true, true, true, true, true, true, true, true, true, true, true, true, true, false] rfl rfl (by kernel_rfl) (fun _ _ _ h => h) (Or.inl ⟨by rfl, ?_⟩) hHeld ?_ ?_
  rotate_left
  · rintro w' ⟨s0, s1, s2, s3⟩
    go_simp
    with_reducible rfl
  rotate_left
  · simp only [Act.put, List.setIfInBounds_toArray, List.set_cons_zero, List.set_cons_succ, i64_w, i32_w]
    rfl
  refine last_ (i := 16) (N := some 201) #[true, true, true, true, true, true, true, true, true, true, true, true, true, true, true, true, true] rfl rfl (by kernel_rfl) (by decide) (fun K hK => ?_)
  refine goes_ Try.func24 (by kernel_rfl) rfl #[.pointer (some ⟨q1', 0, none⟩), .string px, .int .i64 (dd : Int)] (by rfl) rfl rfl (by simp only [List.map_toArray, List.map_cons, List.map_nil]; rfl) ?_
  first | with_reducible refine hcall.out.mono ?_ | with_reducible refine hcallD.out.mono ?_
  rintro e w9 ⟨⟨o9, f9, rfl⟩, q9⟩
  refine ⟨_, rfl, ?_⟩
  refine hK.out _ _ ?_
  clear hK K
  refine norm_ (a' := ?_) ?_ ?_
  rotate_left
  · show Act.put _ (some 201) _ = _
    simp only [Act.put, List.setIfInBounds_toArray, List.set_cons_zero, List.set_cons_succ, i64_w, i32_w]
    rfl
  refine done_ (by kernel_rfl) ?_
  go_wp2_with fail
  go_ret2
  exact ⟨rfl, q9⟩
end Go.Proofs.Ytamnmoejjjaegaa
