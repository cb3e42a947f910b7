/- What (*node).split does to a node, its full child, and a new node: the nodes before and behind, apart from each other. Conditions: a degree from 2 to 32; the child full. -/
import Derived.Test.YtamnmoejjjaegaaN0
import Derived.Test.YtamnmoejjjaegaaH
import Derived.Test.YtamnmoejjjaegaaWLast
import Derived.Below
import Derived.Deep.Draws
import Derived.Deep.AppendLies
import Derived.Maps.AppendAt
import Derived.OwnWalk
import Derived.Laws.BytesArg
import Derived.Laws.MakeOwn
import Derived.Laws.OwnMore
import Derived.Deep.OwnRows
import Derived.Tactics
import Derived.Lib.ConvBytes
import Derived.Laws.Slices
import Derived.WalkKit
import Derived.KernelRfl
import Derived.RowKit3
import Derived.Deep.LoopGhost
import Derived.Deep.QuietTactic
import Derived.BigQuiet
import Derived.WideLaws
import Derived.Deep.DeepCutAuto
import Derived.Deep.CutBlock
import Derived.Deep.RegionHeld3
import Derived.Laws.Rows
import Derived.Lib.AppendStr
import Derived.ArgAppend
import Derived.Laws.IdiomCopy
import Derived.RowKit
import Derived.Deep.CutRange
set_option linter.unusedVariables false
set_option linter.unusedSimpArgs false
namespace Go.Proofs.Ytamnmoejjjaegaa
open Go Go.RowKit Go.Proofs.YtamnmoejjjaegaaW.PrintLast

set_option maxHeartbeats 8000000 in
set_option maxRecDepth 100000 in
theorem split27L (n q i d m : Nat) (vi vd : Int) (ks : List ByteArray) (vs : List Int) (bs : List Nat) (kks : List ByteArray) (kvs : List Int) (kbs : List Nat) (vk vv vc uk uv uc : Value) (x : ByteArray) (y : Int) (w : World)
    (hN : Nd w n vk vv vc ks vs bs) (hQ : Nd w q uk uv uc kks kvs kbs) (hA : Apart (nset n vk vv vc) (nset q uk uv uc)) (hi : i < bs.length) (hq : bs[i]? = some q) (hvi : vi = i) (hvd : vd = d)
    (hd : 2 ≤ d) (hd2 : d ≤ 32) (hm : m = 2 * d - 1) (hkk : kks.length = m) (hkv : kvs.length = m) (hx : kks[d - 1]? = some x) (hy : kvs[d - 1]? = some y) (hkb : kbs = []) (hl1 : vs.length = ks.length) (hl2 : bs.length = ks.length + 1) (hl3 : ks.length ≤ 1000) :
    Calls Try.prog 27 #[.pointer (some ⟨n, 0, none⟩), .int .i64 vi, .int .i64 vd] w fun e w' => ∃ vk' vv' vc' uk' uv' uc' r rk rv rc, e = .returned (.tuple #[]) ∧ Nd w' n vk' vv' vc' (ks.take i ++ x :: ks.drop i) (vs.take i ++ y :: vs.drop i) (bs.take (i + 1) ++ r :: bs.drop (i + 1)) ∧
        Nd w' q uk' uv' uc' (kks.take (d - 1)) (kvs.take (d - 1)) (kbs.take d) ∧ Nd w' r rk rv rc (kks.drop d) (kvs.drop d) (kbs.drop d) ∧
        Apart (nset n vk' vv' vc') (nset q uk' uv' uc') ∧ Apart (nset n vk' vv' vc') (nset r rk rv rc) ∧ Apart (nset q uk' uv' uc') (nset r rk rv rc) ∧
        Sub (nset n vk' vv' vc') (fun k => nset n vk vv vc k ∨ w.heap.size ≤ k) ∧ Sub (nset q uk' uv' uc') (fun k => nset q uk uv uc k ∨ w.heap.size ≤ k) ∧ (∀ k, nset r rk rv rc k → w.heap.size ≤ k) ∧
        Chg (fun k => nset n vk vv vc k ∨ nset q uk uv uc k) w w'  := by
  subst hvi hvd hkb
  have ex0 := Hid.mk' (show (kks.map sv)[d - 1]? = some (.string x) by rw [List.getElem?_map, hx]; rfl)
  have ex1 := Hid.mk' (show (kvs.map iv)[d - 1]? = some (.int .i64 y) by rw [List.getElem?_map, hy]; rfl)
  obtain ⟨ak, nk, ck, av, nv, cv, ac, nc, cc, rfl, rfl, rfl, lk0, lv0, lc0⟩ := hN.form'
  obtain ⟨bk, mk, dk, bv, mv, dv, bc, nb, dc, rfl, rfl, rfl, mk0, mv0, nb0⟩ := hQ.form'
  obtain rfl : m = mk := (mk0.out.trans hkk).symm
  obtain rfl : m = mv := (mv0.out.trans hkv).symm
  obtain rfl : nb = 0 := nb0.out
  have md : d < m := by omega
  have mdle : d ≤ m := by omega
  have m63 : m ≤ 63 := by omega
  have hm' := Hid.mk' hm
  obtain ⟨gc, rfl, ogc, ccell, _⟩ := hN.rc.at (by simp; omega)
  have hic : (i : Int) < (nc : Int) := by have := lc0.out; omega
  have hc2 := hN.c2
  have hci : w.cell? ⟨gc, i, none⟩ = some (.pointer (some ⟨q, 0, none⟩)) := ccell i _ (by rw [List.getElem?_map, hq]; rfl)
  obtain ⟨gk, rfl, hckne, hckD⟩ := hQ.rk.tail d (by omega)
  obtain ⟨gv, rfl, hcvne, hcvD⟩ := hQ.rv.tail d (by omega)
  have bk := hQ.rk.cap_le.2.1
  have bv := hQ.rv.cap_le.2.1
  replace hckne : ¬ dk = d := hckne
  replace hcvne : ¬ dv = d := hcvne
  replace hckD : Hid (∀ ad, some (⟨gk, d, none⟩ : Addr) = some ad → ∀ j u, ((kks.map sv).drop d)[j]? = some u → w.drew.cell? (ad.add j) = some u) := fun ad had j u hu => by cases had; exact hckD j u hu
  replace hcvD : Hid (∀ ad, some (⟨gv, d, none⟩ : Addr) = some ad → ∀ j u, ((kvs.map iv).drop d)[j]? = some u → w.cell? (ad.add j) = some u) := fun ad had j u hu => by cases had; exact hcvD j u hu
  have lk : Hid (m - d = ((kks.map sv).drop d).length) := by show m - d = _; simp; omega
  have lv : Hid (m - d = ((kvs.map iv).drop d).length) := by show m - d = _; simp; omega
  have qc0 := hQ.c0
  have qc1 := hQ.c1
  have hN' := Hid.mk' hN
  have hQ' := Hid.mk' hQ
  have hA' := Hid.mk' hA
  have b1 : (i : Int) < bs.length := by omega
  have i1000 : i ≤ 1001 := by omega
  have hkk' := Hid.mk' hkk
  have hkv' := Hid.mk' hkv
  replace hl1 := Hid.mk' hl1
  replace hl2 := Hid.mk' hl2
  clear hN hQ hA hm ccell hq hx hy hkk hkv
  go_enter Try.func27, Try.ntmps27
  go_wp2_with fail
  refine start_ (n := 17) (S := fun w' => w'.cell? ⟨q, 0, none⟩ = some (.slice (some ⟨gk, 0, none⟩) m dk) ∧ w'.cell? ⟨q, 1, none⟩ = some (.slice (some ⟨gv, 0, none⟩) m dv)) (ds := []) #[false, false, false, false, false, false, false, false, false, false, false, false, false, false, false, false, false] (by kernel_rfl) rfl rfl ⟨qc0, qc1⟩ (fun hHeld => ?_)
  refine pure_ (i := 0) (N := some 15) (v := ?_) (a' := ?_) #[true, false, false, false, false, false, false, false, false, false, false, false, false, false, false, false, false] rfl rfl (by kernel_rfl) (fun _ _ _ h => h) (Or.inl ⟨by rfl, ?_⟩) ?_ ?_
  rotate_left
  · intro w'
    go_simp
    with_reducible rfl
  rotate_left
  · simp only [Act.put, List.setIfInBounds_toArray, List.set_cons_zero, List.set_cons_succ, i64_w, i32_w]
    rfl
  refine pure_ (i := 1) (N := some 16) (v := ?_) (a' := ?_) #[true, true, false, false, false, false, false, false, false, false, false, false, false, false, false, false, false] rfl rfl (by kernel_rfl) (fun _ _ _ h => h) (Or.inl ⟨by rfl, ?_⟩) ?_ ?_
  rotate_left
  · intro w'
    go_simp
    with_reducible rfl
  rotate_left
  · simp only [Act.put, List.setIfInBounds_toArray, List.set_cons_zero, List.set_cons_succ, i64_w, i32_w]
    rfl
  refine pure_ (i := 2) (N := some 17) (v := ?_) (a' := ?_) #[true, true, true, false, false, false, false, false, false, false, false, false, false, false, false, false, false] rfl rfl (by kernel_rfl) (fun _ _ _ h => h) (Or.inl ⟨by rfl, ?_⟩) ?_ ?_
  rotate_left
  · intro w'
    go_simp
    with_reducible rfl
  rotate_left
  · simp only [Act.put, List.setIfInBounds_toArray, List.set_cons_zero, List.set_cons_succ, i64_w, i32_w]
    rfl
  refine pure_ (i := 4) (N := some 19) (v := ?_) (a' := ?_) #[true, true, true, false, true, false, false, false, false, false, false, false, false, false, false, false, false] rfl rfl (by kernel_rfl) (fun _ _ _ h => h) (Or.inl ⟨by rfl, ?_⟩) ?_ ?_
  rotate_left
  · intro w'
    go_simp
    with_reducible rfl
  rotate_left
  · simp only [Act.put, List.setIfInBounds_toArray, List.set_cons_zero, List.set_cons_succ, i64_w, i32_w]
    rfl
  refine pure_ (i := 7) (N := some 22) (v := ?_) (a' := ?_) #[true, true, true, false, true, false, false, true, false, false, false, false, false, false, false, false, false] rfl rfl (by kernel_rfl) (fun _ _ _ h => h) (Or.inl ⟨by rfl, ?_⟩) ?_ ?_
  rotate_left
  · intro w'
    go_simp
    with_reducible rfl
  rotate_left
  · simp only [Act.put, List.setIfInBounds_toArray, List.set_cons_zero, List.set_cons_succ, i64_w, i32_w]
    rfl
  refine pure_ (i := 8) (N := some 23) (v := ?_) (a' := ?_) #[true, true, true, false, true, false, false, true, true, false, false, false, false, false, false, false, false] rfl rfl (by kernel_rfl) (fun _ _ _ h => h) (Or.inl ⟨by rfl, ?_⟩) ?_ ?_
  rotate_left
  · intro w'
    go_simp
    with_reducible rfl
  rotate_left
  · simp only [Act.put, List.setIfInBounds_toArray, List.set_cons_zero, List.set_cons_succ, i64_w, i32_w]
    rfl
  refine pure_ (i := 9) (N := some 24) (v := ?_) (a' := ?_) #[true, true, true, false, true, false, false, true, true, true, false, false, false, false, false, false, false] rfl rfl (by kernel_rfl) (fun _ _ _ h => h) (Or.inl ⟨by rfl, ?_⟩) ?_ ?_
  rotate_left
  · intro w'
    go_simp
    with_reducible rfl
  rotate_left
  · simp only [Act.put, List.setIfInBounds_toArray, List.set_cons_zero, List.set_cons_succ, i64_w, i32_w]
    rfl
  refine pure_ (i := 11) (N := some 26) (v := ?_) (a' := ?_) #[true, true, true, false, true, false, false, true, true, true, false, true, false, false, false, false, false] rfl rfl (by kernel_rfl) (fun _ _ _ h => h) (Or.inl ⟨by rfl, ?_⟩) ?_ ?_
  rotate_left
  · intro w'
    go_simp
    with_reducible rfl
  rotate_left
  · simp only [Act.put, List.setIfInBounds_toArray, List.set_cons_zero, List.set_cons_succ, i64_w, i32_w]
    rfl
  refine take_ (i := 3) (N := some 18) (v := ?_) (a' := ?_) #[true, true, true, true, true, false, false, true, true, true, false, true, false, false, false, false, false] rfl rfl (by kernel_rfl) (fun _ _ _ h => h) (Or.inl ⟨by rfl, ?_⟩) hHeld ?_ ?_
  rotate_left
  · rintro w' ⟨s0, s1⟩
    go_simp
    with_reducible rfl
  rotate_left
  · simp only [Act.put, List.setIfInBounds_toArray, List.set_cons_zero, List.set_cons_succ, i64_w, i32_w]
    rfl
  refine pure_ (i := 5) (N := some 20) (v := ?_) (a' := ?_) #[true, true, true, true, true, true, false, true, true, true, false, true, false, false, false, false, false] rfl rfl (by kernel_rfl) (fun _ _ _ h => h) (Or.inl ⟨by rfl, ?_⟩) ?_ ?_
  rotate_left
  · intro w'
    go_simp
    with_reducible rfl
  rotate_left
  · simp only [Act.put, List.setIfInBounds_toArray, List.set_cons_zero, List.set_cons_succ, i64_w, i32_w]
    rfl
  refine take_ (i := 10) (N := some 25) (v := ?_) (a' := ?_) #[true, true, true, true, true, true, false, true, true, true, true, true, false, false, false, false, false] rfl rfl (by kernel_rfl) (fun _ _ _ h => h) (Or.inl ⟨by rfl, ?_⟩) hHeld ?_ ?_
  rotate_left
  · rintro w' ⟨s0, s1⟩
    go_simp
    with_reducible rfl
  rotate_left
  · simp only [Act.put, List.setIfInBounds_toArray, List.set_cons_zero, List.set_cons_succ, i64_w, i32_w]
    rfl
  refine pure_ (i := 12) (N := some 27) (v := ?_) (a' := ?_) #[true, true, true, true, true, true, false, true, true, true, true, true, true, false, false, false, false] rfl rfl (by kernel_rfl) (fun _ _ _ h => h) (Or.inl ⟨by rfl, ?_⟩) ?_ ?_
  rotate_left
  · intro w'
    go_simp
    with_reducible rfl
  rotate_left
  · simp only [Act.put, List.setIfInBounds_toArray, List.set_cons_zero, List.set_cons_succ, i64_w, i32_w]
    rfl
  refine one_ (i := 6) (N := some 21) #[true, true, true, true, true, true, true, true, true, true, true, true, true, false, false, false, false] rfl rfl (by kernel_rfl) (by decide) (fun K hK => ?_)
  refine goes_ Try.func43 (by kernel_rfl) rfl #[.slice (some ⟨gk, d, none⟩) (m - d) (dk - d)] (by rfl) rfl rfl (by simp only [List.map_toArray, List.map_cons, List.map_nil]; rfl) ?_
  with_reducible refine (cloneS (some ⟨gk, d, none⟩) (m - d) (dk - d) ((kks.map sv).drop d) _ (lk.out) (by simp) hckD.out (fun u hu => map_sv_cell kks u (List.mem_of_mem_drop hu)) (by have := lk.out; omega)).mono ?_
  rintro e w3 ⟨v3, rfl, r3, o3, k3⟩
  refine ⟨_, rfl, ?_⟩
  replace k3 := k3.undrew
  obtain ⟨a3, n3, c3, rfl, l3⟩ := r3.form'
  replace r3 := Hid.mk' r3
  replace o3 := Hid.mk' o3
  replace k3 := Hid.mk' k3
  refine hK.out _ _ ⟨(k3.out.cell (fun h => h) qc0), (k3.out.cell (fun h => h) qc1)⟩ (fun hHeld => ?_)
  clear hK K
  refine norm_ (a' := ?_) ?_ ?_
  rotate_left
  · show Act.put _ (some 21) _ = _
    simp only [Act.put, List.setIfInBounds_toArray, List.set_cons_zero, List.set_cons_succ, i64_w, i32_w]
    rfl
  refine one_ (i := 13) (N := some 28) #[true, true, true, true, true, true, true, true, true, true, true, true, true, true, false, false, false] rfl rfl (by kernel_rfl) (by decide) (fun K hK => ?_)
  refine goes_ Try.func44 (by kernel_rfl) rfl #[.slice (some ⟨gv, d, none⟩) (m - d) (dv - d)] (by rfl) rfl rfl (by simp only [List.map_toArray, List.map_cons, List.map_nil]; rfl) ?_
  with_reducible refine (cloneI (some ⟨gv, d, none⟩) (m - d) (dv - d) ((kvs.map iv).drop d) _ (lv.out) (by simp) (fun ad had j u hu => k3.out.cell (fun h => h) (hcvD.out ad had j u hu)) (fun u hu => map_iv_cell kvs u (List.mem_of_mem_drop hu)) (by have := lv.out; omega)).mono ?_
  rintro e w4 ⟨v4, rfl, r4, o4, k4⟩
  refine ⟨_, rfl, ?_⟩
  obtain ⟨a4, n4, c4, rfl, l4⟩ := r4.form'
  replace r4 := Hid.mk' r4
  replace o4 := Hid.mk' o4
  replace k4 := Hid.mk' k4
  refine hK.out _ _ ⟨(k4.out.cell (fun h => h) (k3.out.cell (fun h => h) qc0)), (k4.out.cell (fun h => h) (k3.out.cell (fun h => h) qc1))⟩ (fun hHeld => ?_)
  clear hK K
  refine norm_ (a' := ?_) ?_ ?_
  rotate_left
  · show Act.put _ (some 28) _ = _
    simp only [Act.put, List.setIfInBounds_toArray, List.set_cons_zero, List.set_cons_succ, i64_w, i32_w]
    rfl
  refine pure_ (i := 14) (N := some 29) (v := ?_) (a' := ?_) #[true, true, true, true, true, true, true, true, true, true, true, true, true, true, true, false, false] rfl rfl (by kernel_rfl) (fun _ _ _ h => h) (Or.inl ⟨by rfl, ?_⟩) ?_ ?_
  rotate_left
  · intro w'
    go_simp
    with_reducible rfl
  rotate_left
  · simp only [Act.put, List.setIfInBounds_toArray, List.set_cons_zero, List.set_cons_succ, i64_w, i32_w]
    rfl
  refine one_ (i := 15) (N := some 30) #[true, true, true, true, true, true, true, true, true, true, true, true, true, true, true, true, false] rfl rfl (by kernel_rfl) (by decide) (fun K hK => ?_)
  refine value_ (w1 := ?_) (v := ?_) (by rfl) rfl ?_ ?_
  rotate_left 2
  · go_simp
    constructor
    · rfl
    · rfl
  refine hK.out _ _ ⟨(Lib.cell?_alloc_some _ (k4.out.cell (fun h => h) (k3.out.cell (fun h => h) qc0))), (Lib.cell?_alloc_some _ (k4.out.cell (fun h => h) (k3.out.cell (fun h => h) qc1)))⟩ (fun hHeld => ?_)
  clear hK K
  refine norm_ (a' := ?_) ?_ ?_
  rotate_left
  · show Act.put _ (some 30) _ = _
    simp only [Act.put, List.setIfInBounds_toArray, List.set_cons_zero, List.set_cons_succ, i64_w, i32_w]
    rfl
  refine pure_ (i := 16) (N := some 7) (v := ?_) (a' := ?_) #[true, true, true, true, true, true, true, true, true, true, true, true, true, true, true, true, true] rfl rfl (by kernel_rfl) (fun _ _ _ h => h) (Or.inl ⟨by rfl, ?_⟩) ?_ ?_
  rotate_left
  · intro w'
    go_simp
    with_reducible rfl
  rotate_left
  · simp only [Act.put, List.setIfInBounds_toArray, List.set_cons_zero, List.set_cons_succ, i64_w, i32_w]
    rfl
  refine done_ (by kernel_rfl) ?_

  go_upto_region 2 with (fail)
  obtain ⟨W5, hW5⟩ : ∃ W5, W5 = w4.alloc (Obj.cells #[Value.slice a3 n3 c3, Value.slice a4 n4 c4, Value.slice none 0 0] 54) := ⟨_, rfl⟩
  obtain ⟨r, hr⟩ : ∃ r, r = w4.heap.size := ⟨_, rfl⟩
  rw [← hW5, ← hr]
  have kW5 : Chg NoB w W5 := by rw [hW5]; exact (k3.out.trans k4.out).alloc _
  have nN5 := hN'.out.chg kW5 (fun _ _ h => h)
  have nQ5 := hQ'.out.chg kW5 (fun _ _ h => h)
  have nR5 : Nd W5 r (.slice a3 n3 c3) (.slice a4 n4 c4) (.slice none 0 0) (kks.drop d) (kvs.drop d) [] := by
    rw [hW5, hr]
    exact ⟨heap_alloc_new w4 _, by rw [List.map_drop]; exact (r3.out.chg k4.out (fun _ _ h => h)).chg ((Chg.refl NoB _).alloc _) (fun _ _ h => h), by rw [List.map_drop]; exact r4.out.chg ((Chg.refl NoB _).alloc _) (fun _ _ h => h), Row.nil _ _⟩
  have sR5 : Sub (nset r (.slice a3 n3 c3) (.slice a4 n4 c4) (.slice none 0 0)) (fun k => w.heap.size ≤ k) := by
    rintro k (rfl | hk | hk | hk)
    · have h1 := k3.out.size; have h2 := k4.out.size; omega
    · exact (o3.out k hk).1
    · have h1 := k3.out.size; have h2 := (o4.out k hk).1; omega
    · exact (own_none 0 0 k hk).elim
  have aNQ5 := hA'.out
  have aNR5 : Apart (nset n (.slice ak nk ck) (.slice av nv cv) (.slice (some ⟨gc, 0, none⟩) nc cc)) (nset r (.slice a3 n3 c3) (.slice a4 n4 c4) (.slice none 0 0)) := fun k a b => by have := hN'.out.lt k a; have := sR5 k b; omega
  have aQR5 : Apart (nset q (.slice (some ⟨gk, 0, none⟩) m dk) (.slice (some ⟨gv, 0, none⟩) m dv) (.slice bc 0 dc)) (nset r (.slice a3 n3 c3) (.slice a4 n4 c4) (.slice none 0 0)) := fun k a b => by have := hQ'.out.lt k a; have := sR5 k b; omega
  have sN5 : Sub (nset n (.slice ak nk ck) (.slice av nv cv) (.slice (some ⟨gc, 0, none⟩) nc cc)) (fun k => nset n (.slice ak nk ck) (.slice av nv cv) (.slice (some ⟨gc, 0, none⟩) nc cc) k ∨ w.heap.size ≤ k) := fun k h => .inl h
  have sQ5 : Sub (nset q (.slice (some ⟨gk, 0, none⟩) m dk) (.slice (some ⟨gv, 0, none⟩) m dv) (.slice bc 0 dc)) (fun k => nset q (.slice (some ⟨gk, 0, none⟩) m dk) (.slice (some ⟨gv, 0, none⟩) m dv) (.slice bc 0 dc) k ∨ w.heap.size ≤ k) := fun k h => .inl h
  have kC5 : Chg (fun k => nset n (.slice ak nk ck) (.slice av nv cv) (.slice (some ⟨gc, 0, none⟩) nc cc) k ∨ nset q (.slice (some ⟨gk, 0, none⟩) m dk) (.slice (some ⟨gv, 0, none⟩) m dv) (.slice bc 0 dc) k) w W5 := kW5.mono fun _ h => h.elim
  have w5c2 := nQ5.c2
  replace hW5 := Hid.mk' hW5
  replace hr := Hid.mk' hr
  replace kW5 := Hid.mk' kW5
  replace nN5 := Hid.mk' nN5
  replace nQ5 := Hid.mk' nQ5
  replace nR5 := Hid.mk' nR5
  replace aNQ5 := Hid.mk' aNQ5
  replace aNR5 := Hid.mk' aNR5
  replace aQR5 := Hid.mk' aQR5
  replace sN5 := Hid.mk' sN5
  replace sQ5 := Hid.mk' sQ5
  replace sR5 := Hid.mk' sR5
  replace kC5 := Hid.mk' kC5
  clear qc0 qc1 hc2 hci
  go_upto_region 5 with (go_at_call 25; refine (leaf_yes q _ _ _ w5c2).mono ?_; rintro e w' ⟨rfl, rfl⟩)
  clear w5c2
  have w1 : IntKind.i64.wrap ((d : Int) - 1) = (d : Int) - 1 := by rw [IntKind.wrap_i64]; omega
  have w2 : (0 : Int) ≤ (d : Int) - 1 := by omega
  have w3' : (1 : Int) ≤ (d : Int) := by omega
  have w4' : ((d : Int) - 1).toNat = d - 1 := by omega
  have w5 : (d : Int) - 1 < (m : Int) := by omega
  have nc0 := nN5.out.c0
  have nblk := Hid.mk' nN5.out.blk
  have qc0 := nQ5.out.c0
  have ec0 : W5.cell? ⟨gk, d - 1, none⟩ = some (.string x) := by
    obtain ⟨_, h, _, hc, _⟩ := nQ5.out.rk.at (by have := hkk'.out; simp; omega)
    cases h
    exact hc _ _ ex0.out
  have R0 := Hid.mk' nN5.out.rk
  have li0 : Hid (i ≤ (ks.map sv).length) := by show i ≤ _; have := hl2.out; have := hl1.out; simp; omega
  have lt0 : Hid ((ks.map sv).length ≤ 1048576) := by show _ ≤ _; have := hl1.out; simp; omega
  have ne0 : Hid (¬ own (.slice ak nk ck) W5.heap.size) := fun h => by have := R0.out.lt h; omega
  have nn0 : Hid (¬ own (.slice ak nk ck) n) := R0.out.ne nblk.out (by decide)
  have nq0 : Hid (¬ own (.slice ak nk ck) q) := R0.out.ne nQ5.out.blk (by decide)
  have ng0 : Hid (¬ own (.slice ak nk ck) gk) := fun h => aNQ5.out gk (.inr (.inl h)) (.inr (.inl rfl))
  refine start_ (n := 19) (S := fun w' => w'.cell? ⟨n, 0, none⟩ = some (.slice ak nk ck) ∧ w'.cell? ⟨q, 0, none⟩ = some (.slice (some ⟨gk, 0, none⟩) m dk) ∧ w'.cell? ⟨gk, d - 1, none⟩ = some (.string x)) (ds := [18]) #[false, false, false, false, false, false, false, false, false, false, false, false, false, false, false, false, false, false, false] (by kernel_rfl) rfl rfl ⟨nc0, qc0, ec0⟩ (fun hHeld => ?_)
  refine pure_ (i := 0) (N := some 54) (v := ?_) (a' := ?_) #[true, false, false, false, false, false, false, false, false, false, false, false, false, false, false, false, false, false, false] rfl rfl (by kernel_rfl) (fun _ _ _ h => h) (Or.inl ⟨by rfl, ?_⟩) ?_ ?_
  rotate_left
  · intro w'
    go_simp
    with_reducible rfl
  rotate_left
  · simp only [Act.put, List.setIfInBounds_toArray, List.set_cons_zero, List.set_cons_succ, i64_w, i32_w]
    rfl
  refine pure_ (i := 1) (N := some 55) (v := ?_) (a' := ?_) #[true, true, false, false, false, false, false, false, false, false, false, false, false, false, false, false, false, false, false] rfl rfl (by kernel_rfl) (fun _ _ _ h => h) (Or.inl ⟨by rfl, ?_⟩) ?_ ?_
  rotate_left
  · intro w'
    go_simp
    with_reducible rfl
  rotate_left
  · simp only [Act.put, List.setIfInBounds_toArray, List.set_cons_zero, List.set_cons_succ, i64_w, i32_w]
    rfl
  refine pure_ (i := 2) (N := some 56) (v := ?_) (a' := ?_) #[true, true, true, false, false, false, false, false, false, false, false, false, false, false, false, false, false, false, false] rfl rfl (by kernel_rfl) (fun _ _ _ h => h) (Or.inl ⟨by rfl, ?_⟩) ?_ ?_
  rotate_left
  · intro w'
    go_simp
    with_reducible rfl
  rotate_left
  · simp only [Act.put, List.setIfInBounds_toArray, List.set_cons_zero, List.set_cons_succ, i64_w, i32_w]
    rfl
  refine pure_ (i := 3) (N := some 57) (v := ?_) (a' := ?_) #[true, true, true, true, false, false, false, false, false, false, false, false, false, false, false, false, false, false, false] rfl rfl (by kernel_rfl) (fun _ _ _ h => h) (Or.inl ⟨by rfl, ?_⟩) ?_ ?_
  rotate_left
  · intro w'
    go_simp
    with_reducible rfl
  rotate_left
  · simp only [Act.put, List.setIfInBounds_toArray, List.set_cons_zero, List.set_cons_succ, i64_w, i32_w]
    rfl
  refine pure_ (i := 5) (N := some 59) (v := ?_) (a' := ?_) #[true, true, true, true, false, true, false, false, false, false, false, false, false, false, false, false, false, false, false] rfl rfl (by kernel_rfl) (fun _ _ _ h => h) (Or.inl ⟨by rfl, ?_⟩) ?_ ?_
  rotate_left
  · intro w'
    go_simp
    with_reducible rfl
  rotate_left
  · simp only [Act.put, List.setIfInBounds_toArray, List.set_cons_zero, List.set_cons_succ, i64_w, i32_w]
    rfl
  refine pure_ (i := 6) (N := some 60) (v := ?_) (a' := ?_) #[true, true, true, true, false, true, true, false, false, false, false, false, false, false, false, false, false, false, false] rfl rfl (by kernel_rfl) (fun _ _ _ h => h) (Or.inl ⟨by rfl, ?_⟩) ?_ ?_
  rotate_left
  · intro w'
    go_simp
    with_reducible rfl
  rotate_left
  · simp only [Act.put, List.setIfInBounds_toArray, List.set_cons_zero, List.set_cons_succ, i64_w, i32_w]
    rfl
  refine pure_ (i := 7) (N := some 61) (v := ?_) (a' := ?_) #[true, true, true, true, false, true, true, true, false, false, false, false, false, false, false, false, false, false, false] rfl rfl (by kernel_rfl) (fun _ _ _ h => h) (Or.inl ⟨by rfl, ?_⟩) ?_ ?_
  rotate_left
  · intro w'
    go_simp
    with_reducible rfl
  rotate_left
  · simp only [Act.put, List.setIfInBounds_toArray, List.set_cons_zero, List.set_cons_succ, i64_w, i32_w]
    rfl
  refine pure_ (i := 8) (N := some 62) (v := ?_) (a' := ?_) #[true, true, true, true, false, true, true, true, true, false, false, false, false, false, false, false, false, false, false] rfl rfl (by kernel_rfl) (fun _ _ _ h => h) (Or.inl ⟨by rfl, ?_⟩) ?_ ?_
  rotate_left
  · intro w'
    go_simp
    with_reducible rfl
  rotate_left
  · simp only [Act.put, List.setIfInBounds_toArray, List.set_cons_zero, List.set_cons_succ, i64_w, i32_w]
    rfl
  refine pure_ (i := 10) (N := some 64) (v := ?_) (a' := ?_) #[true, true, true, true, false, true, true, true, true, false, true, false, false, false, false, false, false, false, false] rfl rfl (by kernel_rfl) (fun _ _ _ h => h) (Or.inl ⟨by rfl, ?_⟩) ?_ ?_
  rotate_left
  · intro w'
    go_simp
    with_reducible rfl
  rotate_left
  · simp only [Act.put, List.setIfInBounds_toArray, List.set_cons_zero, List.set_cons_succ, i64_w, i32_w]
    rfl
  refine pure_ (i := 11) (N := some 65) (v := ?_) (a' := ?_) #[true, true, true, true, false, true, true, true, true, false, true, true, false, false, false, false, false, false, false] rfl rfl (by kernel_rfl) (fun _ _ _ h => h) (Or.inl ⟨by rfl, ?_⟩) ?_ ?_
  rotate_left
  · intro w'
    go_simp
    with_reducible rfl
  rotate_left
  · simp only [Act.put, List.setIfInBounds_toArray, List.set_cons_zero, List.set_cons_succ, i64_w, i32_w]
    rfl
  refine take_ (i := 4) (N := some 58) (v := ?_) (a' := ?_) #[true, true, true, true, true, true, true, true, true, false, true, true, false, false, false, false, false, false, false] rfl rfl (by kernel_rfl) (fun _ _ _ h => h) (Or.inl ⟨by rfl, ?_⟩) hHeld ?_ ?_
  rotate_left
  · rintro w' ⟨s0, s1, s2⟩
    go_simp
    with_reducible rfl
  rotate_left
  · simp only [Act.put, List.setIfInBounds_toArray, List.set_cons_zero, List.set_cons_succ, i64_w, i32_w]
    rfl
  refine take_ (i := 9) (N := some 63) (v := ?_) (a' := ?_) #[true, true, true, true, true, true, true, true, true, true, true, true, false, false, false, false, false, false, false] rfl rfl (by kernel_rfl) (fun _ _ _ h => h) (Or.inl ⟨by rfl, ?_⟩) hHeld ?_ ?_
  rotate_left
  · rintro w' ⟨s0, s1, s2⟩
    go_simp
    with_reducible rfl
  rotate_left
  · simp only [Act.put, List.setIfInBounds_toArray, List.set_cons_zero, List.set_cons_succ, i64_w, i32_w]
    rfl
  refine pure_ (i := 12) (N := some 66) (v := ?_) (a' := ?_) #[true, true, true, true, true, true, true, true, true, true, true, true, true, false, false, false, false, false, false] rfl rfl (by kernel_rfl) (fun _ _ _ h => h) (Or.inl ⟨by rfl, ?_⟩) ?_ ?_
  rotate_left
  · intro w'
    go_simp
    with_reducible rfl
  rotate_left
  · simp only [Act.put, List.setIfInBounds_toArray, List.set_cons_zero, List.set_cons_succ, i64_w, i32_w]
    rfl
  refine take_ (i := 13) (N := some 67) (v := ?_) (a' := ?_) #[true, true, true, true, true, true, true, true, true, true, true, true, true, true, false, false, false, false, false] rfl rfl (by kernel_rfl) (fun _ _ _ h => h) (Or.inl ⟨by rfl, ?_⟩) hHeld ?_ ?_
  rotate_left
  · rintro w' ⟨s0, s1, s2⟩
    go_simp
    with_reducible rfl
  rotate_left
  · simp only [Act.put, List.setIfInBounds_toArray, List.set_cons_zero, List.set_cons_succ, i64_w, i32_w]
    rfl
  refine one_ (i := 14) (N := some 68) #[true, true, true, true, true, true, true, true, true, true, true, true, true, true, true, false, false, false, false] rfl rfl (by kernel_rfl) (by decide) (fun K hK => ?_)
  refine value_ (w1 := ?_) (v := ?_) (by rfl) rfl ?_ ?_
  rotate_left 2
  · go_simp
    constructor
    · rfl
    · rfl
  refine hK.out _ _ ⟨(by show World.cell? (World.alloc W5 _) _ = _; exact Lib.cell?_alloc_some _ nc0), (by show World.cell? (World.alloc W5 _) _ = _; exact Lib.cell?_alloc_some _ qc0), (by show World.cell? (World.alloc W5 _) _ = _; exact Lib.cell?_alloc_some _ ec0)⟩ (fun hHeld => ?_)
  clear hK K
  refine norm_ (a' := ?_) ?_ ?_
  rotate_left
  · show Act.put _ (some 68) _ = _
    simp only [Act.put, List.setIfInBounds_toArray, List.set_cons_zero, List.set_cons_succ, i64_w, i32_w]
    rfl
  refine one_ (i := 15) (N := some 69) #[true, true, true, true, true, true, true, true, true, true, true, true, true, true, true, true, false, false, false] rfl rfl (by kernel_rfl) (by decide) (fun K hK => ?_)
  refine goes_ Try.func46 (by kernel_rfl) rfl #[.slice ak nk ck, .int .i64 i, .slice (some ⟨W5.heap.size, 0, none⟩) 1 1] (by rfl) rfl rfl (by simp only [List.map_toArray, List.map_cons, List.map_nil]; rfl) ?_
  with_reducible refine (insS (.slice ak nk ck) i i W5.heap.size (.string x) (ks.map sv) _ (by first | exact Row.alD R0.out _ | exact Row.al R0.out _) li0.out rfl (by first | exact Row.litD W5 9 (.string x) | exact Row.lit W5 9 (.string x)) ne0.out rfl (map_sv_cell _) lt0.out).mono ?_
  rintro e w6 ⟨v5, rfl, r5, o5, k5⟩
  refine ⟨_, rfl, ?_⟩
  replace k5 : Chg (own (.slice ak nk ck)) W5 w6 := by first | exact Chg.of_allocD k5 | exact Chg.of_alloc k5
  replace o5 : ∀ k, own v5 k → own (.slice ak nk ck) k ∨ (W5.heap.size ≤ k ∧ k < w6.heap.size) := fun k hk => (o5 k hk).imp id (fun h => ⟨Nat.le_trans (by simp) h.1, h.2⟩)
  obtain ⟨ak', nk', ck', rfl, l5⟩ := r5.form'
  have nc0' := k5.cell (p := ⟨n, 0, none⟩) nn0.out nc0
  have nf0' : w6.frozen? ⟨n, 0, none⟩ = false := (frozen_of_row _ n 0 _ _ (k5.heap nn0.out nblk.out))
  replace r5 := Hid.mk' r5
  replace o5 := Hid.mk' o5
  replace k5 := Hid.mk' k5
  refine hK.out _ _ ⟨nc0', (k5.out.cell (p := ⟨q, 0, none⟩) nq0.out qc0), (k5.out.cell (p := ⟨gk, d - 1, none⟩) ng0.out ec0)⟩ (fun hHeld => ?_)
  clear hK K
  refine norm_ (a' := ?_) ?_ ?_
  rotate_left
  · show Act.put _ (some 69) _ = _
    simp only [Act.put, List.setIfInBounds_toArray, List.set_cons_zero, List.set_cons_succ, i64_w, i32_w]
    rfl
  refine pure_ (i := 16) (N := some 70) (v := ?_) (a' := ?_) #[true, true, true, true, true, true, true, true, true, true, true, true, true, true, true, true, true, false, false] rfl rfl (by kernel_rfl) (fun _ _ _ h => h) (Or.inl ⟨by rfl, ?_⟩) ?_ ?_
  rotate_left
  · intro w'
    go_simp
    with_reducible rfl
  rotate_left
  · simp only [Act.put, List.setIfInBounds_toArray, List.set_cons_zero, List.set_cons_succ, i64_w, i32_w]
    rfl
  refine pure_ (i := 17) (N := some 71) (v := ?_) (a' := ?_) #[true, true, true, true, true, true, true, true, true, true, true, true, true, true, true, true, true, true, false] rfl rfl (by kernel_rfl) (fun _ _ _ h => h) (Or.inl ⟨by rfl, ?_⟩) ?_ ?_
  rotate_left
  · intro w'
    go_simp
    with_reducible rfl
  rotate_left
  · simp only [Act.put, List.setIfInBounds_toArray, List.set_cons_zero, List.set_cons_succ, i64_w, i32_w]
    rfl
  refine last_ (i := 18) (N := none) #[true, true, true, true, true, true, true, true, true, true, true, true, true, true, true, true, true, true, true] rfl rfl (by kernel_rfl) (by decide) (fun K hK => ?_)
  refine skip_ (w1 := ?_) (by rfl) rfl ?_ ?_
  rotate_left
  · go_simp
    rfl
  refine hK.out _ _ ?_
  clear hK K
  refine done_ (by kernel_rfl) ?_

  go_upto_region 6 with (fail)
  obtain ⟨W6, hW6⟩ : ∃ W6, W6 = w6.setCell ⟨n, 0, none⟩ (.slice ak' nk' ck') := ⟨_, rfl⟩
  rw [← hW6]
  obtain ⟨nN6, kk6⟩ := nN5.out.step0 (k5.out) (show Row _ _ (.slice ak' nk' ck') ((ks.take i ++ x :: ks.drop i).map sv) from (by have := r5.out; rwa [show ((ks.map sv).take i ++ .string x :: (ks.map sv).drop i) = ((ks.take i ++ x :: ks.drop i).map sv) from by simp [sv]] at this))
  rw [← hW6] at nN6 kk6
  have nQ6 := nQ5.out.chg kk6 (aNQ5.out.symm)
  have nR6 := nR5.out.chg kk6 (aNR5.out.symm)
  have aNQ6 := apart0 (o5.out) (aNQ5.out) nQ5.out.lt
  have aNR6 := apart0 (o5.out) (aNR5.out) nR5.out.lt
  have aQR6 := aQR5.out
  have sN6 := nset0 (o5.out) sN5.out (fun k h => .inr (Nat.le_trans kC5.out.size h))
  have sQ6 := sQ5.out
  have sR6 := sR5.out
  have kC6 := kC5.out.trans' kk6 (fun k h => (sN5.out k h).imp .inl id)
  replace hW6 := Hid.mk' hW6
  replace nN6 := Hid.mk' nN6
  replace nQ6 := Hid.mk' nQ6
  replace nR6 := Hid.mk' nR6
  replace aNQ6 := Hid.mk' aNQ6
  replace aNR6 := Hid.mk' aNR6
  replace aQR6 := Hid.mk' aQR6
  replace sN6 := Hid.mk' sN6
  replace sQ6 := Hid.mk' sQ6
  replace sR6 := Hid.mk' sR6
  replace kC6 := Hid.mk' kC6
  replace kk6 := Hid.mk' kk6
  clear nc0 qc0 ec0 nc0' nf0'
  have nc1 := nN6.out.c1
  have nblk := Hid.mk' nN6.out.blk
  have qc1 := nQ6.out.c1
  have ec1 : W6.cell? ⟨gv, d - 1, none⟩ = some (.int .i64 y) := by
    obtain ⟨_, h, _, hc, _⟩ := nQ6.out.rv.at (by have := hkv'.out; simp; omega)
    cases h
    exact hc _ _ ex1.out
  have R1 := Hid.mk' nN6.out.rv
  have li1 : Hid (i ≤ (vs.map iv).length) := by show i ≤ _; have := hl2.out; have := hl1.out; simp; omega
  have lt1 : Hid ((vs.map iv).length ≤ 1048576) := by show _ ≤ _; have := hl1.out; simp; omega
  have ne1 : Hid (¬ own (.slice av nv cv) W6.heap.size) := fun h => by have := R1.out.lt h; omega
  have nn1 : Hid (¬ own (.slice av nv cv) n) := R1.out.ne nblk.out (by decide)
  have nq1 : Hid (¬ own (.slice av nv cv) q) := R1.out.ne nQ6.out.blk (by decide)
  have ng1 : Hid (¬ own (.slice av nv cv) gv) := fun h => aNQ6.out gv (.inr (.inr (.inl h))) (.inr (.inr (.inl rfl)))
  refine start_ (n := 19) (S := fun w' => w'.cell? ⟨n, 1, none⟩ = some (.slice av nv cv) ∧ w'.cell? ⟨q, 1, none⟩ = some (.slice (some ⟨gv, 0, none⟩) m dv) ∧ w'.cell? ⟨gv, d - 1, none⟩ = some (.int .i64 y)) (ds := [18]) #[false, false, false, false, false, false, false, false, false, false, false, false, false, false, false, false, false, false, false] (by kernel_rfl) rfl rfl ⟨nc1, qc1, ec1⟩ (fun hHeld => ?_)
  refine pure_ (i := 0) (N := some 72) (v := ?_) (a' := ?_) #[true, false, false, false, false, false, false, false, false, false, false, false, false, false, false, false, false, false, false] rfl rfl (by kernel_rfl) (fun _ _ _ h => h) (Or.inl ⟨by rfl, ?_⟩) ?_ ?_
  rotate_left
  · intro w'
    go_simp
    with_reducible rfl
  rotate_left
  · simp only [Act.put, List.setIfInBounds_toArray, List.set_cons_zero, List.set_cons_succ, i64_w, i32_w]
    rfl
  refine pure_ (i := 1) (N := some 73) (v := ?_) (a' := ?_) #[true, true, false, false, false, false, false, false, false, false, false, false, false, false, false, false, false, false, false] rfl rfl (by kernel_rfl) (fun _ _ _ h => h) (Or.inl ⟨by rfl, ?_⟩) ?_ ?_
  rotate_left
  · intro w'
    go_simp
    with_reducible rfl
  rotate_left
  · simp only [Act.put, List.setIfInBounds_toArray, List.set_cons_zero, List.set_cons_succ, i64_w, i32_w]
    rfl
  refine pure_ (i := 2) (N := some 74) (v := ?_) (a' := ?_) #[true, true, true, false, false, false, false, false, false, false, false, false, false, false, false, false, false, false, false] rfl rfl (by kernel_rfl) (fun _ _ _ h => h) (Or.inl ⟨by rfl, ?_⟩) ?_ ?_
  rotate_left
  · intro w'
    go_simp
    with_reducible rfl
  rotate_left
  · simp only [Act.put, List.setIfInBounds_toArray, List.set_cons_zero, List.set_cons_succ, i64_w, i32_w]
    rfl
  refine pure_ (i := 3) (N := some 75) (v := ?_) (a' := ?_) #[true, true, true, true, false, false, false, false, false, false, false, false, false, false, false, false, false, false, false] rfl rfl (by kernel_rfl) (fun _ _ _ h => h) (Or.inl ⟨by rfl, ?_⟩) ?_ ?_
  rotate_left
  · intro w'
    go_simp
    with_reducible rfl
  rotate_left
  · simp only [Act.put, List.setIfInBounds_toArray, List.set_cons_zero, List.set_cons_succ, i64_w, i32_w]
    rfl
  refine pure_ (i := 5) (N := some 77) (v := ?_) (a' := ?_) #[true, true, true, true, false, true, false, false, false, false, false, false, false, false, false, false, false, false, false] rfl rfl (by kernel_rfl) (fun _ _ _ h => h) (Or.inl ⟨by rfl, ?_⟩) ?_ ?_
  rotate_left
  · intro w'
    go_simp
    with_reducible rfl
  rotate_left
  · simp only [Act.put, List.setIfInBounds_toArray, List.set_cons_zero, List.set_cons_succ, i64_w, i32_w]
    rfl
  refine pure_ (i := 6) (N := some 78) (v := ?_) (a' := ?_) #[true, true, true, true, false, true, true, false, false, false, false, false, false, false, false, false, false, false, false] rfl rfl (by kernel_rfl) (fun _ _ _ h => h) (Or.inl ⟨by rfl, ?_⟩) ?_ ?_
  rotate_left
  · intro w'
    go_simp
    with_reducible rfl
  rotate_left
  · simp only [Act.put, List.setIfInBounds_toArray, List.set_cons_zero, List.set_cons_succ, i64_w, i32_w]
    rfl
  refine pure_ (i := 7) (N := some 79) (v := ?_) (a' := ?_) #[true, true, true, true, false, true, true, true, false, false, false, false, false, false, false, false, false, false, false] rfl rfl (by kernel_rfl) (fun _ _ _ h => h) (Or.inl ⟨by rfl, ?_⟩) ?_ ?_
  rotate_left
  · intro w'
    go_simp
    with_reducible rfl
  rotate_left
  · simp only [Act.put, List.setIfInBounds_toArray, List.set_cons_zero, List.set_cons_succ, i64_w, i32_w]
    rfl
  refine pure_ (i := 8) (N := some 80) (v := ?_) (a' := ?_) #[true, true, true, true, false, true, true, true, true, false, false, false, false, false, false, false, false, false, false] rfl rfl (by kernel_rfl) (fun _ _ _ h => h) (Or.inl ⟨by rfl, ?_⟩) ?_ ?_
  rotate_left
  · intro w'
    go_simp
    with_reducible rfl
  rotate_left
  · simp only [Act.put, List.setIfInBounds_toArray, List.set_cons_zero, List.set_cons_succ, i64_w, i32_w]
    rfl
  refine pure_ (i := 10) (N := some 82) (v := ?_) (a' := ?_) #[true, true, true, true, false, true, true, true, true, false, true, false, false, false, false, false, false, false, false] rfl rfl (by kernel_rfl) (fun _ _ _ h => h) (Or.inl ⟨by rfl, ?_⟩) ?_ ?_
  rotate_left
  · intro w'
    go_simp
    with_reducible rfl
  rotate_left
  · simp only [Act.put, List.setIfInBounds_toArray, List.set_cons_zero, List.set_cons_succ, i64_w, i32_w]
    rfl
  refine pure_ (i := 11) (N := some 83) (v := ?_) (a' := ?_) #[true, true, true, true, false, true, true, true, true, false, true, true, false, false, false, false, false, false, false] rfl rfl (by kernel_rfl) (fun _ _ _ h => h) (Or.inl ⟨by rfl, ?_⟩) ?_ ?_
  rotate_left
  · intro w'
    go_simp
    with_reducible rfl
  rotate_left
  · simp only [Act.put, List.setIfInBounds_toArray, List.set_cons_zero, List.set_cons_succ, i64_w, i32_w]
    rfl
  refine take_ (i := 4) (N := some 76) (v := ?_) (a' := ?_) #[true, true, true, true, true, true, true, true, true, false, true, true, false, false, false, false, false, false, false] rfl rfl (by kernel_rfl) (fun _ _ _ h => h) (Or.inl ⟨by rfl, ?_⟩) hHeld ?_ ?_
  rotate_left
  · rintro w' ⟨s0, s1, s2⟩
    go_simp
    with_reducible rfl
  rotate_left
  · simp only [Act.put, List.setIfInBounds_toArray, List.set_cons_zero, List.set_cons_succ, i64_w, i32_w]
    rfl
  refine take_ (i := 9) (N := some 81) (v := ?_) (a' := ?_) #[true, true, true, true, true, true, true, true, true, true, true, true, false, false, false, false, false, false, false] rfl rfl (by kernel_rfl) (fun _ _ _ h => h) (Or.inl ⟨by rfl, ?_⟩) hHeld ?_ ?_
  rotate_left
  · rintro w' ⟨s0, s1, s2⟩
    go_simp
    with_reducible rfl
  rotate_left
  · simp only [Act.put, List.setIfInBounds_toArray, List.set_cons_zero, List.set_cons_succ, i64_w, i32_w]
    rfl
  refine pure_ (i := 12) (N := some 84) (v := ?_) (a' := ?_) #[true, true, true, true, true, true, true, true, true, true, true, true, true, false, false, false, false, false, false] rfl rfl (by kernel_rfl) (fun _ _ _ h => h) (Or.inl ⟨by rfl, ?_⟩) ?_ ?_
  rotate_left
  · intro w'
    go_simp
    with_reducible rfl
  rotate_left
  · simp only [Act.put, List.setIfInBounds_toArray, List.set_cons_zero, List.set_cons_succ, i64_w, i32_w]
    rfl
  refine take_ (i := 13) (N := some 85) (v := ?_) (a' := ?_) #[true, true, true, true, true, true, true, true, true, true, true, true, true, true, false, false, false, false, false] rfl rfl (by kernel_rfl) (fun _ _ _ h => h) (Or.inl ⟨by rfl, ?_⟩) hHeld ?_ ?_
  rotate_left
  · rintro w' ⟨s0, s1, s2⟩
    go_simp
    with_reducible rfl
  rotate_left
  · simp only [Act.put, List.setIfInBounds_toArray, List.set_cons_zero, List.set_cons_succ, i64_w, i32_w]
    rfl
  refine one_ (i := 14) (N := some 86) #[true, true, true, true, true, true, true, true, true, true, true, true, true, true, true, false, false, false, false] rfl rfl (by kernel_rfl) (by decide) (fun K hK => ?_)
  refine value_ (w1 := ?_) (v := ?_) (by rfl) rfl ?_ ?_
  rotate_left 2
  · go_simp
    constructor
    · rfl
    · rfl
  refine hK.out _ _ ⟨(by show World.cell? (World.alloc W6 _) _ = _; exact Lib.cell?_alloc_some _ nc1), (by show World.cell? (World.alloc W6 _) _ = _; exact Lib.cell?_alloc_some _ qc1), (by show World.cell? (World.alloc W6 _) _ = _; exact Lib.cell?_alloc_some _ ec1)⟩ (fun hHeld => ?_)
  clear hK K
  refine norm_ (a' := ?_) ?_ ?_
  rotate_left
  · show Act.put _ (some 86) _ = _
    simp only [Act.put, List.setIfInBounds_toArray, List.set_cons_zero, List.set_cons_succ, i64_w, i32_w]
    rfl
  refine one_ (i := 15) (N := some 87) #[true, true, true, true, true, true, true, true, true, true, true, true, true, true, true, true, false, false, false] rfl rfl (by kernel_rfl) (by decide) (fun K hK => ?_)
  refine goes_ Try.func47 (by kernel_rfl) rfl #[.slice av nv cv, .int .i64 i, .slice (some ⟨W6.heap.size, 0, none⟩) 1 1] (by rfl) rfl rfl (by simp only [List.map_toArray, List.map_cons, List.map_nil]; rfl) ?_
  with_reducible refine (insI (.slice av nv cv) i i W6.heap.size (.int .i64 y) (vs.map iv) _ (by first | exact Row.alD R1.out _ | exact Row.al R1.out _) li1.out rfl (by first | exact Row.litD W6 3 (.int .i64 y) | exact Row.lit W6 3 (.int .i64 y)) ne1.out rfl (map_iv_cell _) lt1.out).mono ?_
  rintro e w7 ⟨v6, rfl, r6, o6, k6⟩
  refine ⟨_, rfl, ?_⟩
  replace k6 : Chg (own (.slice av nv cv)) W6 w7 := by first | exact Chg.of_allocD k6 | exact Chg.of_alloc k6
  replace o6 : ∀ k, own v6 k → own (.slice av nv cv) k ∨ (W6.heap.size ≤ k ∧ k < w7.heap.size) := fun k hk => (o6 k hk).imp id (fun h => ⟨Nat.le_trans (by simp) h.1, h.2⟩)
  obtain ⟨av', nv', cv', rfl, l6⟩ := r6.form'
  have nc1' := k6.cell (p := ⟨n, 1, none⟩) nn1.out nc1
  have nf1' : w7.frozen? ⟨n, 1, none⟩ = false := (frozen_of_row _ n 1 _ _ (k6.heap nn1.out nblk.out))
  replace r6 := Hid.mk' r6
  replace o6 := Hid.mk' o6
  replace k6 := Hid.mk' k6
  refine hK.out _ _ ⟨nc1', (k6.out.cell (p := ⟨q, 1, none⟩) nq1.out qc1), (k6.out.cell (p := ⟨gv, d - 1, none⟩) ng1.out ec1)⟩ (fun hHeld => ?_)
  clear hK K
  refine norm_ (a' := ?_) ?_ ?_
  rotate_left
  · show Act.put _ (some 87) _ = _
    simp only [Act.put, List.setIfInBounds_toArray, List.set_cons_zero, List.set_cons_succ, i64_w, i32_w]
    rfl
  refine pure_ (i := 16) (N := some 88) (v := ?_) (a' := ?_) #[true, true, true, true, true, true, true, true, true, true, true, true, true, true, true, true, true, false, false] rfl rfl (by kernel_rfl) (fun _ _ _ h => h) (Or.inl ⟨by rfl, ?_⟩) ?_ ?_
  rotate_left
  · intro w'
    go_simp
    with_reducible rfl
  rotate_left
  · simp only [Act.put, List.setIfInBounds_toArray, List.set_cons_zero, List.set_cons_succ, i64_w, i32_w]
    rfl
  refine pure_ (i := 17) (N := some 89) (v := ?_) (a' := ?_) #[true, true, true, true, true, true, true, true, true, true, true, true, true, true, true, true, true, true, false] rfl rfl (by kernel_rfl) (fun _ _ _ h => h) (Or.inl ⟨by rfl, ?_⟩) ?_ ?_
  rotate_left
  · intro w'
    go_simp
    with_reducible rfl
  rotate_left
  · simp only [Act.put, List.setIfInBounds_toArray, List.set_cons_zero, List.set_cons_succ, i64_w, i32_w]
    rfl
  refine last_ (i := 18) (N := none) #[true, true, true, true, true, true, true, true, true, true, true, true, true, true, true, true, true, true, true] rfl rfl (by kernel_rfl) (by decide) (fun K hK => ?_)
  refine skip_ (w1 := ?_) (by rfl) rfl ?_ ?_
  rotate_left
  · go_simp
    rfl
  refine hK.out _ _ ?_
  clear hK K
  refine done_ (by kernel_rfl) ?_

  go_upto_region 7 with (fail)
  obtain ⟨W7, hW7⟩ : ∃ W7, W7 = w7.setCell ⟨n, 1, none⟩ (.slice av' nv' cv') := ⟨_, rfl⟩
  rw [← hW7]
  obtain ⟨nN7, kk7⟩ := nN6.out.step1 (k6.out) (show Row _ _ (.slice av' nv' cv') ((vs.take i ++ y :: vs.drop i).map iv) from (by have := r6.out; rwa [show ((vs.map iv).take i ++ .int .i64 y :: (vs.map iv).drop i) = ((vs.take i ++ y :: vs.drop i).map iv) from by simp [iv]] at this))
  rw [← hW7] at nN7 kk7
  have nQ7 := nQ6.out.chg kk7 (aNQ6.out.symm)
  have nR7 := nR6.out.chg kk7 (aNR6.out.symm)
  have aNQ7 := apart1 (o6.out) (aNQ6.out) nQ6.out.lt
  have aNR7 := apart1 (o6.out) (aNR6.out) nR6.out.lt
  have aQR7 := aQR6.out
  have sN7 := nset1 (o6.out) sN6.out (fun k h => .inr (Nat.le_trans kC6.out.size h))
  have sQ7 := sQ6.out
  have sR7 := sR6.out
  have kC7 := kC6.out.trans' kk7 (fun k h => (sN6.out k h).imp .inl id)
  replace hW7 := Hid.mk' hW7
  replace nN7 := Hid.mk' nN7
  replace nQ7 := Hid.mk' nQ7
  replace nR7 := Hid.mk' nR7
  replace aNQ7 := Hid.mk' aNQ7
  replace aNR7 := Hid.mk' aNR7
  replace aQR7 := Hid.mk' aQR7
  replace sN7 := Hid.mk' sN7
  replace sQ7 := Hid.mk' sQ7
  replace sR7 := Hid.mk' sR7
  replace kC7 := Hid.mk' kC7
  replace kk7 := Hid.mk' kk7
  clear nc1 qc1 ec1 nc1' nf1'
  have nc2 := nN7.out.c2
  have nblk := Hid.mk' nN7.out.blk
  have R2 := Hid.mk' nN7.out.rc
  have li2 : Hid (i + 1 ≤ (bs.map pv).length) := by show _ ≤ _; simp; omega
  have lt2 : Hid ((bs.map pv).length ≤ 1048576) := by show _ ≤ _; have := hl2.out; simp; omega
  have ne2 : Hid (¬ own (.slice (some ⟨gc, 0, none⟩) nc cc) W7.heap.size) := fun h => by have := R2.out.lt h; omega
  have nn2 : Hid (¬ own (.slice (some ⟨gc, 0, none⟩) nc cc) n) := R2.out.ne nblk.out (by decide)
  go_upto_region 8 with (go_at_call 48; refine (insN (.slice (some ⟨gc, 0, none⟩) nc cc) (i + 1) _ W7.heap.size (.pointer (some ⟨r, 0, none⟩)) (bs.map pv) _ (by first | exact Row.alD R2.out _ | exact Row.al R2.out _) li2.out (by omega) (by first | exact Row.litD W7 48 (.pointer (some ⟨r, 0, none⟩)) | exact Row.lit W7 48 (.pointer (some ⟨r, 0, none⟩))) ne2.out rfl (map_pv_cell _) lt2.out).mono ?_; rintro e w8 ⟨v8, rfl, r8, o8, k8⟩; replace k8 : Chg (own (.slice (some ⟨gc, 0, none⟩) nc cc)) W7 w8 := (by first | exact Chg.of_allocD k8 | exact Chg.of_alloc k8); replace o8 : ∀ k, own v8 k → own (.slice (some ⟨gc, 0, none⟩) nc cc) k ∨ (W7.heap.size ≤ k ∧ k < w8.heap.size) := (fun k hk => (o8 k hk).imp id (fun h => ⟨Nat.le_trans (by simp) h.1, h.2⟩)); obtain ⟨ac', nc', cc', rfl, l8⟩ := r8.form'; have nc2' := k8.cell (p := ⟨n, 2, none⟩) nn2.out nc2; have nf2' : w8.frozen? ⟨n, 2, none⟩ = false := (frozen_of_row _ n 2 _ _ (k8.heap nn2.out nblk.out)); replace r8 := Hid.mk' r8; replace o8 := Hid.mk' o8; replace k8 := Hid.mk' k8)
  obtain ⟨W8, hW8⟩ : ∃ W8, W8 = w8.setCell ⟨n, 2, none⟩ (.slice ac' nc' cc') := ⟨_, rfl⟩
  rw [← hW8]
  obtain ⟨nN8, kk8⟩ := nN7.out.step2 (k8.out) (show Row _ _ (.slice ac' nc' cc') ((bs.take (i + 1) ++ r :: bs.drop (i + 1)).map pv) from (by have := r8.out; rwa [show ((bs.map pv).take (i + 1) ++ Value.pointer (some ⟨r, 0, none⟩) :: (bs.map pv).drop (i + 1)) = ((bs.take (i + 1) ++ r :: bs.drop (i + 1)).map pv) from by simp [pv]] at this))
  rw [← hW8] at nN8 kk8
  have nQ8 := nQ7.out.chg kk8 (aNQ7.out.symm)
  have nR8 := nR7.out.chg kk8 (aNR7.out.symm)
  have aNQ8 := apart2 (o8.out) (aNQ7.out) nQ7.out.lt
  have aNR8 := apart2 (o8.out) (aNR7.out) nR7.out.lt
  have aQR8 := aQR7.out
  have sN8 := nset2 (o8.out) sN7.out (fun k h => .inr (Nat.le_trans kC7.out.size h))
  have sQ8 := sQ7.out
  have sR8 := sR7.out
  have kC8 := kC7.out.trans' kk8 (fun k h => (sN7.out k h).imp .inl id)
  replace hW8 := Hid.mk' hW8
  replace nN8 := Hid.mk' nN8
  replace nQ8 := Hid.mk' nQ8
  replace nR8 := Hid.mk' nR8
  replace aNQ8 := Hid.mk' aNQ8
  replace aNR8 := Hid.mk' aNR8
  replace aQR8 := Hid.mk' aQR8
  replace sN8 := Hid.mk' sN8
  replace sQ8 := Hid.mk' sQ8
  replace sR8 := Hid.mk' sR8
  replace kC8 := Hid.mk' kC8
  replace kk8 := Hid.mk' kk8
  clear nc2 nc2' nf2'
  have qc0 := nQ8.out.c0
  have qc1 := nQ8.out.c1
  have qblk := Hid.mk' nQ8.out.blk
  have lk1 : Hid (d - 1 = ((kks.map sv).take (d - 1)).length) := by show d - 1 = _; have := hkk'.out; simp; omega
  have lv1 : Hid (d - 1 = ((kvs.map iv).take (d - 1)).length) := by show d - 1 = _; have := hkv'.out; simp; omega
  have hck1 : Hid (∀ ad, some (⟨gk, 0, none⟩ : Addr) = some ad → ∀ j u, ((kks.map sv).take (d - 1))[j]? = some u → W8.drew.cell? (ad.add j) = some u) := (nQ8.out.rk.head (d - 1) (by omega)).2
  have hcv1 := Hid.mk' (nQ8.out.rv.head (d - 1) (by omega)).2
  have x1 : (d : Int) ≤ (dk : Int) + 1 := by omega
  have x2 : (d : Int) ≤ (dv : Int) + 1 := by omega
  have x3 : (d : Int) - 1 ≤ (dk : Int) := by omega
  have x4 : (d : Int) - 1 ≤ (dv : Int) := by omega
  have x5 : ¬ dk = 0 := by omega
  have x6 : ¬ dv = 0 := by omega
  refine start_ (n := 24) (S := fun w' => w'.cell? ⟨q, 0, none⟩ = some (.slice (some ⟨gk, 0, none⟩) m dk) ∧ w'.cell? ⟨q, 1, none⟩ = some (.slice (some ⟨gv, 0, none⟩) m dv)) (ds := [20, 23]) #[false, false, false, false, false, false, false, false, false, false, false, false, false, false, false, false, false, false, false, false, false, false, false, false] (by kernel_rfl) rfl rfl ⟨qc0, qc1⟩ (fun hHeld => ?_)
  refine pure_ (i := 0) (N := some 102) (v := ?_) (a' := ?_) #[true, false, false, false, false, false, false, false, false, false, false, false, false, false, false, false, false, false, false, false, false, false, false, false] rfl rfl (by kernel_rfl) (fun _ _ _ h => h) (Or.inl ⟨by rfl, ?_⟩) ?_ ?_
  rotate_left
  · intro w'
    go_simp
    with_reducible rfl
  rotate_left
  · simp only [Act.put, List.setIfInBounds_toArray, List.set_cons_zero, List.set_cons_succ, i64_w, i32_w]
    rfl
  refine pure_ (i := 1) (N := some 103) (v := ?_) (a' := ?_) #[true, true, false, false, false, false, false, false, false, false, false, false, false, false, false, false, false, false, false, false, false, false, false, false] rfl rfl (by kernel_rfl) (fun _ _ _ h => h) (Or.inl ⟨by rfl, ?_⟩) ?_ ?_
  rotate_left
  · intro w'
    go_simp
    with_reducible rfl
  rotate_left
  · simp only [Act.put, List.setIfInBounds_toArray, List.set_cons_zero, List.set_cons_succ, i64_w, i32_w]
    rfl
  refine pure_ (i := 2) (N := some 104) (v := ?_) (a' := ?_) #[true, true, true, false, false, false, false, false, false, false, false, false, false, false, false, false, false, false, false, false, false, false, false, false] rfl rfl (by kernel_rfl) (fun _ _ _ h => h) (Or.inl ⟨by rfl, ?_⟩) ?_ ?_
  rotate_left
  · intro w'
    go_simp
    with_reducible rfl
  rotate_left
  · simp only [Act.put, List.setIfInBounds_toArray, List.set_cons_zero, List.set_cons_succ, i64_w, i32_w]
    rfl
  refine pure_ (i := 3) (N := some 105) (v := ?_) (a' := ?_) #[true, true, true, true, false, false, false, false, false, false, false, false, false, false, false, false, false, false, false, false, false, false, false, false] rfl rfl (by kernel_rfl) (fun _ _ _ h => h) (Or.inl ⟨by rfl, ?_⟩) ?_ ?_
  rotate_left
  · intro w'
    go_simp
    with_reducible rfl
  rotate_left
  · simp only [Act.put, List.setIfInBounds_toArray, List.set_cons_zero, List.set_cons_succ, i64_w, i32_w]
    rfl
  refine pure_ (i := 4) (N := some 106) (v := ?_) (a' := ?_) #[true, true, true, true, true, false, false, false, false, false, false, false, false, false, false, false, false, false, false, false, false, false, false, false] rfl rfl (by kernel_rfl) (fun _ _ _ h => h) (Or.inl ⟨by rfl, ?_⟩) ?_ ?_
  rotate_left
  · intro w'
    go_simp
    with_reducible rfl
  rotate_left
  · simp only [Act.put, List.setIfInBounds_toArray, List.set_cons_zero, List.set_cons_succ, i64_w, i32_w]
    rfl
  refine pure_ (i := 6) (N := some 108) (v := ?_) (a' := ?_) #[true, true, true, true, true, false, true, false, false, false, false, false, false, false, false, false, false, false, false, false, false, false, false, false] rfl rfl (by kernel_rfl) (fun _ _ _ h => h) (Or.inl ⟨by rfl, ?_⟩) ?_ ?_
  rotate_left
  · intro w'
    go_simp
    with_reducible rfl
  rotate_left
  · simp only [Act.put, List.setIfInBounds_toArray, List.set_cons_zero, List.set_cons_succ, i64_w, i32_w]
    rfl
  refine pure_ (i := 7) (N := some 109) (v := ?_) (a' := ?_) #[true, true, true, true, true, false, true, true, false, false, false, false, false, false, false, false, false, false, false, false, false, false, false, false] rfl rfl (by kernel_rfl) (fun _ _ _ h => h) (Or.inl ⟨by rfl, ?_⟩) ?_ ?_
  rotate_left
  · intro w'
    go_simp
    with_reducible rfl
  rotate_left
  · simp only [Act.put, List.setIfInBounds_toArray, List.set_cons_zero, List.set_cons_succ, i64_w, i32_w]
    rfl
  refine pure_ (i := 10) (N := some 112) (v := ?_) (a' := ?_) #[true, true, true, true, true, false, true, true, false, false, true, false, false, false, false, false, false, false, false, false, false, false, false, false] rfl rfl (by kernel_rfl) (fun _ _ _ h => h) (Or.inl ⟨by rfl, ?_⟩) ?_ ?_
  rotate_left
  · intro w'
    go_simp
    with_reducible rfl
  rotate_left
  · simp only [Act.put, List.setIfInBounds_toArray, List.set_cons_zero, List.set_cons_succ, i64_w, i32_w]
    rfl
  refine pure_ (i := 11) (N := some 113) (v := ?_) (a' := ?_) #[true, true, true, true, true, false, true, true, false, false, true, true, false, false, false, false, false, false, false, false, false, false, false, false] rfl rfl (by kernel_rfl) (fun _ _ _ h => h) (Or.inl ⟨by rfl, ?_⟩) ?_ ?_
  rotate_left
  · intro w'
    go_simp
    with_reducible rfl
  rotate_left
  · simp only [Act.put, List.setIfInBounds_toArray, List.set_cons_zero, List.set_cons_succ, i64_w, i32_w]
    rfl
  refine pure_ (i := 12) (N := some 114) (v := ?_) (a' := ?_) #[true, true, true, true, true, false, true, true, false, false, true, true, true, false, false, false, false, false, false, false, false, false, false, false] rfl rfl (by kernel_rfl) (fun _ _ _ h => h) (Or.inl ⟨by rfl, ?_⟩) ?_ ?_
  rotate_left
  · intro w'
    go_simp
    with_reducible rfl
  rotate_left
  · simp only [Act.put, List.setIfInBounds_toArray, List.set_cons_zero, List.set_cons_succ, i64_w, i32_w]
    rfl
  refine pure_ (i := 14) (N := some 116) (v := ?_) (a' := ?_) #[true, true, true, true, true, false, true, true, false, false, true, true, true, false, true, false, false, false, false, false, false, false, false, false] rfl rfl (by kernel_rfl) (fun _ _ _ h => h) (Or.inl ⟨by rfl, ?_⟩) ?_ ?_
  rotate_left
  · intro w'
    go_simp
    with_reducible rfl
  rotate_left
  · simp only [Act.put, List.setIfInBounds_toArray, List.set_cons_zero, List.set_cons_succ, i64_w, i32_w]
    rfl
  refine pure_ (i := 15) (N := some 117) (v := ?_) (a' := ?_) #[true, true, true, true, true, false, true, true, false, false, true, true, true, false, true, true, false, false, false, false, false, false, false, false] rfl rfl (by kernel_rfl) (fun _ _ _ h => h) (Or.inl ⟨by rfl, ?_⟩) ?_ ?_
  rotate_left
  · intro w'
    go_simp
    with_reducible rfl
  rotate_left
  · simp only [Act.put, List.setIfInBounds_toArray, List.set_cons_zero, List.set_cons_succ, i64_w, i32_w]
    rfl
  refine take_ (i := 5) (N := some 107) (v := ?_) (a' := ?_) #[true, true, true, true, true, true, true, true, false, false, true, true, true, false, true, true, false, false, false, false, false, false, false, false] rfl rfl (by kernel_rfl) (fun _ _ _ h => h) (Or.inl ⟨by rfl, ?_⟩) hHeld ?_ ?_
  rotate_left
  · rintro w' ⟨s0, s1⟩
    go_simp
    with_reducible rfl
  rotate_left
  · simp only [Act.put, List.setIfInBounds_toArray, List.set_cons_zero, List.set_cons_succ, i64_w, i32_w]
    rfl
  refine pure_ (i := 8) (N := some 110) (v := ?_) (a' := ?_) #[true, true, true, true, true, true, true, true, true, false, true, true, true, false, true, true, false, false, false, false, false, false, false, false] rfl rfl (by kernel_rfl) (fun _ _ _ h => h) (Or.inl ⟨by rfl, ?_⟩) ?_ ?_
  rotate_left
  · intro w'
    go_simp
    with_reducible rfl
  rotate_left
  · simp only [Act.put, List.setIfInBounds_toArray, List.set_cons_zero, List.set_cons_succ, i64_w, i32_w]
    rfl
  refine take_ (i := 13) (N := some 115) (v := ?_) (a' := ?_) #[true, true, true, true, true, true, true, true, true, false, true, true, true, true, true, true, false, false, false, false, false, false, false, false] rfl rfl (by kernel_rfl) (fun _ _ _ h => h) (Or.inl ⟨by rfl, ?_⟩) hHeld ?_ ?_
  rotate_left
  · rintro w' ⟨s0, s1⟩
    go_simp
    with_reducible rfl
  rotate_left
  · simp only [Act.put, List.setIfInBounds_toArray, List.set_cons_zero, List.set_cons_succ, i64_w, i32_w]
    rfl
  refine pure_ (i := 16) (N := some 118) (v := ?_) (a' := ?_) #[true, true, true, true, true, true, true, true, true, false, true, true, true, true, true, true, true, false, false, false, false, false, false, false] rfl rfl (by kernel_rfl) (fun _ _ _ h => h) (Or.inl ⟨by rfl, ?_⟩) ?_ ?_
  rotate_left
  · intro w'
    go_simp
    with_reducible rfl
  rotate_left
  · simp only [Act.put, List.setIfInBounds_toArray, List.set_cons_zero, List.set_cons_succ, i64_w, i32_w]
    rfl
  refine one_ (i := 9) (N := some 111) #[true, true, true, true, true, true, true, true, true, true, true, true, true, true, true, true, true, false, false, false, false, false, false, false] rfl rfl (by kernel_rfl) (by decide) (fun K hK => ?_)
  refine goes_ Try.func43 (by kernel_rfl) rfl #[.slice (some ⟨gk, 0, none⟩) (d - 1) dk] (by rfl) rfl rfl (by simp only [List.map_toArray, List.map_cons, List.map_nil]; rfl) ?_
  with_reducible refine (cloneS (some ⟨gk, 0, none⟩) (d - 1) dk ((kks.map sv).take (d - 1)) _ (lk1.out) (by simp) hck1.out (fun u hu => map_sv_cell kks u (List.mem_of_mem_take hu)) (by have := lk1.out; omega)).mono ?_
  rintro e w9 ⟨v9, rfl, r9, o9, k9⟩
  refine ⟨_, rfl, ?_⟩
  replace k9 := k9.undrew
  obtain ⟨a9, n9, c9, rfl, l9⟩ := r9.form'
  replace r9 := Hid.mk' r9
  replace o9 : Hid (∀ k, own (.slice a9 n9 c9) k → W8.heap.size ≤ k ∧ k < w9.heap.size) := o9
  replace k9 := Hid.mk' k9
  refine hK.out _ _ ⟨(k9.out.cell (fun h => h) qc0), (k9.out.cell (fun h => h) qc1)⟩ (fun hHeld => ?_)
  clear hK K
  refine norm_ (a' := ?_) ?_ ?_
  rotate_left
  · show Act.put _ (some 111) _ = _
    simp only [Act.put, List.setIfInBounds_toArray, List.set_cons_zero, List.set_cons_succ, i64_w, i32_w]
    rfl
  refine one_ (i := 17) (N := some 119) #[true, true, true, true, true, true, true, true, true, true, true, true, true, true, true, true, true, true, false, false, false, false, false, false] rfl rfl (by kernel_rfl) (by decide) (fun K hK => ?_)
  refine goes_ Try.func44 (by kernel_rfl) rfl #[.slice (some ⟨gv, 0, none⟩) (d - 1) dv] (by rfl) rfl rfl (by simp only [List.map_toArray, List.map_cons, List.map_nil]; rfl) ?_
  with_reducible refine (cloneI (some ⟨gv, 0, none⟩) (d - 1) dv ((kvs.map iv).take (d - 1)) _ (lv1.out) (by simp) (fun ad had j u hu => k9.out.cell (fun h => h) (hcv1.out ad had j u hu)) (fun u hu => map_iv_cell kvs u (List.mem_of_mem_take hu)) (by have := lv1.out; omega)).mono ?_
  rintro e w10 ⟨v10, rfl, r10, o10, k10⟩
  refine ⟨_, rfl, ?_⟩
  obtain ⟨a10, n10, c10, rfl, l10⟩ := r10.form'
  have qc0' := k10.cell (fun h => h) (k9.out.cell (fun h => h) qc0)
  have qc1' := k10.cell (fun h => h) (k9.out.cell (fun h => h) qc1)
  have qf0' : w10.frozen? ⟨q, 0, none⟩ = false := (frozen_of_row _ q 0 _ _ (k10.heap (fun h => h) (k9.out.heap (fun h => h) qblk.out)))
  have qf1' : w10.frozen? ⟨q, 1, none⟩ = false := (frozen_of_row _ q 1 _ _ (k10.heap (fun h => h) (k9.out.heap (fun h => h) qblk.out)))
  replace r10 := Hid.mk' r10
  replace o10 := Hid.mk' o10
  replace k10 := Hid.mk' k10
  refine hK.out _ _ ⟨qc0', qc1'⟩ (fun hHeld => ?_)
  clear hK K
  refine norm_ (a' := ?_) ?_ ?_
  rotate_left
  · show Act.put _ (some 119) _ = _
    simp only [Act.put, List.setIfInBounds_toArray, List.set_cons_zero, List.set_cons_succ, i64_w, i32_w]
    rfl
  refine pure_ (i := 18) (N := some 120) (v := ?_) (a' := ?_) #[true, true, true, true, true, true, true, true, true, true, true, true, true, true, true, true, true, true, true, false, false, false, false, false] rfl rfl (by kernel_rfl) (fun _ _ _ h => h) (Or.inl ⟨by rfl, ?_⟩) ?_ ?_
  rotate_left
  · intro w'
    go_simp
    with_reducible rfl
  rotate_left
  · simp only [Act.put, List.setIfInBounds_toArray, List.set_cons_zero, List.set_cons_succ, i64_w, i32_w]
    rfl
  refine pure_ (i := 19) (N := some 121) (v := ?_) (a' := ?_) #[true, true, true, true, true, true, true, true, true, true, true, true, true, true, true, true, true, true, true, true, false, false, false, false] rfl rfl (by kernel_rfl) (fun _ _ _ h => h) (Or.inl ⟨by rfl, ?_⟩) ?_ ?_
  rotate_left
  · intro w'
    go_simp
    with_reducible rfl
  rotate_left
  · simp only [Act.put, List.setIfInBounds_toArray, List.set_cons_zero, List.set_cons_succ, i64_w, i32_w]
    rfl
  refine last_ (i := 20) (N := none) #[true, true, true, true, true, true, true, true, true, true, true, true, true, true, true, true, true, true, true, true, true, false, false, false] rfl rfl (by kernel_rfl) (by decide) (fun K hK => ?_)
  refine skip_ (w1 := ?_) (by rfl) rfl ?_ ?_
  rotate_left
  · go_simp
    rfl
  refine hK.out _ _ ?_
  clear hK K
  refine pure_ (i := 21) (N := some 122) (v := ?_) (a' := ?_) #[true, true, true, true, true, true, true, true, true, true, true, true, true, true, true, true, true, true, true, true, true, true, false, false] rfl rfl (by kernel_rfl) (fun _ _ _ h => h) (Or.inl ⟨by rfl, ?_⟩) ?_ ?_
  rotate_left
  · intro w'
    go_simp
    with_reducible rfl
  rotate_left
  · simp only [Act.put, List.setIfInBounds_toArray, List.set_cons_zero, List.set_cons_succ, i64_w, i32_w]
    rfl
  refine pure_ (i := 22) (N := some 123) (v := ?_) (a' := ?_) #[true, true, true, true, true, true, true, true, true, true, true, true, true, true, true, true, true, true, true, true, true, true, true, false] rfl rfl (by kernel_rfl) (fun _ _ _ h => h) (Or.inl ⟨by rfl, ?_⟩) ?_ ?_
  rotate_left
  · intro w'
    go_simp
    with_reducible rfl
  rotate_left
  · simp only [Act.put, List.setIfInBounds_toArray, List.set_cons_zero, List.set_cons_succ, i64_w, i32_w]
    rfl
  refine last_ (i := 23) (N := none) #[true, true, true, true, true, true, true, true, true, true, true, true, true, true, true, true, true, true, true, true, true, true, true, true] rfl rfl (by kernel_rfl) (by decide) (fun K hK => ?_)
  refine skip_ (w1 := ?_) (by rfl) rfl ?_ ?_
  rotate_left
  · go_simp
    rfl
  refine hK.out _ _ ?_
  clear hK K
  refine done_ (by kernel_rfl) ?_
  go_wp2_with fail
  go_end0
  obtain ⟨W9, hW9⟩ : ∃ W9, W9 = w10.setCell ⟨q, 0, none⟩ (.slice a9 n9 c9) := ⟨_, rfl⟩
  rw [← hW9]
  have o9' : ∀ k, own (.slice a9 n9 c9) k → own (.slice (some ⟨gk, 0, none⟩) m dk) k ∨ (W8.heap.size ≤ k ∧ k < w10.heap.size) := fun k hk => .inr ⟨(o9.out k hk).1, Nat.lt_of_lt_of_le (o9.out k hk).2 k10.out.size⟩
  obtain ⟨nQ9, kk9⟩ := nQ8.out.step0 ((k9.out.trans k10.out).mono fun _ h => h.elim) (show Row _ _ (.slice a9 n9 c9) ((kks.take (d - 1)).map sv) from (by rw [List.map_take]; exact r9.out.chg k10.out fun _ _ h => h))
  rw [← hW9] at nQ9 kk9
  have nN9 := nN8.out.chg kk9 (aNQ8.out)
  have nR9 := nR8.out.chg kk9 (aQR8.out.symm)
  have aNQ9 := (apart0 (o9') (aNQ8.out.symm) nN8.out.lt).symm
  have aQR9 := apart0 (o9') (aQR8.out) nR8.out.lt
  have aNR9 := aNR8.out
  have sQ9 := nset0 (o9') sQ8.out (fun k h => .inr (Nat.le_trans kC8.out.size h))
  have sN9 := sN8.out
  have sR9 := sR8.out
  have kC9 := kC8.out.trans' kk9 (fun k h => (sQ8.out k h).imp .inr id)
  replace hW9 := Hid.mk' hW9
  replace nN9 := Hid.mk' nN9
  replace nQ9 := Hid.mk' nQ9
  replace nR9 := Hid.mk' nR9
  replace aNQ9 := Hid.mk' aNQ9
  replace aNR9 := Hid.mk' aNR9
  replace aQR9 := Hid.mk' aQR9
  replace sN9 := Hid.mk' sN9
  replace sQ9 := Hid.mk' sQ9
  replace sR9 := Hid.mk' sR9
  replace kC9 := Hid.mk' kC9
  replace kk9 := Hid.mk' kk9
  obtain ⟨W10, hW10⟩ : ∃ W10, W10 = W9.setCell ⟨q, 1, none⟩ (.slice a10 n10 c10) := ⟨_, rfl⟩
  rw [← hW10]
  have h10 : ∀ k, own (.slice a10 n10 c10) k → W8.heap.size ≤ k ∧ k < w10.heap.size := fun k hk => ⟨Nat.le_trans k9.out.size (o10.out k hk).1, (o10.out k hk).2⟩
  have nq10 : ¬ own (.slice a10 n10 c10) q := fun h => by have := (h10 q h).1; have := nQ8.out.lt q (.inl rfl); omega
  have r10' : Row W9 3 (.slice a10 n10 c10) ((kvs.take (d - 1)).map iv) := by rw [hW9.out, List.map_take]; exact r10.out.setOther nq10
  have k11 : Chg (own (.slice (some ⟨gv, 0, none⟩) m dv)) W9 W9 := Chg.refl _ _
  have o11 : ∀ k, own (.slice a10 n10 c10) k → own (.slice (some ⟨gv, 0, none⟩) m dv) k ∨ (W8.heap.size ≤ k ∧ k < w10.heap.size) := fun k hk => .inr (h10 k hk)
  obtain ⟨nQ10, kk10⟩ := nQ9.out.step1 k11 r10'
  rw [← hW10] at nQ10 kk10
  have nN10 := nN9.out.chg kk10 aNQ9.out
  have nR10 := nR9.out.chg kk10 aQR9.out.symm
  have aNQ10 := (apart1 o11 aNQ9.out.symm nN8.out.lt).symm
  have aQR10 := apart1 o11 aQR9.out nR8.out.lt
  have sQ10 := nset1 o11 sQ9.out (fun k h => .inr (Nat.le_trans kC8.out.size h))
  have kC10 := kC9.out.trans' kk10 (fun k h => (sQ9.out k h).imp .inr id)
  exact ⟨_, _, _, _, _, _, r, _, _, _, rfl, nN10, (by simpa using nQ10), (by simpa using nR10), aNQ10, aNR9.out, aQR10, sN9.out, sQ10, sR9.out, kC10⟩

set_option maxHeartbeats 8000000 in
set_option maxRecDepth 100000 in
theorem split27K (n q i d m : Nat) (vi vd : Int) (ks : List ByteArray) (vs : List Int) (bs : List Nat) (kks : List ByteArray) (kvs : List Int) (kbs : List Nat) (vk vv vc uk uv uc : Value) (x : ByteArray) (y : Int) (w : World)
    (hN : Nd w n vk vv vc ks vs bs) (hQ : Nd w q uk uv uc kks kvs kbs) (hA : Apart (nset n vk vv vc) (nset q uk uv uc)) (hi : i < bs.length) (hq : bs[i]? = some q) (hvi : vi = i) (hvd : vd = d)
    (hd : 2 ≤ d) (hd2 : d ≤ 32) (hm : m = 2 * d - 1) (hkk : kks.length = m) (hkv : kvs.length = m) (hx : kks[d - 1]? = some x) (hy : kvs[d - 1]? = some y) (hkb : kbs.length = 2 * d) (hl1 : vs.length = ks.length) (hl2 : bs.length = ks.length + 1) (hl3 : ks.length ≤ 1000) :
    Calls Try.prog 27 #[.pointer (some ⟨n, 0, none⟩), .int .i64 vi, .int .i64 vd] w fun e w' => ∃ vk' vv' vc' uk' uv' uc' r rk rv rc, e = .returned (.tuple #[]) ∧ Nd w' n vk' vv' vc' (ks.take i ++ x :: ks.drop i) (vs.take i ++ y :: vs.drop i) (bs.take (i + 1) ++ r :: bs.drop (i + 1)) ∧
        Nd w' q uk' uv' uc' (kks.take (d - 1)) (kvs.take (d - 1)) (kbs.take d) ∧ Nd w' r rk rv rc (kks.drop d) (kvs.drop d) (kbs.drop d) ∧
        Apart (nset n vk' vv' vc') (nset q uk' uv' uc') ∧ Apart (nset n vk' vv' vc') (nset r rk rv rc) ∧ Apart (nset q uk' uv' uc') (nset r rk rv rc) ∧
        Sub (nset n vk' vv' vc') (fun k => nset n vk vv vc k ∨ w.heap.size ≤ k) ∧ Sub (nset q uk' uv' uc') (fun k => nset q uk uv uc k ∨ w.heap.size ≤ k) ∧ (∀ k, nset r rk rv rc k → w.heap.size ≤ k) ∧
        Chg (fun k => nset n vk vv vc k ∨ nset q uk uv uc k) w w'  := by
  subst hvi hvd
  have ex0 := Hid.mk' (show (kks.map sv)[d - 1]? = some (.string x) by rw [List.getElem?_map, hx]; rfl)
  have ex1 := Hid.mk' (show (kvs.map iv)[d - 1]? = some (.int .i64 y) by rw [List.getElem?_map, hy]; rfl)
  obtain ⟨ak, nk, ck, av, nv, cv, ac, nc, cc, rfl, rfl, rfl, lk0, lv0, lc0⟩ := hN.form'
  obtain ⟨bk, mk, dk, bv, mv, dv, bc, nb, dc, rfl, rfl, rfl, mk0, mv0, nb0⟩ := hQ.form'
  obtain rfl : m = mk := (mk0.out.trans hkk).symm
  obtain rfl : m = mv := (mv0.out.trans hkv).symm
  have md : d < m := by omega
  have mdle : d ≤ m := by omega
  have m63 : m ≤ 63 := by omega
  have hm' := Hid.mk' hm
  obtain ⟨gc, rfl, ogc, ccell, _⟩ := hN.rc.at (by simp; omega)
  have hic : (i : Int) < (nc : Int) := by have := lc0.out; omega
  have hc2 := hN.c2
  have hci : w.cell? ⟨gc, i, none⟩ = some (.pointer (some ⟨q, 0, none⟩)) := ccell i _ (by rw [List.getElem?_map, hq]; rfl)
  obtain ⟨gk, rfl, hckne, hckD⟩ := hQ.rk.tail d (by omega)
  obtain ⟨gv, rfl, hcvne, hcvD⟩ := hQ.rv.tail d (by omega)
  have bk := hQ.rk.cap_le.2.1
  have bv := hQ.rv.cap_le.2.1
  replace hckne : ¬ dk = d := hckne
  replace hcvne : ¬ dv = d := hcvne
  replace hckD : Hid (∀ ad, some (⟨gk, d, none⟩ : Addr) = some ad → ∀ j u, ((kks.map sv).drop d)[j]? = some u → w.drew.cell? (ad.add j) = some u) := fun ad had j u hu => by cases had; exact hckD j u hu
  replace hcvD : Hid (∀ ad, some (⟨gv, d, none⟩ : Addr) = some ad → ∀ j u, ((kvs.map iv).drop d)[j]? = some u → w.cell? (ad.add j) = some u) := fun ad had j u hu => by cases had; exact hcvD j u hu
  have lk : Hid (m - d = ((kks.map sv).drop d).length) := by show m - d = _; simp; omega
  have lv : Hid (m - d = ((kvs.map iv).drop d).length) := by show m - d = _; simp; omega
  have qc0 := hQ.c0
  have qc1 := hQ.c1
  have hN' := Hid.mk' hN
  have hQ' := Hid.mk' hQ
  have hA' := Hid.mk' hA
  have b1 : (i : Int) < bs.length := by omega
  have i1000 : i ≤ 1001 := by omega
  have hkk' := Hid.mk' hkk
  have hkv' := Hid.mk' hkv
  replace hl1 := Hid.mk' hl1
  replace hl2 := Hid.mk' hl2
  have hkb64 : kbs.length ≤ 64 := by omega
  have dkb : d < kbs.length := by omega
  have hkb' := Hid.mk' hkb
  clear hkb
  clear hN hQ hA hm ccell hq hx hy hkk hkv
  go_enter Try.func27, Try.ntmps27
  go_wp2_with fail
  refine start_ (n := 17) (S := fun w' => w'.cell? ⟨q, 0, none⟩ = some (.slice (some ⟨gk, 0, none⟩) m dk) ∧ w'.cell? ⟨q, 1, none⟩ = some (.slice (some ⟨gv, 0, none⟩) m dv)) (ds := []) #[false, false, false, false, false, false, false, false, false, false, false, false, false, false, false, false, false] (by kernel_rfl) rfl rfl ⟨qc0, qc1⟩ (fun hHeld => ?_)
  refine pure_ (i := 0) (N := some 15) (v := ?_) (a' := ?_) #[true, false, false, false, false, false, false, false, false, false, false, false, false, false, false, false, false] rfl rfl (by kernel_rfl) (fun _ _ _ h => h) (Or.inl ⟨by rfl, ?_⟩) ?_ ?_
  rotate_left
  · intro w'
    go_simp
    with_reducible rfl
  rotate_left
  · simp only [Act.put, List.setIfInBounds_toArray, List.set_cons_zero, List.set_cons_succ, i64_w, i32_w]
    rfl
  refine pure_ (i := 1) (N := some 16) (v := ?_) (a' := ?_) #[true, true, false, false, false, false, false, false, false, false, false, false, false, false, false, false, false] rfl rfl (by kernel_rfl) (fun _ _ _ h => h) (Or.inl ⟨by rfl, ?_⟩) ?_ ?_
  rotate_left
  · intro w'
    go_simp
    with_reducible rfl
  rotate_left
  · simp only [Act.put, List.setIfInBounds_toArray, List.set_cons_zero, List.set_cons_succ, i64_w, i32_w]
    rfl
  refine pure_ (i := 2) (N := some 17) (v := ?_) (a' := ?_) #[true, true, true, false, false, false, false, false, false, false, false, false, false, false, false, false, false] rfl rfl (by kernel_rfl) (fun _ _ _ h => h) (Or.inl ⟨by rfl, ?_⟩) ?_ ?_
  rotate_left
  · intro w'
    go_simp
    with_reducible rfl
  rotate_left
  · simp only [Act.put, List.setIfInBounds_toArray, List.set_cons_zero, List.set_cons_succ, i64_w, i32_w]
    rfl
  refine pure_ (i := 4) (N := some 19) (v := ?_) (a' := ?_) #[true, true, true, false, true, false, false, false, false, false, false, false, false, false, false, false, false] rfl rfl (by kernel_rfl) (fun _ _ _ h => h) (Or.inl ⟨by rfl, ?_⟩) ?_ ?_
  rotate_left
  · intro w'
    go_simp
    with_reducible rfl
  rotate_left
  · simp only [Act.put, List.setIfInBounds_toArray, List.set_cons_zero, List.set_cons_succ, i64_w, i32_w]
    rfl
  refine pure_ (i := 7) (N := some 22) (v := ?_) (a' := ?_) #[true, true, true, false, true, false, false, true, false, false, false, false, false, false, false, false, false] rfl rfl (by kernel_rfl) (fun _ _ _ h => h) (Or.inl ⟨by rfl, ?_⟩) ?_ ?_
  rotate_left
  · intro w'
    go_simp
    with_reducible rfl
  rotate_left
  · simp only [Act.put, List.setIfInBounds_toArray, List.set_cons_zero, List.set_cons_succ, i64_w, i32_w]
    rfl
  refine pure_ (i := 8) (N := some 23) (v := ?_) (a' := ?_) #[true, true, true, false, true, false, false, true, true, false, false, false, false, false, false, false, false] rfl rfl (by kernel_rfl) (fun _ _ _ h => h) (Or.inl ⟨by rfl, ?_⟩) ?_ ?_
  rotate_left
  · intro w'
    go_simp
    with_reducible rfl
  rotate_left
  · simp only [Act.put, List.setIfInBounds_toArray, List.set_cons_zero, List.set_cons_succ, i64_w, i32_w]
    rfl
  refine pure_ (i := 9) (N := some 24) (v := ?_) (a' := ?_) #[true, true, true, false, true, false, false, true, true, true, false, false, false, false, false, false, false] rfl rfl (by kernel_rfl) (fun _ _ _ h => h) (Or.inl ⟨by rfl, ?_⟩) ?_ ?_
  rotate_left
  · intro w'
    go_simp
    with_reducible rfl
  rotate_left
  · simp only [Act.put, List.setIfInBounds_toArray, List.set_cons_zero, List.set_cons_succ, i64_w, i32_w]
    rfl
  refine pure_ (i := 11) (N := some 26) (v := ?_) (a' := ?_) #[true, true, true, false, true, false, false, true, true, true, false, true, false, false, false, false, false] rfl rfl (by kernel_rfl) (fun _ _ _ h => h) (Or.inl ⟨by rfl, ?_⟩) ?_ ?_
  rotate_left
  · intro w'
    go_simp
    with_reducible rfl
  rotate_left
  · simp only [Act.put, List.setIfInBounds_toArray, List.set_cons_zero, List.set_cons_succ, i64_w, i32_w]
    rfl
  refine take_ (i := 3) (N := some 18) (v := ?_) (a' := ?_) #[true, true, true, true, true, false, false, true, true, true, false, true, false, false, false, false, false] rfl rfl (by kernel_rfl) (fun _ _ _ h => h) (Or.inl ⟨by rfl, ?_⟩) hHeld ?_ ?_
  rotate_left
  · rintro w' ⟨s0, s1⟩
    go_simp
    with_reducible rfl
  rotate_left
  · simp only [Act.put, List.setIfInBounds_toArray, List.set_cons_zero, List.set_cons_succ, i64_w, i32_w]
    rfl
  refine pure_ (i := 5) (N := some 20) (v := ?_) (a' := ?_) #[true, true, true, true, true, true, false, true, true, true, false, true, false, false, false, false, false] rfl rfl (by kernel_rfl) (fun _ _ _ h => h) (Or.inl ⟨by rfl, ?_⟩) ?_ ?_
  rotate_left
  · intro w'
    go_simp
    with_reducible rfl
  rotate_left
  · simp only [Act.put, List.setIfInBounds_toArray, List.set_cons_zero, List.set_cons_succ, i64_w, i32_w]
    rfl
  refine take_ (i := 10) (N := some 25) (v := ?_) (a' := ?_) #[true, true, true, true, true, true, false, true, true, true, true, true, false, false, false, false, false] rfl rfl (by kernel_rfl) (fun _ _ _ h => h) (Or.inl ⟨by rfl, ?_⟩) hHeld ?_ ?_
  rotate_left
  · rintro w' ⟨s0, s1⟩
    go_simp
    with_reducible rfl
  rotate_left
  · simp only [Act.put, List.setIfInBounds_toArray, List.set_cons_zero, List.set_cons_succ, i64_w, i32_w]
    rfl
  refine pure_ (i := 12) (N := some 27) (v := ?_) (a' := ?_) #[true, true, true, true, true, true, false, true, true, true, true, true, true, false, false, false, false] rfl rfl (by kernel_rfl) (fun _ _ _ h => h) (Or.inl ⟨by rfl, ?_⟩) ?_ ?_
  rotate_left
  · intro w'
    go_simp
    with_reducible rfl
  rotate_left
  · simp only [Act.put, List.setIfInBounds_toArray, List.set_cons_zero, List.set_cons_succ, i64_w, i32_w]
    rfl
  refine one_ (i := 6) (N := some 21) #[true, true, true, true, true, true, true, true, true, true, true, true, true, false, false, false, false] rfl rfl (by kernel_rfl) (by decide) (fun K hK => ?_)
  refine goes_ Try.func43 (by kernel_rfl) rfl #[.slice (some ⟨gk, d, none⟩) (m - d) (dk - d)] (by rfl) rfl rfl (by simp only [List.map_toArray, List.map_cons, List.map_nil]; rfl) ?_
  with_reducible refine (cloneS (some ⟨gk, d, none⟩) (m - d) (dk - d) ((kks.map sv).drop d) _ (lk.out) (by simp) hckD.out (fun u hu => map_sv_cell kks u (List.mem_of_mem_drop hu)) (by have := lk.out; omega)).mono ?_
  rintro e w3 ⟨v3, rfl, r3, o3, k3⟩
  refine ⟨_, rfl, ?_⟩
  replace k3 := k3.undrew
  obtain ⟨a3, n3, c3, rfl, l3⟩ := r3.form'
  replace r3 := Hid.mk' r3
  replace o3 := Hid.mk' o3
  replace k3 := Hid.mk' k3
  refine hK.out _ _ ⟨(k3.out.cell (fun h => h) qc0), (k3.out.cell (fun h => h) qc1)⟩ (fun hHeld => ?_)
  clear hK K
  refine norm_ (a' := ?_) ?_ ?_
  rotate_left
  · show Act.put _ (some 21) _ = _
    simp only [Act.put, List.setIfInBounds_toArray, List.set_cons_zero, List.set_cons_succ, i64_w, i32_w]
    rfl
  refine one_ (i := 13) (N := some 28) #[true, true, true, true, true, true, true, true, true, true, true, true, true, true, false, false, false] rfl rfl (by kernel_rfl) (by decide) (fun K hK => ?_)
  refine goes_ Try.func44 (by kernel_rfl) rfl #[.slice (some ⟨gv, d, none⟩) (m - d) (dv - d)] (by rfl) rfl rfl (by simp only [List.map_toArray, List.map_cons, List.map_nil]; rfl) ?_
  with_reducible refine (cloneI (some ⟨gv, d, none⟩) (m - d) (dv - d) ((kvs.map iv).drop d) _ (lv.out) (by simp) (fun ad had j u hu => k3.out.cell (fun h => h) (hcvD.out ad had j u hu)) (fun u hu => map_iv_cell kvs u (List.mem_of_mem_drop hu)) (by have := lv.out; omega)).mono ?_
  rintro e w4 ⟨v4, rfl, r4, o4, k4⟩
  refine ⟨_, rfl, ?_⟩
  obtain ⟨a4, n4, c4, rfl, l4⟩ := r4.form'
  replace r4 := Hid.mk' r4
  replace o4 := Hid.mk' o4
  replace k4 := Hid.mk' k4
  refine hK.out _ _ ⟨(k4.out.cell (fun h => h) (k3.out.cell (fun h => h) qc0)), (k4.out.cell (fun h => h) (k3.out.cell (fun h => h) qc1))⟩ (fun hHeld => ?_)
  clear hK K
  refine norm_ (a' := ?_) ?_ ?_
  rotate_left
  · show Act.put _ (some 28) _ = _
    simp only [Act.put, List.setIfInBounds_toArray, List.set_cons_zero, List.set_cons_succ, i64_w, i32_w]
    rfl
  refine pure_ (i := 14) (N := some 29) (v := ?_) (a' := ?_) #[true, true, true, true, true, true, true, true, true, true, true, true, true, true, true, false, false] rfl rfl (by kernel_rfl) (fun _ _ _ h => h) (Or.inl ⟨by rfl, ?_⟩) ?_ ?_
  rotate_left
  · intro w'
    go_simp
    with_reducible rfl
  rotate_left
  · simp only [Act.put, List.setIfInBounds_toArray, List.set_cons_zero, List.set_cons_succ, i64_w, i32_w]
    rfl
  refine one_ (i := 15) (N := some 30) #[true, true, true, true, true, true, true, true, true, true, true, true, true, true, true, true, false] rfl rfl (by kernel_rfl) (by decide) (fun K hK => ?_)
  refine value_ (w1 := ?_) (v := ?_) (by rfl) rfl ?_ ?_
  rotate_left 2
  · go_simp
    constructor
    · rfl
    · rfl
  refine hK.out _ _ ⟨(Lib.cell?_alloc_some _ (k4.out.cell (fun h => h) (k3.out.cell (fun h => h) qc0))), (Lib.cell?_alloc_some _ (k4.out.cell (fun h => h) (k3.out.cell (fun h => h) qc1)))⟩ (fun hHeld => ?_)
  clear hK K
  refine norm_ (a' := ?_) ?_ ?_
  rotate_left
  · show Act.put _ (some 30) _ = _
    simp only [Act.put, List.setIfInBounds_toArray, List.set_cons_zero, List.set_cons_succ, i64_w, i32_w]
    rfl
  refine pure_ (i := 16) (N := some 7) (v := ?_) (a' := ?_) #[true, true, true, true, true, true, true, true, true, true, true, true, true, true, true, true, true] rfl rfl (by kernel_rfl) (fun _ _ _ h => h) (Or.inl ⟨by rfl, ?_⟩) ?_ ?_
  rotate_left
  · intro w'
    go_simp
    with_reducible rfl
  rotate_left
  · simp only [Act.put, List.setIfInBounds_toArray, List.set_cons_zero, List.set_cons_succ, i64_w, i32_w]
    rfl
  refine done_ (by kernel_rfl) ?_

  go_upto_region 2 with (fail)
  obtain ⟨W5, hW5⟩ : ∃ W5, W5 = w4.alloc (Obj.cells #[Value.slice a3 n3 c3, Value.slice a4 n4 c4, Value.slice none 0 0] 54) := ⟨_, rfl⟩
  obtain ⟨r, hr⟩ : ∃ r, r = w4.heap.size := ⟨_, rfl⟩
  rw [← hW5, ← hr]
  have kW5 : Chg NoB w W5 := by rw [hW5]; exact (k3.out.trans k4.out).alloc _
  have nN5 := hN'.out.chg kW5 (fun _ _ h => h)
  have nQ5 := hQ'.out.chg kW5 (fun _ _ h => h)
  have nR5 : Nd W5 r (.slice a3 n3 c3) (.slice a4 n4 c4) (.slice none 0 0) (kks.drop d) (kvs.drop d) [] := by
    rw [hW5, hr]
    exact ⟨heap_alloc_new w4 _, by rw [List.map_drop]; exact (r3.out.chg k4.out (fun _ _ h => h)).chg ((Chg.refl NoB _).alloc _) (fun _ _ h => h), by rw [List.map_drop]; exact r4.out.chg ((Chg.refl NoB _).alloc _) (fun _ _ h => h), Row.nil _ _⟩
  have sR5 : Sub (nset r (.slice a3 n3 c3) (.slice a4 n4 c4) (.slice none 0 0)) (fun k => w.heap.size ≤ k) := by
    rintro k (rfl | hk | hk | hk)
    · have h1 := k3.out.size; have h2 := k4.out.size; omega
    · exact (o3.out k hk).1
    · have h1 := k3.out.size; have h2 := (o4.out k hk).1; omega
    · exact (own_none 0 0 k hk).elim
  have aNQ5 := hA'.out
  have aNR5 : Apart (nset n (.slice ak nk ck) (.slice av nv cv) (.slice (some ⟨gc, 0, none⟩) nc cc)) (nset r (.slice a3 n3 c3) (.slice a4 n4 c4) (.slice none 0 0)) := fun k a b => by have := hN'.out.lt k a; have := sR5 k b; omega
  have aQR5 : Apart (nset q (.slice (some ⟨gk, 0, none⟩) m dk) (.slice (some ⟨gv, 0, none⟩) m dv) (.slice bc nb dc)) (nset r (.slice a3 n3 c3) (.slice a4 n4 c4) (.slice none 0 0)) := fun k a b => by have := hQ'.out.lt k a; have := sR5 k b; omega
  have sN5 : Sub (nset n (.slice ak nk ck) (.slice av nv cv) (.slice (some ⟨gc, 0, none⟩) nc cc)) (fun k => nset n (.slice ak nk ck) (.slice av nv cv) (.slice (some ⟨gc, 0, none⟩) nc cc) k ∨ w.heap.size ≤ k) := fun k h => .inl h
  have sQ5 : Sub (nset q (.slice (some ⟨gk, 0, none⟩) m dk) (.slice (some ⟨gv, 0, none⟩) m dv) (.slice bc nb dc)) (fun k => nset q (.slice (some ⟨gk, 0, none⟩) m dk) (.slice (some ⟨gv, 0, none⟩) m dv) (.slice bc nb dc) k ∨ w.heap.size ≤ k) := fun k h => .inl h
  have kC5 : Chg (fun k => nset n (.slice ak nk ck) (.slice av nv cv) (.slice (some ⟨gc, 0, none⟩) nc cc) k ∨ nset q (.slice (some ⟨gk, 0, none⟩) m dk) (.slice (some ⟨gv, 0, none⟩) m dv) (.slice bc nb dc) k) w W5 := kW5.mono fun _ h => h.elim
  have w5c2 := nQ5.c2
  replace hW5 := Hid.mk' hW5
  replace hr := Hid.mk' hr
  replace kW5 := Hid.mk' kW5
  replace nN5 := Hid.mk' nN5
  replace nQ5 := Hid.mk' nQ5
  replace nR5 := Hid.mk' nR5
  replace aNQ5 := Hid.mk' aNQ5
  replace aNR5 := Hid.mk' aNR5
  replace aQR5 := Hid.mk' aQR5
  replace sN5 := Hid.mk' sN5
  replace sQ5 := Hid.mk' sQ5
  replace sR5 := Hid.mk' sR5
  replace kC5 := Hid.mk' kC5
  clear qc0 qc1 hc2 hci
  have dnb0 : d < nb := by have := nb0.out; omega
  have nb64 : nb ≤ 64 := by have := nb0.out; omega
  obtain ⟨gb, rfl, hbne, hbT⟩ := nQ5.out.rc.tail d (by omega)
  have bb := nQ5.out.rc.cap_le.2.1
  replace hbne : ¬ dc = d := hbne
  have dnb : d ≤ nb := by omega
  replace hbT : Hid (∀ ad, some (⟨gb, d, none⟩ : Addr) = some ad → ∀ j u, ((kbs.map pv).drop d)[j]? = some u → W5.cell? (ad.add j) = some u) := fun ad had j u hu => by cases had; exact hbT j u hu
  have lb : Hid (nb - d = ((kbs.map pv).drop d).length) := by show nb - d = _; have := nb0.out; simp; omega
  have lb2 : Hid (d = ((kbs.map pv).take d).length) := by show d = _; have := nb0.out; simp; omega
  have rc2 := nR5.out.c2
  have rblk := Hid.mk' nR5.out.blk
  go_upto_region 4 with (first | (go_at_call 25; refine (leaf_no q _ _ _ _ w5c2 (by omega)).mono ?_; rintro e w' ⟨rfl, rfl⟩) | (go_at_call 45; refine (cloneN (some ⟨gb, d, none⟩) (nb - d) (dc - d) ((kbs.map pv).drop d) _ lb.out (by simp) hbT.out (fun u hu => map_pv_cell kbs u (List.mem_of_mem_drop hu)) (by have := lb.out; omega)).mono ?_; rintro e wr ⟨vr, rfl, rr, orr, kr⟩; obtain ⟨ar', nr', cr', rfl, lr⟩ := rr.form'; have rc2' := kr.cell (fun h => h) rc2; have rf2' : wr.frozen? ⟨r, 2, none⟩ = false := (frozen_of_row _ r 2 _ _ (kr.heap (fun h => h) rblk.out)); replace rr := Hid.mk' rr; replace orr := Hid.mk' orr; replace kr := Hid.mk' kr))
  have orr' : ∀ k, own (.slice ar' nr' cr') k → own (.slice none 0 0) k ∨ (W5.heap.size ≤ k ∧ k < wr.heap.size) := fun k hk => .inr (orr.out k hk)
  obtain ⟨W6, hW6⟩ : ∃ W6, W6 = wr.setCell ⟨r, 2, none⟩ (.slice ar' nr' cr') := ⟨_, rfl⟩
  rw [← hW6]
  obtain ⟨nR6, kk6⟩ := nR5.out.step2 (kr.out.mono fun _ h => h.elim) (show Row _ _ (.slice ar' nr' cr') ((kbs.drop d).map pv) from (by rw [List.map_drop]; exact rr.out))
  rw [← hW6] at nR6 kk6
  have nN6 := nN5.out.chg kk6 (aNR5.out)
  have nQ6 := nQ5.out.chg kk6 (aQR5.out)
  have aNR6 := (apart2 (orr') (aNR5.out.symm) nN5.out.lt).symm
  have aQR6 := (apart2 (orr') (aQR5.out.symm) nQ5.out.lt).symm
  have aNQ6 := aNQ5.out
  have sR6 := nset2 (orr') sR5.out (fun k h => Nat.le_trans kC5.out.size h)
  have sN6 := sN5.out
  have sQ6 := sQ5.out
  have kC6 := kC5.out.trans' kk6 (fun k h => .inr (sR5.out k h))
  replace hW6 := Hid.mk' hW6
  replace nN6 := Hid.mk' nN6
  replace nQ6 := Hid.mk' nQ6
  replace nR6 := Hid.mk' nR6
  replace aNQ6 := Hid.mk' aNQ6
  replace aNR6 := Hid.mk' aNR6
  replace aQR6 := Hid.mk' aQR6
  replace sN6 := Hid.mk' sN6
  replace sQ6 := Hid.mk' sQ6
  replace sR6 := Hid.mk' sR6
  replace kC6 := Hid.mk' kC6
  replace kk6 := Hid.mk' kk6
  clear rc2 rc2' rf2' w5c2
  have qc2 := nQ6.out.c2
  have qblk6 := Hid.mk' nQ6.out.blk
  have hbH := Hid.mk' (nQ6.out.rc.head d (by omega)).2
  have db1 : d ≤ dc := by omega
  have db2 : ¬ dc = 0 := by omega
  go_upto_region 5 with (go_at_call 45; refine (cloneN (some ⟨gb, 0, none⟩) d dc ((kbs.map pv).take d) _ lb2.out (by simp) hbH.out (fun u hu => map_pv_cell kbs u (List.mem_of_mem_take hu)) (by have := lb2.out; omega)).mono ?_; rintro e wq ⟨vq, rfl, rq, oq, kq⟩; obtain ⟨aq', nq', cq', rfl, lq⟩ := rq.form'; have qc2' := kq.cell (fun h => h) qc2; have qf2' : wq.frozen? ⟨q, 2, none⟩ = false := (frozen_of_row _ q 2 _ _ (kq.heap (fun h => h) qblk6.out)); replace rq := Hid.mk' rq; replace oq := Hid.mk' oq; replace kq := Hid.mk' kq)
  have oq' : ∀ k, own (.slice aq' nq' cq') k → own (.slice (some ⟨gb, 0, none⟩) nb dc) k ∨ (W6.heap.size ≤ k ∧ k < wq.heap.size) := fun k hk => .inr (oq.out k hk)
  obtain ⟨W7, hW7⟩ : ∃ W7, W7 = wq.setCell ⟨q, 2, none⟩ (.slice aq' nq' cq') := ⟨_, rfl⟩
  rw [← hW7]
  obtain ⟨nQ7, kk7⟩ := nQ6.out.step2 (kq.out.mono fun _ h => h.elim) (show Row _ _ (.slice aq' nq' cq') ((kbs.take d).map pv) from (by rw [List.map_take]; exact rq.out))
  rw [← hW7] at nQ7 kk7
  have nN7 := nN6.out.chg kk7 (aNQ6.out)
  have nR7 := nR6.out.chg kk7 (aQR6.out.symm)
  have aNQ7 := (apart2 (oq') (aNQ6.out.symm) nN6.out.lt).symm
  have aQR7 := apart2 (oq') (aQR6.out) nR6.out.lt
  have aNR7 := aNR6.out
  have sQ7 := nset2 (oq') sQ6.out (fun k h => .inr (Nat.le_trans kC6.out.size h))
  have sN7 := sN6.out
  have sR7 := sR6.out
  have kC7 := kC6.out.trans' kk7 (fun k h => (sQ6.out k h).imp .inr id)
  replace hW7 := Hid.mk' hW7
  replace nN7 := Hid.mk' nN7
  replace nQ7 := Hid.mk' nQ7
  replace nR7 := Hid.mk' nR7
  replace aNQ7 := Hid.mk' aNQ7
  replace aNR7 := Hid.mk' aNR7
  replace aQR7 := Hid.mk' aQR7
  replace sN7 := Hid.mk' sN7
  replace sQ7 := Hid.mk' sQ7
  replace sR7 := Hid.mk' sR7
  replace kC7 := Hid.mk' kC7
  replace kk7 := Hid.mk' kk7
  clear qc2 qc2' qf2'
  have w1 : IntKind.i64.wrap ((d : Int) - 1) = (d : Int) - 1 := by rw [IntKind.wrap_i64]; omega
  have w2 : (0 : Int) ≤ (d : Int) - 1 := by omega
  have w3' : (1 : Int) ≤ (d : Int) := by omega
  have w4' : ((d : Int) - 1).toNat = d - 1 := by omega
  have w5 : (d : Int) - 1 < (m : Int) := by omega
  have nc0 := nN7.out.c0
  have nblk := Hid.mk' nN7.out.blk
  have qc0 := nQ7.out.c0
  have ec0 : W7.cell? ⟨gk, d - 1, none⟩ = some (.string x) := by
    obtain ⟨_, h, _, hc, _⟩ := nQ7.out.rk.at (by have := hkk'.out; simp; omega)
    cases h
    exact hc _ _ ex0.out
  have R0 := Hid.mk' nN7.out.rk
  have li0 : Hid (i ≤ (ks.map sv).length) := by show i ≤ _; have := hl2.out; have := hl1.out; simp; omega
  have lt0 : Hid ((ks.map sv).length ≤ 1048576) := by show _ ≤ _; have := hl1.out; simp; omega
  have ne0 : Hid (¬ own (.slice ak nk ck) W7.heap.size) := fun h => by have := R0.out.lt h; omega
  have nn0 : Hid (¬ own (.slice ak nk ck) n) := R0.out.ne nblk.out (by decide)
  have nq0 : Hid (¬ own (.slice ak nk ck) q) := R0.out.ne nQ7.out.blk (by decide)
  have ng0 : Hid (¬ own (.slice ak nk ck) gk) := fun h => aNQ7.out gk (.inr (.inl h)) (.inr (.inl rfl))
  refine start_ (n := 19) (S := fun w' => w'.cell? ⟨n, 0, none⟩ = some (.slice ak nk ck) ∧ w'.cell? ⟨q, 0, none⟩ = some (.slice (some ⟨gk, 0, none⟩) m dk) ∧ w'.cell? ⟨gk, d - 1, none⟩ = some (.string x)) (ds := [18]) #[false, false, false, false, false, false, false, false, false, false, false, false, false, false, false, false, false, false, false] (by kernel_rfl) rfl rfl ⟨nc0, qc0, ec0⟩ (fun hHeld => ?_)
  refine pure_ (i := 0) (N := some 54) (v := ?_) (a' := ?_) #[true, false, false, false, false, false, false, false, false, false, false, false, false, false, false, false, false, false, false] rfl rfl (by kernel_rfl) (fun _ _ _ h => h) (Or.inl ⟨by rfl, ?_⟩) ?_ ?_
  rotate_left
  · intro w'
    go_simp
    with_reducible rfl
  rotate_left
  · simp only [Act.put, List.setIfInBounds_toArray, List.set_cons_zero, List.set_cons_succ, i64_w, i32_w]
    rfl
  refine pure_ (i := 1) (N := some 55) (v := ?_) (a' := ?_) #[true, true, false, false, false, false, false, false, false, false, false, false, false, false, false, false, false, false, false] rfl rfl (by kernel_rfl) (fun _ _ _ h => h) (Or.inl ⟨by rfl, ?_⟩) ?_ ?_
  rotate_left
  · intro w'
    go_simp
    with_reducible rfl
  rotate_left
  · simp only [Act.put, List.setIfInBounds_toArray, List.set_cons_zero, List.set_cons_succ, i64_w, i32_w]
    rfl
  refine pure_ (i := 2) (N := some 56) (v := ?_) (a' := ?_) #[true, true, true, false, false, false, false, false, false, false, false, false, false, false, false, false, false, false, false] rfl rfl (by kernel_rfl) (fun _ _ _ h => h) (Or.inl ⟨by rfl, ?_⟩) ?_ ?_
  rotate_left
  · intro w'
    go_simp
    with_reducible rfl
  rotate_left
  · simp only [Act.put, List.setIfInBounds_toArray, List.set_cons_zero, List.set_cons_succ, i64_w, i32_w]
    rfl
  refine pure_ (i := 3) (N := some 57) (v := ?_) (a' := ?_) #[true, true, true, true, false, false, false, false, false, false, false, false, false, false, false, false, false, false, false] rfl rfl (by kernel_rfl) (fun _ _ _ h => h) (Or.inl ⟨by rfl, ?_⟩) ?_ ?_
  rotate_left
  · intro w'
    go_simp
    with_reducible rfl
  rotate_left
  · simp only [Act.put, List.setIfInBounds_toArray, List.set_cons_zero, List.set_cons_succ, i64_w, i32_w]
    rfl
  refine pure_ (i := 5) (N := some 59) (v := ?_) (a' := ?_) #[true, true, true, true, false, true, false, false, false, false, false, false, false, false, false, false, false, false, false] rfl rfl (by kernel_rfl) (fun _ _ _ h => h) (Or.inl ⟨by rfl, ?_⟩) ?_ ?_
  rotate_left
  · intro w'
    go_simp
    with_reducible rfl
  rotate_left
  · simp only [Act.put, List.setIfInBounds_toArray, List.set_cons_zero, List.set_cons_succ, i64_w, i32_w]
    rfl
  refine pure_ (i := 6) (N := some 60) (v := ?_) (a' := ?_) #[true, true, true, true, false, true, true, false, false, false, false, false, false, false, false, false, false, false, false] rfl rfl (by kernel_rfl) (fun _ _ _ h => h) (Or.inl ⟨by rfl, ?_⟩) ?_ ?_
  rotate_left
  · intro w'
    go_simp
    with_reducible rfl
  rotate_left
  · simp only [Act.put, List.setIfInBounds_toArray, List.set_cons_zero, List.set_cons_succ, i64_w, i32_w]
    rfl
  refine pure_ (i := 7) (N := some 61) (v := ?_) (a' := ?_) #[true, true, true, true, false, true, true, true, false, false, false, false, false, false, false, false, false, false, false] rfl rfl (by kernel_rfl) (fun _ _ _ h => h) (Or.inl ⟨by rfl, ?_⟩) ?_ ?_
  rotate_left
  · intro w'
    go_simp
    with_reducible rfl
  rotate_left
  · simp only [Act.put, List.setIfInBounds_toArray, List.set_cons_zero, List.set_cons_succ, i64_w, i32_w]
    rfl
  refine pure_ (i := 8) (N := some 62) (v := ?_) (a' := ?_) #[true, true, true, true, false, true, true, true, true, false, false, false, false, false, false, false, false, false, false] rfl rfl (by kernel_rfl) (fun _ _ _ h => h) (Or.inl ⟨by rfl, ?_⟩) ?_ ?_
  rotate_left
  · intro w'
    go_simp
    with_reducible rfl
  rotate_left
  · simp only [Act.put, List.setIfInBounds_toArray, List.set_cons_zero, List.set_cons_succ, i64_w, i32_w]
    rfl
  refine pure_ (i := 10) (N := some 64) (v := ?_) (a' := ?_) #[true, true, true, true, false, true, true, true, true, false, true, false, false, false, false, false, false, false, false] rfl rfl (by kernel_rfl) (fun _ _ _ h => h) (Or.inl ⟨by rfl, ?_⟩) ?_ ?_
  rotate_left
  · intro w'
    go_simp
    with_reducible rfl
  rotate_left
  · simp only [Act.put, List.setIfInBounds_toArray, List.set_cons_zero, List.set_cons_succ, i64_w, i32_w]
    rfl
  refine pure_ (i := 11) (N := some 65) (v := ?_) (a' := ?_) #[true, true, true, true, false, true, true, true, true, false, true, true, false, false, false, false, false, false, false] rfl rfl (by kernel_rfl) (fun _ _ _ h => h) (Or.inl ⟨by rfl, ?_⟩) ?_ ?_
  rotate_left
  · intro w'
    go_simp
    with_reducible rfl
  rotate_left
  · simp only [Act.put, List.setIfInBounds_toArray, List.set_cons_zero, List.set_cons_succ, i64_w, i32_w]
    rfl
  refine take_ (i := 4) (N := some 58) (v := ?_) (a' := ?_) #[true, true, true, true, true, true, true, true, true, false, true, true, false, false, false, false, false, false, false] rfl rfl (by kernel_rfl) (fun _ _ _ h => h) (Or.inl ⟨by rfl, ?_⟩) hHeld ?_ ?_
  rotate_left
  · rintro w' ⟨s0, s1, s2⟩
    go_simp
    with_reducible rfl
  rotate_left
  · simp only [Act.put, List.setIfInBounds_toArray, List.set_cons_zero, List.set_cons_succ, i64_w, i32_w]
    rfl
  refine take_ (i := 9) (N := some 63) (v := ?_) (a' := ?_) #[true, true, true, true, true, true, true, true, true, true, true, true, false, false, false, false, false, false, false] rfl rfl (by kernel_rfl) (fun _ _ _ h => h) (Or.inl ⟨by rfl, ?_⟩) hHeld ?_ ?_
  rotate_left
  · rintro w' ⟨s0, s1, s2⟩
    go_simp
    with_reducible rfl
  rotate_left
  · simp only [Act.put, List.setIfInBounds_toArray, List.set_cons_zero, List.set_cons_succ, i64_w, i32_w]
    rfl
  refine pure_ (i := 12) (N := some 66) (v := ?_) (a' := ?_) #[true, true, true, true, true, true, true, true, true, true, true, true, true, false, false, false, false, false, false] rfl rfl (by kernel_rfl) (fun _ _ _ h => h) (Or.inl ⟨by rfl, ?_⟩) ?_ ?_
  rotate_left
  · intro w'
    go_simp
    with_reducible rfl
  rotate_left
  · simp only [Act.put, List.setIfInBounds_toArray, List.set_cons_zero, List.set_cons_succ, i64_w, i32_w]
    rfl
  refine take_ (i := 13) (N := some 67) (v := ?_) (a' := ?_) #[true, true, true, true, true, true, true, true, true, true, true, true, true, true, false, false, false, false, false] rfl rfl (by kernel_rfl) (fun _ _ _ h => h) (Or.inl ⟨by rfl, ?_⟩) hHeld ?_ ?_
  rotate_left
  · rintro w' ⟨s0, s1, s2⟩
    go_simp
    with_reducible rfl
  rotate_left
  · simp only [Act.put, List.setIfInBounds_toArray, List.set_cons_zero, List.set_cons_succ, i64_w, i32_w]
    rfl
  refine one_ (i := 14) (N := some 68) #[true, true, true, true, true, true, true, true, true, true, true, true, true, true, true, false, false, false, false] rfl rfl (by kernel_rfl) (by decide) (fun K hK => ?_)
  refine value_ (w1 := ?_) (v := ?_) (by rfl) rfl ?_ ?_
  rotate_left 2
  · go_simp
    constructor
    · rfl
    · rfl
  refine hK.out _ _ ⟨(by show World.cell? (World.alloc W7 _) _ = _; exact Lib.cell?_alloc_some _ nc0), (by show World.cell? (World.alloc W7 _) _ = _; exact Lib.cell?_alloc_some _ qc0), (by show World.cell? (World.alloc W7 _) _ = _; exact Lib.cell?_alloc_some _ ec0)⟩ (fun hHeld => ?_)
  clear hK K
  refine norm_ (a' := ?_) ?_ ?_
  rotate_left
  · show Act.put _ (some 68) _ = _
    simp only [Act.put, List.setIfInBounds_toArray, List.set_cons_zero, List.set_cons_succ, i64_w, i32_w]
    rfl
  refine one_ (i := 15) (N := some 69) #[true, true, true, true, true, true, true, true, true, true, true, true, true, true, true, true, false, false, false] rfl rfl (by kernel_rfl) (by decide) (fun K hK => ?_)
  refine goes_ Try.func46 (by kernel_rfl) rfl #[.slice ak nk ck, .int .i64 i, .slice (some ⟨W7.heap.size, 0, none⟩) 1 1] (by rfl) rfl rfl (by simp only [List.map_toArray, List.map_cons, List.map_nil]; rfl) ?_
  with_reducible refine (insS (.slice ak nk ck) i i W7.heap.size (.string x) (ks.map sv) _ (by first | exact Row.alD R0.out _ | exact Row.al R0.out _) li0.out rfl (by first | exact Row.litD W7 9 (.string x) | exact Row.lit W7 9 (.string x)) ne0.out rfl (map_sv_cell _) lt0.out).mono ?_
  rintro e w6 ⟨v5, rfl, r5, o5, k5⟩
  refine ⟨_, rfl, ?_⟩
  replace k5 : Chg (own (.slice ak nk ck)) W7 w6 := by first | exact Chg.of_allocD k5 | exact Chg.of_alloc k5
  replace o5 : ∀ k, own v5 k → own (.slice ak nk ck) k ∨ (W7.heap.size ≤ k ∧ k < w6.heap.size) := fun k hk => (o5 k hk).imp id (fun h => ⟨Nat.le_trans (by simp) h.1, h.2⟩)
  obtain ⟨ak', nk', ck', rfl, l5⟩ := r5.form'
  have nc0' := k5.cell (p := ⟨n, 0, none⟩) nn0.out nc0
  have nf0' : w6.frozen? ⟨n, 0, none⟩ = false := (frozen_of_row _ n 0 _ _ (k5.heap nn0.out nblk.out))
  replace r5 := Hid.mk' r5
  replace o5 := Hid.mk' o5
  replace k5 := Hid.mk' k5
  refine hK.out _ _ ⟨nc0', (k5.out.cell (p := ⟨q, 0, none⟩) nq0.out qc0), (k5.out.cell (p := ⟨gk, d - 1, none⟩) ng0.out ec0)⟩ (fun hHeld => ?_)
  clear hK K
  refine norm_ (a' := ?_) ?_ ?_
  rotate_left
  · show Act.put _ (some 69) _ = _
    simp only [Act.put, List.setIfInBounds_toArray, List.set_cons_zero, List.set_cons_succ, i64_w, i32_w]
    rfl
  refine pure_ (i := 16) (N := some 70) (v := ?_) (a' := ?_) #[true, true, true, true, true, true, true, true, true, true, true, true, true, true, true, true, true, false, false] rfl rfl (by kernel_rfl) (fun _ _ _ h => h) (Or.inl ⟨by rfl, ?_⟩) ?_ ?_
  rotate_left
  · intro w'
    go_simp
    with_reducible rfl
  rotate_left
  · simp only [Act.put, List.setIfInBounds_toArray, List.set_cons_zero, List.set_cons_succ, i64_w, i32_w]
    rfl
  refine pure_ (i := 17) (N := some 71) (v := ?_) (a' := ?_) #[true, true, true, true, true, true, true, true, true, true, true, true, true, true, true, true, true, true, false] rfl rfl (by kernel_rfl) (fun _ _ _ h => h) (Or.inl ⟨by rfl, ?_⟩) ?_ ?_
  rotate_left
  · intro w'
    go_simp
    with_reducible rfl
  rotate_left
  · simp only [Act.put, List.setIfInBounds_toArray, List.set_cons_zero, List.set_cons_succ, i64_w, i32_w]
    rfl
  refine last_ (i := 18) (N := none) #[true, true, true, true, true, true, true, true, true, true, true, true, true, true, true, true, true, true, true] rfl rfl (by kernel_rfl) (by decide) (fun K hK => ?_)
  refine skip_ (w1 := ?_) (by rfl) rfl ?_ ?_
  rotate_left
  · go_simp
    rfl
  refine hK.out _ _ ?_
  clear hK K
  refine done_ (by kernel_rfl) ?_

  go_upto_region 6 with (fail)
  obtain ⟨W8, hW8⟩ : ∃ W8, W8 = w6.setCell ⟨n, 0, none⟩ (.slice ak' nk' ck') := ⟨_, rfl⟩
  rw [← hW8]
  obtain ⟨nN8, kk8⟩ := nN7.out.step0 (k5.out) (show Row _ _ (.slice ak' nk' ck') ((ks.take i ++ x :: ks.drop i).map sv) from (by have := r5.out; rwa [show ((ks.map sv).take i ++ .string x :: (ks.map sv).drop i) = ((ks.take i ++ x :: ks.drop i).map sv) from by simp [sv]] at this))
  rw [← hW8] at nN8 kk8
  have nQ8 := nQ7.out.chg kk8 (aNQ7.out.symm)
  have nR8 := nR7.out.chg kk8 (aNR7.out.symm)
  have aNQ8 := apart0 (o5.out) (aNQ7.out) nQ7.out.lt
  have aNR8 := apart0 (o5.out) (aNR7.out) nR7.out.lt
  have aQR8 := aQR7.out
  have sN8 := nset0 (o5.out) sN7.out (fun k h => .inr (Nat.le_trans kC7.out.size h))
  have sQ8 := sQ7.out
  have sR8 := sR7.out
  have kC8 := kC7.out.trans' kk8 (fun k h => (sN7.out k h).imp .inl id)
  replace hW8 := Hid.mk' hW8
  replace nN8 := Hid.mk' nN8
  replace nQ8 := Hid.mk' nQ8
  replace nR8 := Hid.mk' nR8
  replace aNQ8 := Hid.mk' aNQ8
  replace aNR8 := Hid.mk' aNR8
  replace aQR8 := Hid.mk' aQR8
  replace sN8 := Hid.mk' sN8
  replace sQ8 := Hid.mk' sQ8
  replace sR8 := Hid.mk' sR8
  replace kC8 := Hid.mk' kC8
  replace kk8 := Hid.mk' kk8
  clear nc0 qc0 ec0 nc0' nf0'
  have nc1 := nN8.out.c1
  have nblk := Hid.mk' nN8.out.blk
  have qc1 := nQ8.out.c1
  have ec1 : W8.cell? ⟨gv, d - 1, none⟩ = some (.int .i64 y) := by
    obtain ⟨_, h, _, hc, _⟩ := nQ8.out.rv.at (by have := hkv'.out; simp; omega)
    cases h
    exact hc _ _ ex1.out
  have R1 := Hid.mk' nN8.out.rv
  have li1 : Hid (i ≤ (vs.map iv).length) := by show i ≤ _; have := hl2.out; have := hl1.out; simp; omega
  have lt1 : Hid ((vs.map iv).length ≤ 1048576) := by show _ ≤ _; have := hl1.out; simp; omega
  have ne1 : Hid (¬ own (.slice av nv cv) W8.heap.size) := fun h => by have := R1.out.lt h; omega
  have nn1 : Hid (¬ own (.slice av nv cv) n) := R1.out.ne nblk.out (by decide)
  have nq1 : Hid (¬ own (.slice av nv cv) q) := R1.out.ne nQ8.out.blk (by decide)
  have ng1 : Hid (¬ own (.slice av nv cv) gv) := fun h => aNQ8.out gv (.inr (.inr (.inl h))) (.inr (.inr (.inl rfl)))
  refine start_ (n := 19) (S := fun w' => w'.cell? ⟨n, 1, none⟩ = some (.slice av nv cv) ∧ w'.cell? ⟨q, 1, none⟩ = some (.slice (some ⟨gv, 0, none⟩) m dv) ∧ w'.cell? ⟨gv, d - 1, none⟩ = some (.int .i64 y)) (ds := [18]) #[false, false, false, false, false, false, false, false, false, false, false, false, false, false, false, false, false, false, false] (by kernel_rfl) rfl rfl ⟨nc1, qc1, ec1⟩ (fun hHeld => ?_)
  refine pure_ (i := 0) (N := some 72) (v := ?_) (a' := ?_) #[true, false, false, false, false, false, false, false, false, false, false, false, false, false, false, false, false, false, false] rfl rfl (by kernel_rfl) (fun _ _ _ h => h) (Or.inl ⟨by rfl, ?_⟩) ?_ ?_
  rotate_left
  · intro w'
    go_simp
    with_reducible rfl
  rotate_left
  · simp only [Act.put, List.setIfInBounds_toArray, List.set_cons_zero, List.set_cons_succ, i64_w, i32_w]
    rfl
  refine pure_ (i := 1) (N := some 73) (v := ?_) (a' := ?_) #[true, true, false, false, false, false, false, false, false, false, false, false, false, false, false, false, false, false, false] rfl rfl (by kernel_rfl) (fun _ _ _ h => h) (Or.inl ⟨by rfl, ?_⟩) ?_ ?_
  rotate_left
  · intro w'
    go_simp
    with_reducible rfl
  rotate_left
  · simp only [Act.put, List.setIfInBounds_toArray, List.set_cons_zero, List.set_cons_succ, i64_w, i32_w]
    rfl
  refine pure_ (i := 2) (N := some 74) (v := ?_) (a' := ?_) #[true, true, true, false, false, false, false, false, false, false, false, false, false, false, false, false, false, false, false] rfl rfl (by kernel_rfl) (fun _ _ _ h => h) (Or.inl ⟨by rfl, ?_⟩) ?_ ?_
  rotate_left
  · intro w'
    go_simp
    with_reducible rfl
  rotate_left
  · simp only [Act.put, List.setIfInBounds_toArray, List.set_cons_zero, List.set_cons_succ, i64_w, i32_w]
    rfl
  refine pure_ (i := 3) (N := some 75) (v := ?_) (a' := ?_) #[true, true, true, true, false, false, false, false, false, false, false, false, false, false, false, false, false, false, false] rfl rfl (by kernel_rfl) (fun _ _ _ h => h) (Or.inl ⟨by rfl, ?_⟩) ?_ ?_
  rotate_left
  · intro w'
    go_simp
    with_reducible rfl
  rotate_left
  · simp only [Act.put, List.setIfInBounds_toArray, List.set_cons_zero, List.set_cons_succ, i64_w, i32_w]
    rfl
  refine pure_ (i := 5) (N := some 77) (v := ?_) (a' := ?_) #[true, true, true, true, false, true, false, false, false, false, false, false, false, false, false, false, false, false, false] rfl rfl (by kernel_rfl) (fun _ _ _ h => h) (Or.inl ⟨by rfl, ?_⟩) ?_ ?_
  rotate_left
  · intro w'
    go_simp
    with_reducible rfl
  rotate_left
  · simp only [Act.put, List.setIfInBounds_toArray, List.set_cons_zero, List.set_cons_succ, i64_w, i32_w]
    rfl
  refine pure_ (i := 6) (N := some 78) (v := ?_) (a' := ?_) #[true, true, true, true, false, true, true, false, false, false, false, false, false, false, false, false, false, false, false] rfl rfl (by kernel_rfl) (fun _ _ _ h => h) (Or.inl ⟨by rfl, ?_⟩) ?_ ?_
  rotate_left
  · intro w'
    go_simp
    with_reducible rfl
  rotate_left
  · simp only [Act.put, List.setIfInBounds_toArray, List.set_cons_zero, List.set_cons_succ, i64_w, i32_w]
    rfl
  refine pure_ (i := 7) (N := some 79) (v := ?_) (a' := ?_) #[true, true, true, true, false, true, true, true, false, false, false, false, false, false, false, false, false, false, false] rfl rfl (by kernel_rfl) (fun _ _ _ h => h) (Or.inl ⟨by rfl, ?_⟩) ?_ ?_
  rotate_left
  · intro w'
    go_simp
    with_reducible rfl
  rotate_left
  · simp only [Act.put, List.setIfInBounds_toArray, List.set_cons_zero, List.set_cons_succ, i64_w, i32_w]
    rfl
  refine pure_ (i := 8) (N := some 80) (v := ?_) (a' := ?_) #[true, true, true, true, false, true, true, true, true, false, false, false, false, false, false, false, false, false, false] rfl rfl (by kernel_rfl) (fun _ _ _ h => h) (Or.inl ⟨by rfl, ?_⟩) ?_ ?_
  rotate_left
  · intro w'
    go_simp
    with_reducible rfl
  rotate_left
  · simp only [Act.put, List.setIfInBounds_toArray, List.set_cons_zero, List.set_cons_succ, i64_w, i32_w]
    rfl
  refine pure_ (i := 10) (N := some 82) (v := ?_) (a' := ?_) #[true, true, true, true, false, true, true, true, true, false, true, false, false, false, false, false, false, false, false] rfl rfl (by kernel_rfl) (fun _ _ _ h => h) (Or.inl ⟨by rfl, ?_⟩) ?_ ?_
  rotate_left
  · intro w'
    go_simp
    with_reducible rfl
  rotate_left
  · simp only [Act.put, List.setIfInBounds_toArray, List.set_cons_zero, List.set_cons_succ, i64_w, i32_w]
    rfl
  refine pure_ (i := 11) (N := some 83) (v := ?_) (a' := ?_) #[true, true, true, true, false, true, true, true, true, false, true, true, false, false, false, false, false, false, false] rfl rfl (by kernel_rfl) (fun _ _ _ h => h) (Or.inl ⟨by rfl, ?_⟩) ?_ ?_
  rotate_left
  · intro w'
    go_simp
    with_reducible rfl
  rotate_left
  · simp only [Act.put, List.setIfInBounds_toArray, List.set_cons_zero, List.set_cons_succ, i64_w, i32_w]
    rfl
  refine take_ (i := 4) (N := some 76) (v := ?_) (a' := ?_) #[true, true, true, true, true, true, true, true, true, false, true, true, false, false, false, false, false, false, false] rfl rfl (by kernel_rfl) (fun _ _ _ h => h) (Or.inl ⟨by rfl, ?_⟩) hHeld ?_ ?_
  rotate_left
  · rintro w' ⟨s0, s1, s2⟩
    go_simp
    with_reducible rfl
  rotate_left
  · simp only [Act.put, List.setIfInBounds_toArray, List.set_cons_zero, List.set_cons_succ, i64_w, i32_w]
    rfl
  refine take_ (i := 9) (N := some 81) (v := ?_) (a' := ?_) #[true, true, true, true, true, true, true, true, true, true, true, true, false, false, false, false, false, false, false] rfl rfl (by kernel_rfl) (fun _ _ _ h => h) (Or.inl ⟨by rfl, ?_⟩) hHeld ?_ ?_
  rotate_left
  · rintro w' ⟨s0, s1, s2⟩
    go_simp
    with_reducible rfl
  rotate_left
  · simp only [Act.put, List.setIfInBounds_toArray, List.set_cons_zero, List.set_cons_succ, i64_w, i32_w]
    rfl
  refine pure_ (i := 12) (N := some 84) (v := ?_) (a' := ?_) #[true, true, true, true, true, true, true, true, true, true, true, true, true, false, false, false, false, false, false] rfl rfl (by kernel_rfl) (fun _ _ _ h => h) (Or.inl ⟨by rfl, ?_⟩) ?_ ?_
  rotate_left
  · intro w'
    go_simp
    with_reducible rfl
  rotate_left
  · simp only [Act.put, List.setIfInBounds_toArray, List.set_cons_zero, List.set_cons_succ, i64_w, i32_w]
    rfl
  refine take_ (i := 13) (N := some 85) (v := ?_) (a' := ?_) #[true, true, true, true, true, true, true, true, true, true, true, true, true, true, false, false, false, false, false] rfl rfl (by kernel_rfl) (fun _ _ _ h => h) (Or.inl ⟨by rfl, ?_⟩) hHeld ?_ ?_
  rotate_left
  · rintro w' ⟨s0, s1, s2⟩
    go_simp
    with_reducible rfl
  rotate_left
  · simp only [Act.put, List.setIfInBounds_toArray, List.set_cons_zero, List.set_cons_succ, i64_w, i32_w]
    rfl
  refine one_ (i := 14) (N := some 86) #[true, true, true, true, true, true, true, true, true, true, true, true, true, true, true, false, false, false, false] rfl rfl (by kernel_rfl) (by decide) (fun K hK => ?_)
  refine value_ (w1 := ?_) (v := ?_) (by rfl) rfl ?_ ?_
  rotate_left 2
  · go_simp
    constructor
    · rfl
    · rfl
  refine hK.out _ _ ⟨(by show World.cell? (World.alloc W8 _) _ = _; exact Lib.cell?_alloc_some _ nc1), (by show World.cell? (World.alloc W8 _) _ = _; exact Lib.cell?_alloc_some _ qc1), (by show World.cell? (World.alloc W8 _) _ = _; exact Lib.cell?_alloc_some _ ec1)⟩ (fun hHeld => ?_)
  clear hK K
  refine norm_ (a' := ?_) ?_ ?_
  rotate_left
  · show Act.put _ (some 86) _ = _
    simp only [Act.put, List.setIfInBounds_toArray, List.set_cons_zero, List.set_cons_succ, i64_w, i32_w]
    rfl
  refine one_ (i := 15) (N := some 87) #[true, true, true, true, true, true, true, true, true, true, true, true, true, true, true, true, false, false, false] rfl rfl (by kernel_rfl) (by decide) (fun K hK => ?_)
  refine goes_ Try.func47 (by kernel_rfl) rfl #[.slice av nv cv, .int .i64 i, .slice (some ⟨W8.heap.size, 0, none⟩) 1 1] (by rfl) rfl rfl (by simp only [List.map_toArray, List.map_cons, List.map_nil]; rfl) ?_
  with_reducible refine (insI (.slice av nv cv) i i W8.heap.size (.int .i64 y) (vs.map iv) _ (by first | exact Row.alD R1.out _ | exact Row.al R1.out _) li1.out rfl (by first | exact Row.litD W8 3 (.int .i64 y) | exact Row.lit W8 3 (.int .i64 y)) ne1.out rfl (map_iv_cell _) lt1.out).mono ?_
  rintro e w7 ⟨v6, rfl, r6, o6, k6⟩
  refine ⟨_, rfl, ?_⟩
  replace k6 : Chg (own (.slice av nv cv)) W8 w7 := by first | exact Chg.of_allocD k6 | exact Chg.of_alloc k6
  replace o6 : ∀ k, own v6 k → own (.slice av nv cv) k ∨ (W8.heap.size ≤ k ∧ k < w7.heap.size) := fun k hk => (o6 k hk).imp id (fun h => ⟨Nat.le_trans (by simp) h.1, h.2⟩)
  obtain ⟨av', nv', cv', rfl, l6⟩ := r6.form'
  have nc1' := k6.cell (p := ⟨n, 1, none⟩) nn1.out nc1
  have nf1' : w7.frozen? ⟨n, 1, none⟩ = false := (frozen_of_row _ n 1 _ _ (k6.heap nn1.out nblk.out))
  replace r6 := Hid.mk' r6
  replace o6 := Hid.mk' o6
  replace k6 := Hid.mk' k6
  refine hK.out _ _ ⟨nc1', (k6.out.cell (p := ⟨q, 1, none⟩) nq1.out qc1), (k6.out.cell (p := ⟨gv, d - 1, none⟩) ng1.out ec1)⟩ (fun hHeld => ?_)
  clear hK K
  refine norm_ (a' := ?_) ?_ ?_
  rotate_left
  · show Act.put _ (some 87) _ = _
    simp only [Act.put, List.setIfInBounds_toArray, List.set_cons_zero, List.set_cons_succ, i64_w, i32_w]
    rfl
  refine pure_ (i := 16) (N := some 88) (v := ?_) (a' := ?_) #[true, true, true, true, true, true, true, true, true, true, true, true, true, true, true, true, true, false, false] rfl rfl (by kernel_rfl) (fun _ _ _ h => h) (Or.inl ⟨by rfl, ?_⟩) ?_ ?_
  rotate_left
  · intro w'
    go_simp
    with_reducible rfl
  rotate_left
  · simp only [Act.put, List.setIfInBounds_toArray, List.set_cons_zero, List.set_cons_succ, i64_w, i32_w]
    rfl
  refine pure_ (i := 17) (N := some 89) (v := ?_) (a' := ?_) #[true, true, true, true, true, true, true, true, true, true, true, true, true, true, true, true, true, true, false] rfl rfl (by kernel_rfl) (fun _ _ _ h => h) (Or.inl ⟨by rfl, ?_⟩) ?_ ?_
  rotate_left
  · intro w'
    go_simp
    with_reducible rfl
  rotate_left
  · simp only [Act.put, List.setIfInBounds_toArray, List.set_cons_zero, List.set_cons_succ, i64_w, i32_w]
    rfl
  refine last_ (i := 18) (N := none) #[true, true, true, true, true, true, true, true, true, true, true, true, true, true, true, true, true, true, true] rfl rfl (by kernel_rfl) (by decide) (fun K hK => ?_)
  refine skip_ (w1 := ?_) (by rfl) rfl ?_ ?_
  rotate_left
  · go_simp
    rfl
  refine hK.out _ _ ?_
  clear hK K
  refine done_ (by kernel_rfl) ?_

  go_upto_region 7 with (fail)
  obtain ⟨W9, hW9⟩ : ∃ W9, W9 = w7.setCell ⟨n, 1, none⟩ (.slice av' nv' cv') := ⟨_, rfl⟩
  rw [← hW9]
  obtain ⟨nN9, kk9⟩ := nN8.out.step1 (k6.out) (show Row _ _ (.slice av' nv' cv') ((vs.take i ++ y :: vs.drop i).map iv) from (by have := r6.out; rwa [show ((vs.map iv).take i ++ .int .i64 y :: (vs.map iv).drop i) = ((vs.take i ++ y :: vs.drop i).map iv) from by simp [iv]] at this))
  rw [← hW9] at nN9 kk9
  have nQ9 := nQ8.out.chg kk9 (aNQ8.out.symm)
  have nR9 := nR8.out.chg kk9 (aNR8.out.symm)
  have aNQ9 := apart1 (o6.out) (aNQ8.out) nQ8.out.lt
  have aNR9 := apart1 (o6.out) (aNR8.out) nR8.out.lt
  have aQR9 := aQR8.out
  have sN9 := nset1 (o6.out) sN8.out (fun k h => .inr (Nat.le_trans kC8.out.size h))
  have sQ9 := sQ8.out
  have sR9 := sR8.out
  have kC9 := kC8.out.trans' kk9 (fun k h => (sN8.out k h).imp .inl id)
  replace hW9 := Hid.mk' hW9
  replace nN9 := Hid.mk' nN9
  replace nQ9 := Hid.mk' nQ9
  replace nR9 := Hid.mk' nR9
  replace aNQ9 := Hid.mk' aNQ9
  replace aNR9 := Hid.mk' aNR9
  replace aQR9 := Hid.mk' aQR9
  replace sN9 := Hid.mk' sN9
  replace sQ9 := Hid.mk' sQ9
  replace sR9 := Hid.mk' sR9
  replace kC9 := Hid.mk' kC9
  replace kk9 := Hid.mk' kk9
  clear nc1 qc1 ec1 nc1' nf1'
  have nc2 := nN9.out.c2
  have nblk := Hid.mk' nN9.out.blk
  have R2 := Hid.mk' nN9.out.rc
  have li2 : Hid (i + 1 ≤ (bs.map pv).length) := by show _ ≤ _; simp; omega
  have lt2 : Hid ((bs.map pv).length ≤ 1048576) := by show _ ≤ _; have := hl2.out; simp; omega
  have ne2 : Hid (¬ own (.slice (some ⟨gc, 0, none⟩) nc cc) W9.heap.size) := fun h => by have := R2.out.lt h; omega
  have nn2 : Hid (¬ own (.slice (some ⟨gc, 0, none⟩) nc cc) n) := R2.out.ne nblk.out (by decide)
  go_upto_region 8 with (go_at_call 48; refine (insN (.slice (some ⟨gc, 0, none⟩) nc cc) (i + 1) _ W9.heap.size (.pointer (some ⟨r, 0, none⟩)) (bs.map pv) _ (by first | exact Row.alD R2.out _ | exact Row.al R2.out _) li2.out (by omega) (by first | exact Row.litD W9 48 (.pointer (some ⟨r, 0, none⟩)) | exact Row.lit W9 48 (.pointer (some ⟨r, 0, none⟩))) ne2.out rfl (map_pv_cell _) lt2.out).mono ?_; rintro e w8 ⟨v8, rfl, r8, o8, k8⟩; replace k8 : Chg (own (.slice (some ⟨gc, 0, none⟩) nc cc)) W9 w8 := (by first | exact Chg.of_allocD k8 | exact Chg.of_alloc k8); replace o8 : ∀ k, own v8 k → own (.slice (some ⟨gc, 0, none⟩) nc cc) k ∨ (W9.heap.size ≤ k ∧ k < w8.heap.size) := (fun k hk => (o8 k hk).imp id (fun h => ⟨Nat.le_trans (by simp) h.1, h.2⟩)); obtain ⟨ac', nc', cc', rfl, l8⟩ := r8.form'; have nc2' := k8.cell (p := ⟨n, 2, none⟩) nn2.out nc2; have nf2' : w8.frozen? ⟨n, 2, none⟩ = false := (frozen_of_row _ n 2 _ _ (k8.heap nn2.out nblk.out)); replace r8 := Hid.mk' r8; replace o8 := Hid.mk' o8; replace k8 := Hid.mk' k8)
  obtain ⟨W10, hW10⟩ : ∃ W10, W10 = w8.setCell ⟨n, 2, none⟩ (.slice ac' nc' cc') := ⟨_, rfl⟩
  rw [← hW10]
  obtain ⟨nN10, kk10⟩ := nN9.out.step2 (k8.out) (show Row _ _ (.slice ac' nc' cc') ((bs.take (i + 1) ++ r :: bs.drop (i + 1)).map pv) from (by have := r8.out; rwa [show ((bs.map pv).take (i + 1) ++ Value.pointer (some ⟨r, 0, none⟩) :: (bs.map pv).drop (i + 1)) = ((bs.take (i + 1) ++ r :: bs.drop (i + 1)).map pv) from by simp [pv]] at this))
  rw [← hW10] at nN10 kk10
  have nQ10 := nQ9.out.chg kk10 (aNQ9.out.symm)
  have nR10 := nR9.out.chg kk10 (aNR9.out.symm)
  have aNQ10 := apart2 (o8.out) (aNQ9.out) nQ9.out.lt
  have aNR10 := apart2 (o8.out) (aNR9.out) nR9.out.lt
  have aQR10 := aQR9.out
  have sN10 := nset2 (o8.out) sN9.out (fun k h => .inr (Nat.le_trans kC9.out.size h))
  have sQ10 := sQ9.out
  have sR10 := sR9.out
  have kC10 := kC9.out.trans' kk10 (fun k h => (sN9.out k h).imp .inl id)
  replace hW10 := Hid.mk' hW10
  replace nN10 := Hid.mk' nN10
  replace nQ10 := Hid.mk' nQ10
  replace nR10 := Hid.mk' nR10
  replace aNQ10 := Hid.mk' aNQ10
  replace aNR10 := Hid.mk' aNR10
  replace aQR10 := Hid.mk' aQR10
  replace sN10 := Hid.mk' sN10
  replace sQ10 := Hid.mk' sQ10
  replace sR10 := Hid.mk' sR10
  replace kC10 := Hid.mk' kC10
  replace kk10 := Hid.mk' kk10
  clear nc2 nc2' nf2'
  have qc0 := nQ10.out.c0
  have qc1 := nQ10.out.c1
  have qblk := Hid.mk' nQ10.out.blk
  have lk1 : Hid (d - 1 = ((kks.map sv).take (d - 1)).length) := by show d - 1 = _; have := hkk'.out; simp; omega
  have lv1 : Hid (d - 1 = ((kvs.map iv).take (d - 1)).length) := by show d - 1 = _; have := hkv'.out; simp; omega
  have hck1 : Hid (∀ ad, some (⟨gk, 0, none⟩ : Addr) = some ad → ∀ j u, ((kks.map sv).take (d - 1))[j]? = some u → W10.drew.cell? (ad.add j) = some u) := (nQ10.out.rk.head (d - 1) (by omega)).2
  have hcv1 := Hid.mk' (nQ10.out.rv.head (d - 1) (by omega)).2
  have x1 : (d : Int) ≤ (dk : Int) + 1 := by omega
  have x2 : (d : Int) ≤ (dv : Int) + 1 := by omega
  have x3 : (d : Int) - 1 ≤ (dk : Int) := by omega
  have x4 : (d : Int) - 1 ≤ (dv : Int) := by omega
  have x5 : ¬ dk = 0 := by omega
  have x6 : ¬ dv = 0 := by omega
  refine start_ (n := 24) (S := fun w' => w'.cell? ⟨q, 0, none⟩ = some (.slice (some ⟨gk, 0, none⟩) m dk) ∧ w'.cell? ⟨q, 1, none⟩ = some (.slice (some ⟨gv, 0, none⟩) m dv)) (ds := [20, 23]) #[false, false, false, false, false, false, false, false, false, false, false, false, false, false, false, false, false, false, false, false, false, false, false, false] (by kernel_rfl) rfl rfl ⟨qc0, qc1⟩ (fun hHeld => ?_)
  refine pure_ (i := 0) (N := some 102) (v := ?_) (a' := ?_) #[true, false, false, false, false, false, false, false, false, false, false, false, false, false, false, false, false, false, false, false, false, false, false, false] rfl rfl (by kernel_rfl) (fun _ _ _ h => h) (Or.inl ⟨by rfl, ?_⟩) ?_ ?_
  rotate_left
  · intro w'
    go_simp
    with_reducible rfl
  rotate_left
  · simp only [Act.put, List.setIfInBounds_toArray, List.set_cons_zero, List.set_cons_succ, i64_w, i32_w]
    rfl
  refine pure_ (i := 1) (N := some 103) (v := ?_) (a' := ?_) #[true, true, false, false, false, false, false, false, false, false, false, false, false, false, false, false, false, false, false, false, false, false, false, false] rfl rfl (by kernel_rfl) (fun _ _ _ h => h) (Or.inl ⟨by rfl, ?_⟩) ?_ ?_
  rotate_left
  · intro w'
    go_simp
    with_reducible rfl
  rotate_left
  · simp only [Act.put, List.setIfInBounds_toArray, List.set_cons_zero, List.set_cons_succ, i64_w, i32_w]
    rfl
  refine pure_ (i := 2) (N := some 104) (v := ?_) (a' := ?_) #[true, true, true, false, false, false, false, false, false, false, false, false, false, false, false, false, false, false, false, false, false, false, false, false] rfl rfl (by kernel_rfl) (fun _ _ _ h => h) (Or.inl ⟨by rfl, ?_⟩) ?_ ?_
  rotate_left
  · intro w'
    go_simp
    with_reducible rfl
  rotate_left
  · simp only [Act.put, List.setIfInBounds_toArray, List.set_cons_zero, List.set_cons_succ, i64_w, i32_w]
    rfl
  refine pure_ (i := 3) (N := some 105) (v := ?_) (a' := ?_) #[true, true, true, true, false, false, false, false, false, false, false, false, false, false, false, false, false, false, false, false, false, false, false, false] rfl rfl (by kernel_rfl) (fun _ _ _ h => h) (Or.inl ⟨by rfl, ?_⟩) ?_ ?_
  rotate_left
  · intro w'
    go_simp
    with_reducible rfl
  rotate_left
  · simp only [Act.put, List.setIfInBounds_toArray, List.set_cons_zero, List.set_cons_succ, i64_w, i32_w]
    rfl
  refine pure_ (i := 4) (N := some 106) (v := ?_) (a' := ?_) #[true, true, true, true, true, false, false, false, false, false, false, false, false, false, false, false, false, false, false, false, false, false, false, false] rfl rfl (by kernel_rfl) (fun _ _ _ h => h) (Or.inl ⟨by rfl, ?_⟩) ?_ ?_
  rotate_left
  · intro w'
    go_simp
    with_reducible rfl
  rotate_left
  · simp only [Act.put, List.setIfInBounds_toArray, List.set_cons_zero, List.set_cons_succ, i64_w, i32_w]
    rfl
  refine pure_ (i := 6) (N := some 108) (v := ?_) (a' := ?_) #[true, true, true, true, true, false, true, false, false, false, false, false, false, false, false, false, false, false, false, false, false, false, false, false] rfl rfl (by kernel_rfl) (fun _ _ _ h => h) (Or.inl ⟨by rfl, ?_⟩) ?_ ?_
  rotate_left
  · intro w'
    go_simp
    with_reducible rfl
  rotate_left
  · simp only [Act.put, List.setIfInBounds_toArray, List.set_cons_zero, List.set_cons_succ, i64_w, i32_w]
    rfl
  refine pure_ (i := 7) (N := some 109) (v := ?_) (a' := ?_) #[true, true, true, true, true, false, true, true, false, false, false, false, false, false, false, false, false, false, false, false, false, false, false, false] rfl rfl (by kernel_rfl) (fun _ _ _ h => h) (Or.inl ⟨by rfl, ?_⟩) ?_ ?_
  rotate_left
  · intro w'
    go_simp
    with_reducible rfl
  rotate_left
  · simp only [Act.put, List.setIfInBounds_toArray, List.set_cons_zero, List.set_cons_succ, i64_w, i32_w]
    rfl
  refine pure_ (i := 10) (N := some 112) (v := ?_) (a' := ?_) #[true, true, true, true, true, false, true, true, false, false, true, false, false, false, false, false, false, false, false, false, false, false, false, false] rfl rfl (by kernel_rfl) (fun _ _ _ h => h) (Or.inl ⟨by rfl, ?_⟩) ?_ ?_
  rotate_left
  · intro w'
    go_simp
    with_reducible rfl
  rotate_left
  · simp only [Act.put, List.setIfInBounds_toArray, List.set_cons_zero, List.set_cons_succ, i64_w, i32_w]
    rfl
  refine pure_ (i := 11) (N := some 113) (v := ?_) (a' := ?_) #[true, true, true, true, true, false, true, true, false, false, true, true, false, false, false, false, false, false, false, false, false, false, false, false] rfl rfl (by kernel_rfl) (fun _ _ _ h => h) (Or.inl ⟨by rfl, ?_⟩) ?_ ?_
  rotate_left
  · intro w'
    go_simp
    with_reducible rfl
  rotate_left
  · simp only [Act.put, List.setIfInBounds_toArray, List.set_cons_zero, List.set_cons_succ, i64_w, i32_w]
    rfl
  refine pure_ (i := 12) (N := some 114) (v := ?_) (a' := ?_) #[true, true, true, true, true, false, true, true, false, false, true, true, true, false, false, false, false, false, false, false, false, false, false, false] rfl rfl (by kernel_rfl) (fun _ _ _ h => h) (Or.inl ⟨by rfl, ?_⟩) ?_ ?_
  rotate_left
  · intro w'
    go_simp
    with_reducible rfl
  rotate_left
  · simp only [Act.put, List.setIfInBounds_toArray, List.set_cons_zero, List.set_cons_succ, i64_w, i32_w]
    rfl
  refine pure_ (i := 14) (N := some 116) (v := ?_) (a' := ?_) #[true, true, true, true, true, false, true, true, false, false, true, true, true, false, true, false, false, false, false, false, false, false, false, false] rfl rfl (by kernel_rfl) (fun _ _ _ h => h) (Or.inl ⟨by rfl, ?_⟩) ?_ ?_
  rotate_left
  · intro w'
    go_simp
    with_reducible rfl
  rotate_left
  · simp only [Act.put, List.setIfInBounds_toArray, List.set_cons_zero, List.set_cons_succ, i64_w, i32_w]
    rfl
  refine pure_ (i := 15) (N := some 117) (v := ?_) (a' := ?_) #[true, true, true, true, true, false, true, true, false, false, true, true, true, false, true, true, false, false, false, false, false, false, false, false] rfl rfl (by kernel_rfl) (fun _ _ _ h => h) (Or.inl ⟨by rfl, ?_⟩) ?_ ?_
  rotate_left
  · intro w'
    go_simp
    with_reducible rfl
  rotate_left
  · simp only [Act.put, List.setIfInBounds_toArray, List.set_cons_zero, List.set_cons_succ, i64_w, i32_w]
    rfl
  refine take_ (i := 5) (N := some 107) (v := ?_) (a' := ?_) #[true, true, true, true, true, true, true, true, false, false, true, true, true, false, true, true, false, false, false, false, false, false, false, false] rfl rfl (by kernel_rfl) (fun _ _ _ h => h) (Or.inl ⟨by rfl, ?_⟩) hHeld ?_ ?_
  rotate_left
  · rintro w' ⟨s0, s1⟩
    go_simp
    with_reducible rfl
  rotate_left
  · simp only [Act.put, List.setIfInBounds_toArray, List.set_cons_zero, List.set_cons_succ, i64_w, i32_w]
    rfl
  refine pure_ (i := 8) (N := some 110) (v := ?_) (a' := ?_) #[true, true, true, true, true, true, true, true, true, false, true, true, true, false, true, true, false, false, false, false, false, false, false, false] rfl rfl (by kernel_rfl) (fun _ _ _ h => h) (Or.inl ⟨by rfl, ?_⟩) ?_ ?_
  rotate_left
  · intro w'
    go_simp
    with_reducible rfl
  rotate_left
  · simp only [Act.put, List.setIfInBounds_toArray, List.set_cons_zero, List.set_cons_succ, i64_w, i32_w]
    rfl
  refine take_ (i := 13) (N := some 115) (v := ?_) (a' := ?_) #[true, true, true, true, true, true, true, true, true, false, true, true, true, true, true, true, false, false, false, false, false, false, false, false] rfl rfl (by kernel_rfl) (fun _ _ _ h => h) (Or.inl ⟨by rfl, ?_⟩) hHeld ?_ ?_
  rotate_left
  · rintro w' ⟨s0, s1⟩
    go_simp
    with_reducible rfl
  rotate_left
  · simp only [Act.put, List.setIfInBounds_toArray, List.set_cons_zero, List.set_cons_succ, i64_w, i32_w]
    rfl
  refine pure_ (i := 16) (N := some 118) (v := ?_) (a' := ?_) #[true, true, true, true, true, true, true, true, true, false, true, true, true, true, true, true, true, false, false, false, false, false, false, false] rfl rfl (by kernel_rfl) (fun _ _ _ h => h) (Or.inl ⟨by rfl, ?_⟩) ?_ ?_
  rotate_left
  · intro w'
    go_simp
    with_reducible rfl
  rotate_left
  · simp only [Act.put, List.setIfInBounds_toArray, List.set_cons_zero, List.set_cons_succ, i64_w, i32_w]
    rfl
  refine one_ (i := 9) (N := some 111) #[true, true, true, true, true, true, true, true, true, true, true, true, true, true, true, true, true, false, false, false, false, false, false, false] rfl rfl (by kernel_rfl) (by decide) (fun K hK => ?_)
  refine goes_ Try.func43 (by kernel_rfl) rfl #[.slice (some ⟨gk, 0, none⟩) (d - 1) dk] (by rfl) rfl rfl (by simp only [List.map_toArray, List.map_cons, List.map_nil]; rfl) ?_
  with_reducible refine (cloneS (some ⟨gk, 0, none⟩) (d - 1) dk ((kks.map sv).take (d - 1)) _ (lk1.out) (by simp) hck1.out (fun u hu => map_sv_cell kks u (List.mem_of_mem_take hu)) (by have := lk1.out; omega)).mono ?_
  rintro e w9 ⟨v9, rfl, r9, o9, k9⟩
  refine ⟨_, rfl, ?_⟩
  replace k9 := k9.undrew
  obtain ⟨a9, n9, c9, rfl, l9⟩ := r9.form'
  replace r9 := Hid.mk' r9
  replace o9 : Hid (∀ k, own (.slice a9 n9 c9) k → W10.heap.size ≤ k ∧ k < w9.heap.size) := o9
  replace k9 := Hid.mk' k9
  refine hK.out _ _ ⟨(k9.out.cell (fun h => h) qc0), (k9.out.cell (fun h => h) qc1)⟩ (fun hHeld => ?_)
  clear hK K
  refine norm_ (a' := ?_) ?_ ?_
  rotate_left
  · show Act.put _ (some 111) _ = _
    simp only [Act.put, List.setIfInBounds_toArray, List.set_cons_zero, List.set_cons_succ, i64_w, i32_w]
    rfl
  refine one_ (i := 17) (N := some 119) #[true, true, true, true, true, true, true, true, true, true, true, true, true, true, true, true, true, true, false, false, false, false, false, false] rfl rfl (by kernel_rfl) (by decide) (fun K hK => ?_)
  refine goes_ Try.func44 (by kernel_rfl) rfl #[.slice (some ⟨gv, 0, none⟩) (d - 1) dv] (by rfl) rfl rfl (by simp only [List.map_toArray, List.map_cons, List.map_nil]; rfl) ?_
  with_reducible refine (cloneI (some ⟨gv, 0, none⟩) (d - 1) dv ((kvs.map iv).take (d - 1)) _ (lv1.out) (by simp) (fun ad had j u hu => k9.out.cell (fun h => h) (hcv1.out ad had j u hu)) (fun u hu => map_iv_cell kvs u (List.mem_of_mem_take hu)) (by have := lv1.out; omega)).mono ?_
  rintro e w10 ⟨v10, rfl, r10, o10, k10⟩
  refine ⟨_, rfl, ?_⟩
  obtain ⟨a10, n10, c10, rfl, l10⟩ := r10.form'
  have qc0' := k10.cell (fun h => h) (k9.out.cell (fun h => h) qc0)
  have qc1' := k10.cell (fun h => h) (k9.out.cell (fun h => h) qc1)
  have qf0' : w10.frozen? ⟨q, 0, none⟩ = false := (frozen_of_row _ q 0 _ _ (k10.heap (fun h => h) (k9.out.heap (fun h => h) qblk.out)))
  have qf1' : w10.frozen? ⟨q, 1, none⟩ = false := (frozen_of_row _ q 1 _ _ (k10.heap (fun h => h) (k9.out.heap (fun h => h) qblk.out)))
  replace r10 := Hid.mk' r10
  replace o10 := Hid.mk' o10
  replace k10 := Hid.mk' k10
  refine hK.out _ _ ⟨qc0', qc1'⟩ (fun hHeld => ?_)
  clear hK K
  refine norm_ (a' := ?_) ?_ ?_
  rotate_left
  · show Act.put _ (some 119) _ = _
    simp only [Act.put, List.setIfInBounds_toArray, List.set_cons_zero, List.set_cons_succ, i64_w, i32_w]
    rfl
  refine pure_ (i := 18) (N := some 120) (v := ?_) (a' := ?_) #[true, true, true, true, true, true, true, true, true, true, true, true, true, true, true, true, true, true, true, false, false, false, false, false] rfl rfl (by kernel_rfl) (fun _ _ _ h => h) (Or.inl ⟨by rfl, ?_⟩) ?_ ?_
  rotate_left
  · intro w'
    go_simp
    with_reducible rfl
  rotate_left
  · simp only [Act.put, List.setIfInBounds_toArray, List.set_cons_zero, List.set_cons_succ, i64_w, i32_w]
    rfl
  refine pure_ (i := 19) (N := some 121) (v := ?_) (a' := ?_) #[true, true, true, true, true, true, true, true, true, true, true, true, true, true, true, true, true, true, true, true, false, false, false, false] rfl rfl (by kernel_rfl) (fun _ _ _ h => h) (Or.inl ⟨by rfl, ?_⟩) ?_ ?_
  rotate_left
  · intro w'
    go_simp
    with_reducible rfl
  rotate_left
  · simp only [Act.put, List.setIfInBounds_toArray, List.set_cons_zero, List.set_cons_succ, i64_w, i32_w]
    rfl
  refine last_ (i := 20) (N := none) #[true, true, true, true, true, true, true, true, true, true, true, true, true, true, true, true, true, true, true, true, true, false, false, false] rfl rfl (by kernel_rfl) (by decide) (fun K hK => ?_)
  refine skip_ (w1 := ?_) (by rfl) rfl ?_ ?_
  rotate_left
  · go_simp
    rfl
  refine hK.out _ _ ?_
  clear hK K
  refine pure_ (i := 21) (N := some 122) (v := ?_) (a' := ?_) #[true, true, true, true, true, true, true, true, true, true, true, true, true, true, true, true, true, true, true, true, true, true, false, false] rfl rfl (by kernel_rfl) (fun _ _ _ h => h) (Or.inl ⟨by rfl, ?_⟩) ?_ ?_
  rotate_left
  · intro w'
    go_simp
    with_reducible rfl
  rotate_left
  · simp only [Act.put, List.setIfInBounds_toArray, List.set_cons_zero, List.set_cons_succ, i64_w, i32_w]
    rfl
  refine pure_ (i := 22) (N := some 123) (v := ?_) (a' := ?_) #[true, true, true, true, true, true, true, true, true, true, true, true, true, true, true, true, true, true, true, true, true, true, true, false] rfl rfl (by kernel_rfl) (fun _ _ _ h => h) (Or.inl ⟨by rfl, ?_⟩) ?_ ?_
  rotate_left
  · intro w'
    go_simp
    with_reducible rfl
  rotate_left
  · simp only [Act.put, List.setIfInBounds_toArray, List.set_cons_zero, List.set_cons_succ, i64_w, i32_w]
    rfl
  refine last_ (i := 23) (N := none) #[true, true, true, true, true, true, true, true, true, true, true, true, true, true, true, true, true, true, true, true, true, true, true, true] rfl rfl (by kernel_rfl) (by decide) (fun K hK => ?_)
  refine skip_ (w1 := ?_) (by rfl) rfl ?_ ?_
  rotate_left
  · go_simp
    rfl
  refine hK.out _ _ ?_
  clear hK K
  refine done_ (by kernel_rfl) ?_
  go_wp2_with fail
  go_end0
  obtain ⟨W11, hW11⟩ : ∃ W11, W11 = w10.setCell ⟨q, 0, none⟩ (.slice a9 n9 c9) := ⟨_, rfl⟩
  rw [← hW11]
  have o9' : ∀ k, own (.slice a9 n9 c9) k → own (.slice (some ⟨gk, 0, none⟩) m dk) k ∨ (W10.heap.size ≤ k ∧ k < w10.heap.size) := fun k hk => .inr ⟨(o9.out k hk).1, Nat.lt_of_lt_of_le (o9.out k hk).2 k10.out.size⟩
  obtain ⟨nQ11, kk11⟩ := nQ10.out.step0 ((k9.out.trans k10.out).mono fun _ h => h.elim) (show Row _ _ (.slice a9 n9 c9) ((kks.take (d - 1)).map sv) from (by rw [List.map_take]; exact r9.out.chg k10.out fun _ _ h => h))
  rw [← hW11] at nQ11 kk11
  have nN11 := nN10.out.chg kk11 (aNQ10.out)
  have nR11 := nR10.out.chg kk11 (aQR10.out.symm)
  have aNQ11 := (apart0 (o9') (aNQ10.out.symm) nN10.out.lt).symm
  have aQR11 := apart0 (o9') (aQR10.out) nR10.out.lt
  have aNR11 := aNR10.out
  have sQ11 := nset0 (o9') sQ10.out (fun k h => .inr (Nat.le_trans kC10.out.size h))
  have sN11 := sN10.out
  have sR11 := sR10.out
  have kC11 := kC10.out.trans' kk11 (fun k h => (sQ10.out k h).imp .inr id)
  replace hW11 := Hid.mk' hW11
  replace nN11 := Hid.mk' nN11
  replace nQ11 := Hid.mk' nQ11
  replace nR11 := Hid.mk' nR11
  replace aNQ11 := Hid.mk' aNQ11
  replace aNR11 := Hid.mk' aNR11
  replace aQR11 := Hid.mk' aQR11
  replace sN11 := Hid.mk' sN11
  replace sQ11 := Hid.mk' sQ11
  replace sR11 := Hid.mk' sR11
  replace kC11 := Hid.mk' kC11
  replace kk11 := Hid.mk' kk11
  obtain ⟨W12, hW12⟩ : ∃ W12, W12 = W11.setCell ⟨q, 1, none⟩ (.slice a10 n10 c10) := ⟨_, rfl⟩
  rw [← hW12]
  have h10 : ∀ k, own (.slice a10 n10 c10) k → W10.heap.size ≤ k ∧ k < w10.heap.size := fun k hk => ⟨Nat.le_trans k9.out.size (o10.out k hk).1, (o10.out k hk).2⟩
  have nq10 : ¬ own (.slice a10 n10 c10) q := fun h => by have := (h10 q h).1; have := nQ10.out.lt q (.inl rfl); omega
  have r10' : Row W11 3 (.slice a10 n10 c10) ((kvs.take (d - 1)).map iv) := by rw [hW11.out, List.map_take]; exact r10.out.setOther nq10
  have k11 : Chg (own (.slice (some ⟨gv, 0, none⟩) m dv)) W11 W11 := Chg.refl _ _
  have o11 : ∀ k, own (.slice a10 n10 c10) k → own (.slice (some ⟨gv, 0, none⟩) m dv) k ∨ (W10.heap.size ≤ k ∧ k < w10.heap.size) := fun k hk => .inr (h10 k hk)
  obtain ⟨nQ12, kk12⟩ := nQ11.out.step1 k11 r10'
  rw [← hW12] at nQ12 kk12
  have nN12 := nN11.out.chg kk12 aNQ11.out
  have nR12 := nR11.out.chg kk12 aQR11.out.symm
  have aNQ12 := (apart1 o11 aNQ11.out.symm nN10.out.lt).symm
  have aQR12 := apart1 o11 aQR11.out nR10.out.lt
  have sQ12 := nset1 o11 sQ11.out (fun k h => .inr (Nat.le_trans kC10.out.size h))
  have kC12 := kC11.out.trans' kk12 (fun k h => (sQ11.out k h).imp .inr id)
  exact ⟨_, _, _, _, _, _, r, _, _, _, rfl, nN12, (by simpa using nQ12), (by simpa using nR12), aNQ12, aNR11.out, aQR12, sN11.out, sQ12, sR11.out, kC12⟩

end Go.Proofs.Ytamnmoejjjaegaa
