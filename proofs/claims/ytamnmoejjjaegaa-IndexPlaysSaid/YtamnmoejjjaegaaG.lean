/- What (*node).clone returns: a tree of blocks of its own that reads alike. Conditions: the form of a B-tree of a degree of at most 32. -/
import Derived.Test.YtamnmoejjjaegaaR
import Derived.Test.YtamnmoejjjaegaaW
import Derived.Deep.LoopGhost
set_option linter.unusedVariables false
set_option linter.unusedSimpArgs false
namespace Go.Proofs.Ytamnmoejjjaegaa
open Go Go.RowKit Go.Proofs.YtamnmoejjjaegaaW.PrintLast

theorem Row.whole {w : World} {E : TypeId} {a : Option Addr} {n c : Nat} {xs : List Value} (h : Row w E (.slice a n c) xs) : (a = none → xs = [] ∧ c = 0) ∧ ∀ ad, a = some ad → ∀ j u, xs[j]? = some u → w.cell? (ad.add j) = some u := by
  have hn := h.cap_le.1
  have := h.head n (Nat.le_refl _)
  rwa [List.take_of_length_le (by omega)] at this
theorem cloneSR (a : Option Addr) (n c : Nat) (xs : List Value) (w : World) (h : Row w 9 (.slice a n c) xs) (h1 : ∀ u ∈ xs, u.oneCell' = true) (hb : xs.length ≤ 1048576) :
    Calls Try.prog 43 #[.slice a n c] w fun e w' => ∃ v', e = .returned v' ∧ Row w' 9 v' xs ∧ (∀ k, own v' k → w.heap.size ≤ k ∧ k < w'.heap.size) ∧ Chg NoB w w' :=
  cloneS a n c xs w h.cap_le.1 h.whole.1 h.whole.2 h1 hb
theorem cloneIR (a : Option Addr) (n c : Nat) (xs : List Value) (w : World) (h : Row w 3 (.slice a n c) xs) (h1 : ∀ u ∈ xs, u.oneCell' = true) (hb : xs.length ≤ 1048576) :
    Calls Try.prog 44 #[.slice a n c] w fun e w' => ∃ v', e = .returned v' ∧ Row w' 3 v' xs ∧ (∀ k, own v' k → w.heap.size ≤ k ∧ k < w'.heap.size) ∧ Chg NoB w w' :=
  cloneI a n c xs w h.cap_le.1 h.whole.1 h.whole.2 h1 hb

/-- What stands behind some children's copies. -/
def Grown (w : World) (h r : Nat) (vk vv vc : Value) (ks : List ByteArray) (vs : List Int) (cs : List BT) (wr : World) : Prop :=
  ∃ kbs SF, Nd wr r vk vv vc ks vs kbs ∧ Forest (Tree wr h) kbs cs SF ∧ (∀ k, nset r vk vv vc k → w.heap.size ≤ k) ∧ (∀ k, SF k → w.heap.size ≤ k) ∧ (∀ k, SF k → k < wr.heap.size) ∧ Apart (nset r vk vv vc) SF ∧ Chg NoB w wr

theorem Grown.next {w wr w1 w2 : World} {h r s : Nat} {vk vv vc v2 : Value} {ks : List ByteArray} {vs : List Int} {cs : List BT} {c : BT} (hg : Grown w h r vk vv vc ks vs cs wr) (hT : Tree w1 h s c (fun k => wr.heap.size ≤ k)) (k1 : Chg NoB wr w1)
    (kbs : List Nat) (hk : ∀ (uk uv : Value) (ks' : List ByteArray) (vs' : List Int) (kb' : List Nat), Nd wr r uk uv vc ks' vs' kb' → kb' = kbs) (r2 : Row w2 48 v2 (kbs.map pv ++ [pv s])) (o2 : ∀ k, own v2 k → own vc k ∨ (w1.heap.size ≤ k ∧ k < w2.heap.size)) (k2 : Chg (own vc) w1 w2) :
    Grown w h r vk vv v2 ks vs (cs ++ [c]) (w2.setCell ⟨r, 2, none⟩ v2) := by
  obtain ⟨kb', SF, hN, hF, g1, g2, g3, g4, g5⟩ := hg
  obtain rfl := hk _ _ _ _ _ hN
  have hN1 := hN.chg k1 (fun _ _ h => h)
  obtain ⟨n3, c3⟩ := hN1.step2 (bs' := kb' ++ [s]) k2 (by simpa using r2)
  have hF1 := (hF.chg k1 h _ _ _ (fun _ _ h => h)).chg c3 h _ _ _ g4.symm
  have far : ∀ k, nset r vk vv vc k → k < wr.heap.size := hN.lt
  have hT1 := (Tree.there _ _ _ _ hT).chg c3 h s c (S := _) (fun k a b => by have := far k b; have := a.1; omega)
  have hsz := g5.size
  have hsz1 := k1.size
  have nlt := n3.lt
  have nsub : ∀ k, nset r vk vv v2 k → nset r vk vv vc k ∨ w1.heap.size ≤ k := by
    rintro k (e | e | e | e)
    · exact .inl (.inl e)
    · exact .inl (.inr (.inl e))
    · exact .inl (.inr (.inr (.inl e)))
    · exact (o2 k e).imp (fun e => .inr (.inr (.inr e))) (fun e => e.1)
  refine ⟨kb' ++ [s], fun k => SF k ∨ (wr.heap.size ≤ k ∧ k < w1.heap.size), n3, ?_, ?_, ?_, ?_, ?_, ?_⟩
  · exact Forest.append _ _ _ _ SF _ _ hF1 (Forest.single hT1) (fun k a b => by have := g3 k a; have := b.1; omega) (fun _ h => .inl h) (fun _ h => .inr h)
  · exact fun k h => (nsub k h).elim (g1 k) fun h => by omega
  · exact fun k h => h.elim (g2 k) fun h => by have := h.1; omega
  · have := c3.size
    exact fun k h => h.elim (fun h => by have := g3 k h; omega) fun h => by have := h.2; omega
  · rintro k h (a | a)
    · rcases nsub k h with h | h
      · exact g4 k h a
      · have := g3 k a; omega
    · rcases nsub k h with h | h
      · have := far k h; have := a.1; omega
      · have := a.2; omega
  · exact (g5.trans k1).trans' c3 fun k h => .inr (g1 k h)

set_option maxHeartbeats 16000000 in
set_option maxRecDepth 100000 in
theorem clone_walk (b h : Nat) (vk vv vc : Value) (ks : List ByteArray) (vs : List Int) (bs : List Nat) (cs : List BT) (w : World) (hN : Nd w b vk vv vc ks vs bs) (l1 : ks.length ≤ 64) (l2 : vs.length ≤ 64) (l3 : bs.length ≤ 65) (hlen : bs.length = cs.length)
    (hkid : ∀ (i q : Nat) (c : BT), bs[i]? = some q → cs[i]? = some c → ∀ W : World, Chg NoB w W → Calls Try.prog 26 #[.pointer (some ⟨q, 0, none⟩)] W fun e w' => ∃ r, e = .returned (.pointer (some ⟨r, 0, none⟩)) ∧ Tree w' h r c (fun k => W.heap.size ≤ k) ∧ Chg NoB W w') :
    Calls Try.prog 26 #[.pointer (some ⟨b, 0, none⟩)] w fun e w' => ∃ r vk' vv' vc', e = .returned (.pointer (some ⟨r, 0, none⟩)) ∧ Grown w h r vk' vv' vc' ks vs cs w' := by
  obtain ⟨ak, nk, ck, av, nv, cv, ac, nc, cc, rfl, rfl, rfl, lk0, lv0, lc0⟩ := hN.form'
  have c0 := hN.c0
  have c1 := hN.c1
  have c2 := hN.c2
  have RK := Hid.mk' hN.rk
  have RV := Hid.mk' hN.rv
  have ln0 : Hid ((ks.map sv).length ≤ 1048576) := by show _ ≤ _; simp; omega
  have ln1 : Hid ((vs.map iv).length ≤ 1048576) := by show _ ≤ _; simp; omega
  have hN' := Hid.mk' hN
  have hkid' := Hid.mk' hkid
  have hlen' := Hid.mk' hlen
  have l3' := Hid.mk' l3
  clear hN hkid hlen l1 l2 l3
  go_enter Try.func26, Try.ntmps26
  go_upto_region 1 with (fail)
  refine start_ (n := 13) (S := fun w' => w'.cell? ⟨b, 0, none⟩ = some (.slice ak nk ck) ∧ w'.cell? ⟨b, 1, none⟩ = some (.slice av nv cv)) (ds := []) #[false, false, false, false, false, false, false, false, false, false, false, false, false] (by kernel_rfl) rfl rfl ⟨c0, c1⟩ (fun hHeld => ?_)
  refine pure_ (i := 0) (N := some 6) (v := ?_) (a' := ?_) #[true, false, false, false, false, false, false, false, false, false, false, false, false] rfl rfl (by kernel_rfl) (fun _ _ _ h => h) (Or.inl ⟨by rfl, ?_⟩) ?_ ?_
  rotate_left
  · intro w'
    go_simp
    with_reducible rfl
  rotate_left
  · simp only [Act.put, List.setIfInBounds_toArray, List.set_cons_zero, List.set_cons_succ, i64_w, i32_w]
    rfl
  refine pure_ (i := 1) (N := some 7) (v := ?_) (a' := ?_) #[true, true, false, false, false, false, false, false, false, false, false, false, false] rfl rfl (by kernel_rfl) (fun _ _ _ h => h) (Or.inl ⟨by rfl, ?_⟩) ?_ ?_
  rotate_left
  · intro w'
    go_simp
    with_reducible rfl
  rotate_left
  · simp only [Act.put, List.setIfInBounds_toArray, List.set_cons_zero, List.set_cons_succ, i64_w, i32_w]
    rfl
  refine pure_ (i := 2) (N := some 8) (v := ?_) (a' := ?_) #[true, true, true, false, false, false, false, false, false, false, false, false, false] rfl rfl (by kernel_rfl) (fun _ _ _ h => h) (Or.inl ⟨by rfl, ?_⟩) ?_ ?_
  rotate_left
  · intro w'
    go_simp
    with_reducible rfl
  rotate_left
  · simp only [Act.put, List.setIfInBounds_toArray, List.set_cons_zero, List.set_cons_succ, i64_w, i32_w]
    rfl
  refine pure_ (i := 5) (N := some 11) (v := ?_) (a' := ?_) #[true, true, true, false, false, true, false, false, false, false, false, false, false] rfl rfl (by kernel_rfl) (fun _ _ _ h => h) (Or.inl ⟨by rfl, ?_⟩) ?_ ?_
  rotate_left
  · intro w'
    go_simp
    with_reducible rfl
  rotate_left
  · simp only [Act.put, List.setIfInBounds_toArray, List.set_cons_zero, List.set_cons_succ, i64_w, i32_w]
    rfl
  refine pure_ (i := 6) (N := some 12) (v := ?_) (a' := ?_) #[true, true, true, false, false, true, true, false, false, false, false, false, false] rfl rfl (by kernel_rfl) (fun _ _ _ h => h) (Or.inl ⟨by rfl, ?_⟩) ?_ ?_
  rotate_left
  · intro w'
    go_simp
    with_reducible rfl
  rotate_left
  · simp only [Act.put, List.setIfInBounds_toArray, List.set_cons_zero, List.set_cons_succ, i64_w, i32_w]
    rfl
  refine pure_ (i := 7) (N := some 13) (v := ?_) (a' := ?_) #[true, true, true, false, false, true, true, true, false, false, false, false, false] rfl rfl (by kernel_rfl) (fun _ _ _ h => h) (Or.inl ⟨by rfl, ?_⟩) ?_ ?_
  rotate_left
  · intro w'
    go_simp
    with_reducible rfl
  rotate_left
  · simp only [Act.put, List.setIfInBounds_toArray, List.set_cons_zero, List.set_cons_succ, i64_w, i32_w]
    rfl
  refine take_ (i := 3) (N := some 9) (v := ?_) (a' := ?_) #[true, true, true, true, false, true, true, true, false, false, false, false, false] rfl rfl (by kernel_rfl) (fun _ _ _ h => h) (Or.inl ⟨by rfl, ?_⟩) hHeld ?_ ?_
  rotate_left
  · rintro w' ⟨s0, s1⟩
    go_simp
    with_reducible rfl
  rotate_left
  · simp only [Act.put, List.setIfInBounds_toArray, List.set_cons_zero, List.set_cons_succ, i64_w, i32_w]
    rfl
  refine take_ (i := 8) (N := some 14) (v := ?_) (a' := ?_) #[true, true, true, true, false, true, true, true, true, false, false, false, false] rfl rfl (by kernel_rfl) (fun _ _ _ h => h) (Or.inl ⟨by rfl, ?_⟩) hHeld ?_ ?_
  rotate_left
  · rintro w' ⟨s0, s1⟩
    go_simp
    with_reducible rfl
  rotate_left
  · simp only [Act.put, List.setIfInBounds_toArray, List.set_cons_zero, List.set_cons_succ, i64_w, i32_w]
    rfl
  refine one_ (i := 4) (N := some 10) #[true, true, true, true, true, true, true, true, true, false, false, false, false] rfl rfl (by kernel_rfl) (by decide) (fun K hK => ?_)
  refine goes_ Try.func43 (by kernel_rfl) rfl #[.slice ak nk ck] (by rfl) rfl rfl (by simp only [List.map_toArray, List.map_cons, List.map_nil]; rfl) ?_
  with_reducible refine (cloneSR ak nk ck (ks.map sv) _ (by first | exact RK.out | exact RK.out.dr) (map_sv_cell _) ln0.out).mono ?_
  rintro e w3 ⟨v3, rfl, r3, o3, k3⟩
  refine ⟨_, rfl, ?_⟩
  replace k3 : Chg NoB w w3 := by first | exact k3 | exact k3.undrew
  replace o3 : ∀ k, own v3 k → w.heap.size ≤ k ∧ k < w3.heap.size := o3
  obtain ⟨a3, n3, c3, rfl, l3⟩ := r3.form'
  have RV3 := Hid.mk' (RV.out.chg k3 (fun _ _ h => h))
  replace r3 := Hid.mk' r3
  replace o3 := Hid.mk' o3
  replace k3 := Hid.mk' k3
  refine hK.out _ _ ⟨(k3.out.cell (fun h => h) c0), (k3.out.cell (fun h => h) c1)⟩ (fun hHeld => ?_)
  clear hK K
  refine norm_ (a' := ?_) ?_ ?_
  rotate_left
  · show Act.put _ (some 10) _ = _
    simp only [Act.put, List.setIfInBounds_toArray, List.set_cons_zero, List.set_cons_succ, i64_w, i32_w]
    rfl
  refine one_ (i := 9) (N := some 15) #[true, true, true, true, true, true, true, true, true, true, false, false, false] rfl rfl (by kernel_rfl) (by decide) (fun K hK => ?_)
  refine goes_ Try.func44 (by kernel_rfl) rfl #[.slice av nv cv] (by rfl) rfl rfl (by simp only [List.map_toArray, List.map_cons, List.map_nil]; rfl) ?_
  with_reducible refine (cloneIR av nv cv (vs.map iv) _ RV3.out (map_iv_cell _) ln1.out).mono ?_
  rintro e w4 ⟨v4, rfl, r4, o4, k4⟩
  refine ⟨_, rfl, ?_⟩
  obtain ⟨a4, n4, c4, rfl, l4⟩ := r4.form'
  replace r4 := Hid.mk' r4
  replace o4 := Hid.mk' o4
  replace k4 := Hid.mk' k4
  refine hK.out _ _ ⟨(k4.out.cell (fun h => h) (k3.out.cell (fun h => h) c0)), (k4.out.cell (fun h => h) (k3.out.cell (fun h => h) c1))⟩ (fun hHeld => ?_)
  clear hK K
  refine norm_ (a' := ?_) ?_ ?_
  rotate_left
  · show Act.put _ (some 15) _ = _
    simp only [Act.put, List.setIfInBounds_toArray, List.set_cons_zero, List.set_cons_succ, i64_w, i32_w]
    rfl
  refine pure_ (i := 10) (N := some 16) (v := ?_) (a' := ?_) #[true, true, true, true, true, true, true, true, true, true, true, false, false] rfl rfl (by kernel_rfl) (fun _ _ _ h => h) (Or.inl ⟨by rfl, ?_⟩) ?_ ?_
  rotate_left
  · intro w'
    go_simp
    with_reducible rfl
  rotate_left
  · simp only [Act.put, List.setIfInBounds_toArray, List.set_cons_zero, List.set_cons_succ, i64_w, i32_w]
    rfl
  refine one_ (i := 11) (N := some 17) #[true, true, true, true, true, true, true, true, true, true, true, true, false] rfl rfl (by kernel_rfl) (by decide) (fun K hK => ?_)
  refine value_ (w1 := ?_) (v := ?_) (by rfl) rfl ?_ ?_
  rotate_left 2
  · go_simp
    constructor
    · rfl
    · rfl
  refine hK.out _ _ ⟨(Lib.cell?_alloc_some _ (k4.out.cell (fun h => h) (k3.out.cell (fun h => h) c0))), (Lib.cell?_alloc_some _ (k4.out.cell (fun h => h) (k3.out.cell (fun h => h) c1)))⟩ (fun hHeld => ?_)
  clear hK K
  refine norm_ (a' := ?_) ?_ ?_
  rotate_left
  · show Act.put _ (some 17) _ = _
    simp only [Act.put, List.setIfInBounds_toArray, List.set_cons_zero, List.set_cons_succ, i64_w, i32_w]
    rfl
  refine pure_ (i := 12) (N := some 3) (v := ?_) (a' := ?_) #[true, true, true, true, true, true, true, true, true, true, true, true, true] rfl rfl (by kernel_rfl) (fun _ _ _ h => h) (Or.inl ⟨by rfl, ?_⟩) ?_ ?_
  rotate_left
  · intro w'
    go_simp
    with_reducible rfl
  rotate_left
  · simp only [Act.put, List.setIfInBounds_toArray, List.set_cons_zero, List.set_cons_succ, i64_w, i32_w]
    rfl
  refine done_ (by kernel_rfl) ?_
  go_upto_region 2 with (fail)
  obtain ⟨W5, hW5⟩ : ∃ W5, W5 = w4.alloc (.cells #[.slice a3 n3 c3, .slice a4 n4 c4, .slice none 0 0] 54) := ⟨_, rfl⟩
  rw [← hW5]
  obtain ⟨r, hr⟩ : ∃ r, r = w4.heap.size := ⟨_, rfl⟩
  rw [← hr]
  have g0 : Hid (Grown w h r (.slice a3 n3 c3) (.slice a4 n4 c4) (.slice none 0 0) ks vs [] W5) := by
    have k5 : Chg NoB w4 W5 := by rw [hW5]; exact (Chg.refl _ _).alloc _
    have s1 := k3.out.size
    have s2 := k4.out.size
    refine ⟨[], fun _ => False, ⟨by rw [hW5, hr]; exact heap_alloc_new _ _, (r3.out.chg k4.out fun _ _ h => h).chg k5 fun _ _ h => h, r4.out.chg k5 fun _ _ h => h, Row.nil W5 48⟩, trivial, ?_, fun _ h => h.elim, fun _ h => h.elim, fun _ _ h => h, (k3.out.trans k4.out).trans k5⟩
    rintro k (rfl | e | e | e)
    · rw [hr]; exact Nat.le_trans s1 s2
    · exact (o3.out k e).1
    · exact Nat.le_trans s1 (o4.out k e).1
    · exact (own_none 0 0 k e).elim
  have c2' : W5.cell? ⟨b, 2, none⟩ = some (.slice ac nc cc) := g0.out.choose_spec.choose_spec.2.2.2.2.2.2.cell (fun h => h) c2
  clear hW5 hr r3 o3 k3 r4 o4 k4 RV3 c0 c1
  have kid : Hid (∀ i, i < nc → ∃ g q c, ac = some ⟨g, 0, none⟩ ∧ w.cell? ⟨g, i, none⟩ = some (.pointer (some ⟨q, 0, none⟩)) ∧ cs[i]? = some c ∧ ∀ W, Chg NoB w W → Calls Try.prog 26 #[.pointer (some ⟨q, 0, none⟩)] W fun e w' => ∃ r, e = .returned (.pointer (some ⟨r, 0, none⟩)) ∧ Tree w' h r c (fun k => W.heap.size ≤ k) ∧ Chg NoB W w') := by
    intro i hi
    have hl := lc0.out
    obtain ⟨g, rfl, -, hc, -⟩ := hN'.out.rc.at (by simp; omega)
    have hi2 : i < bs.length := by omega
    have hi3 : i < cs.length := by have := hlen'.out; omega
    exact ⟨g, bs[i], cs[i], rfl, hc i _ (by rw [List.getElem?_map, List.getElem?_eq_getElem hi2]; rfl), List.getElem?_eq_getElem hi3, hkid'.out i _ _ (List.getElem?_eq_getElem hi2) (List.getElem?_eq_getElem hi3)⟩
  have hnc : nc ≤ 65 := by have := lc0.out; have := l3'.out; omega
  have hncs : Hid (nc = cs.length) := by show _ = _; have := lc0.out; have := hlen'.out; omega
  go_wp2_with fail
  go_loopg [23] nc (fun gq s23 wr => ∃ i vc, i + gq = nc ∧ s23 = .int .i64 (i : Int) ∧ Grown w h r (.slice a3 n3 c3) (.slice a4 n4 c4) vc ks vs (cs.take i) wr)
  case atStart => exact ⟨0, _, by omega, rfl, g0.out⟩
  case round =>
    clear g0 c2'
    obtain ⟨i, vc, hgi, rfl, hg⟩ := hrel
    have hg' := Hid.mk' hg
    obtain ⟨kbs, SF, hNr, -, -, -, -, -, kwr⟩ := hg
    have e2 := hNr.c2
    obtain ⟨x3, y3, z3, rfl, lr⟩ := hNr.rc.form'
    have RC := Hid.mk' hNr.rc
    have nblk := Hid.mk' hNr.blk
    have nr := Hid.mk' hNr
    have kwr' := Hid.mk' kwr
    by_cases hi : i < nc
    · obtain ⟨g, q, c, rfl, hq, hc, hcall⟩ := kid.out i hi
      have hq' := kwr.cell (p := ⟨g, i, none⟩) (fun h => h) hq
      have hcall1 := Hid.mk' (hcall wr kwr)
      have hcall2 := Hid.mk' (hcall wr.drew kwr.drew)
      have b1 : (i : Int) < (nc : Int) := by omega
      have n3' : IntKind.i64.wrap ((i : Int) + 1) = (i : Int) + 1 := by rw [IntKind.wrap_i64]; omega
      have hkl : Hid (kbs.length ≤ 65) := by
        show _ ≤ _
        obtain ⟨k2, SF2, n2, f2, -⟩ := hg'.out
        have := Forest.length _ _ _ f2
        rw [n2.same nr.out] at this
        simp at this; omega
      have hc' := Hid.mk' hc
      have nown : Hid (¬ own (.slice x3 y3 z3) r) := RC.out.ne nblk.out (by decide)
      clear hcall hNr kwr hc c2
      obtain ⟨g', rfl⟩ : ∃ g', gk = g' + 1 := ⟨gk - 1, by omega⟩
      go_upto_region 5 with (fail)
      refine start_ (n := 12) (S := fun w' => w'.cell? ⟨r, 2, none⟩ = some (.slice x3 y3 z3)) (ds := [11]) #[false, false, false, false, false, false, false, false, false, false, false, false] (by kernel_rfl) rfl rfl (e2) (fun hHeld => ?_)
      refine pure_ (i := 0) (N := some 27) (v := ?_) (a' := ?_) #[true, false, false, false, false, false, false, false, false, false, false, false] rfl rfl (by kernel_rfl) (fun _ _ _ h => h) (Or.inl ⟨by rfl, ?_⟩) ?_ ?_
      rotate_left
      · intro w'
        go_simp
        with_reducible rfl
      rotate_left
      · simp only [Act.put, List.setIfInBounds_toArray, List.set_cons_zero, List.set_cons_succ, i64_w, i32_w]
        rfl
      refine pure_ (i := 1) (N := some 28) (v := ?_) (a' := ?_) #[true, true, false, false, false, false, false, false, false, false, false, false] rfl rfl (by kernel_rfl) (fun _ _ _ h => h) (Or.inl ⟨by rfl, ?_⟩) ?_ ?_
      rotate_left
      · intro w'
        go_simp
        with_reducible rfl
      rotate_left
      · simp only [Act.put, List.setIfInBounds_toArray, List.set_cons_zero, List.set_cons_succ, i64_w, i32_w]
        rfl
      refine pure_ (i := 2) (N := some 29) (v := ?_) (a' := ?_) #[true, true, true, false, false, false, false, false, false, false, false, false] rfl rfl (by kernel_rfl) (fun _ _ _ h => h) (Or.inl ⟨by rfl, ?_⟩) ?_ ?_
      rotate_left
      · intro w'
        go_simp
        with_reducible rfl
      rotate_left
      · simp only [Act.put, List.setIfInBounds_toArray, List.set_cons_zero, List.set_cons_succ, i64_w, i32_w]
        rfl
      refine pure_ (i := 3) (N := some 30) (v := ?_) (a' := ?_) #[true, true, true, true, false, false, false, false, false, false, false, false] rfl rfl (by kernel_rfl) (fun _ _ _ h => h) (Or.inl ⟨by rfl, ?_⟩) ?_ ?_
      rotate_left
      · intro w'
        go_simp
        with_reducible rfl
      rotate_left
      · simp only [Act.put, List.setIfInBounds_toArray, List.set_cons_zero, List.set_cons_succ, i64_w, i32_w]
        rfl
      refine pure_ (i := 5) (N := some 32) (v := ?_) (a' := ?_) #[true, true, true, true, false, true, false, false, false, false, false, false] rfl rfl (by kernel_rfl) (fun _ _ _ h => h) (Or.inl ⟨by rfl, ?_⟩) ?_ ?_
      rotate_left
      · intro w'
        go_simp
        with_reducible rfl
      rotate_left
      · simp only [Act.put, List.setIfInBounds_toArray, List.set_cons_zero, List.set_cons_succ, i64_w, i32_w]
        rfl
      refine take_ (i := 4) (N := some 31) (v := ?_) (a' := ?_) #[true, true, true, true, true, true, false, false, false, false, false, false] rfl rfl (by kernel_rfl) (fun _ _ _ h => h) (Or.inl ⟨by rfl, ?_⟩) hHeld ?_ ?_
      rotate_left
      · intro w' s0
        go_simp
        with_reducible rfl
      rotate_left
      · simp only [Act.put, List.setIfInBounds_toArray, List.set_cons_zero, List.set_cons_succ, i64_w, i32_w]
        rfl
      refine one_ (i := 6) (N := some 33) #[true, true, true, true, true, true, true, false, false, false, false, false] rfl rfl (by kernel_rfl) (by decide) (fun K hK => ?_)
      refine goes_ Try.func26 (by kernel_rfl) rfl #[.pointer (some ⟨q, 0, none⟩)] (by rfl) rfl rfl (by simp only [List.map_toArray, List.map_cons, List.map_nil]; rfl) ?_
      first | with_reducible refine hcall1.out.mono ?_ | with_reducible refine hcall2.out.mono ?_
      rintro e w6 ⟨s, rfl, hT, k6⟩
      refine ⟨_, rfl, ?_⟩
      replace k6 : Chg NoB wr w6 := by first | exact k6 | exact k6.undrew
      replace hT : Tree w6 h s c (fun k => wr.heap.size ≤ k) := hT
      have RC6 := Hid.mk' (RC.out.chg k6 (fun _ _ h => h))
      have nblk6 := Hid.mk' (k6.heap (fun h => h) nblk.out)
      replace hT := Hid.mk' hT
      replace k6 := Hid.mk' k6
      refine hK.out _ _ ((k6.out.cell (fun h => h) e2)) (fun hHeld => ?_)
      clear hK K
      refine norm_ (a' := ?_) ?_ ?_
      rotate_left
      · show Act.put _ (some 33) _ = _
        simp only [Act.put, List.setIfInBounds_toArray, List.set_cons_zero, List.set_cons_succ, i64_w, i32_w]
        rfl
      refine one_ (i := 7) (N := some 34) #[true, true, true, true, true, true, true, true, false, false, false, false] rfl rfl (by kernel_rfl) (by decide) (fun K hK => ?_)
      refine value_ (w1 := ?_) (v := ?_) (by rfl) rfl ?_ ?_
      rotate_left 2
      · go_simp
        constructor
        · rfl
        · rfl
      refine hK.out _ _ ((by first | exact Lib.cell?_alloc_some _ (k6.out.cell (fun h => h) e2) | (show World.cell? (World.alloc w6 _) _ = _; exact Lib.cell?_alloc_some _ (k6.out.cell (fun h => h) e2)))) (fun hHeld => ?_)
      clear hK K
      refine norm_ (a' := ?_) ?_ ?_
      rotate_left
      · show Act.put _ (some 34) _ = _
        simp only [Act.put, List.setIfInBounds_toArray, List.set_cons_zero, List.set_cons_succ, i64_w, i32_w]
        rfl
      refine one_ (i := 8) (N := some 35) #[true, true, true, true, true, true, true, true, true, false, false, false] rfl rfl (by kernel_rfl) (by decide) (fun K hK => ?_)
      refine append_step (by rfl) rfl (.tmp 31) (.tmp 34) 52 48 (.pointer none) 8 rfl Try.underlying52 info48 rfl (.slice x3 y3 z3) (.slice (some ⟨w6.heap.size, 0, none⟩) 1 1) (kbs.map pv) [.pointer (some ⟨s, 0, none⟩)] (by rfl) (by rfl) (by first | exact Row.alD RC6.out _ | exact Row.al RC6.out _) (by first | exact Row.litD w6 48 (.pointer (some ⟨s, 0, none⟩)) | exact Row.lit w6 48 (.pointer (some ⟨s, 0, none⟩))) (by intro y hy; cases List.mem_singleton.1 hy; rfl) (by have := hkl.out; simp; omega) (by have := hkl.out; simp; omega) ?_
      intro v8 w8 r8 o8 k8
      replace k8 : Chg (own (.slice x3 y3 z3)) w6 w8 := by first | exact Chg.of_allocD k8 | exact Chg.of_alloc k8
      replace o8 : ∀ k, own v8 k → own (.slice x3 y3 z3) k ∨ (w6.heap.size ≤ k ∧ k < w8.heap.size) := fun k hk => (o8 k hk).imp id (fun h => ⟨Nat.le_trans (by simp) h.1, h.2⟩)
      obtain ⟨x8, y8, z8, rfl, l8⟩ := r8.form'
      have e8 := k8.cell nown.out (k6.out.cell (fun h => h) e2)
      have f8 : w8.frozen? ⟨r, 2, none⟩ = false := frozen_of_row _ r 2 _ _ (k8.heap nown.out nblk6.out)
      replace r8 := Hid.mk' r8
      replace o8 := Hid.mk' o8
      replace k8 := Hid.mk' k8
      refine hK.out _ _ (e8) (fun hHeld => ?_)
      clear hK K
      refine norm_ (a' := ?_) ?_ ?_
      rotate_left
      · show Act.put _ (some 35) _ = _
        simp only [Act.put, List.setIfInBounds_toArray, List.set_cons_zero, List.set_cons_succ, i64_w, i32_w]
        rfl
      refine pure_ (i := 9) (N := some 36) (v := ?_) (a' := ?_) #[true, true, true, true, true, true, true, true, true, true, false, false] rfl rfl (by kernel_rfl) (fun _ _ _ h => h) (Or.inl ⟨by rfl, ?_⟩) ?_ ?_
      rotate_left
      · intro w'
        go_simp
        with_reducible rfl
      rotate_left
      · simp only [Act.put, List.setIfInBounds_toArray, List.set_cons_zero, List.set_cons_succ, i64_w, i32_w]
        rfl
      refine pure_ (i := 10) (N := some 37) (v := ?_) (a' := ?_) #[true, true, true, true, true, true, true, true, true, true, true, false] rfl rfl (by kernel_rfl) (fun _ _ _ h => h) (Or.inl ⟨by rfl, ?_⟩) ?_ ?_
      rotate_left
      · intro w'
        go_simp
        with_reducible rfl
      rotate_left
      · simp only [Act.put, List.setIfInBounds_toArray, List.set_cons_zero, List.set_cons_succ, i64_w, i32_w]
        rfl
      refine last_ (i := 11) (N := none) #[true, true, true, true, true, true, true, true, true, true, true, true] rfl rfl (by kernel_rfl) (by decide) (fun K hK => ?_)
      refine skip_ (w1 := ?_) (by rfl) rfl ?_ ?_
      rotate_left
      · go_simp
        rfl
      refine hK.out _ _ ?_
      clear hK K
      refine done_ (by kernel_rfl) ?_
      go_upto_region 6 with (fail)
      obtain ⟨W9, hW9⟩ : ∃ W9, W9 = w8.setCell ⟨r, 2, none⟩ (.slice x8 y8 z8) := ⟨_, rfl⟩
      rw [← hW9]
      have g9 : Hid (Grown w h r (.slice a3 n3 c3) (.slice a4 n4 c4) (.slice x8 y8 z8) ks vs (cs.take (i + 1)) W9) := by
        have := hg'.out.next hT.out k6.out kbs (fun _ _ _ _ _ hn => hn.same nr.out) r8.out o8.out k8.out
        rw [← hW9] at this
        rw [List.take_add_one, hc'.out]
        exact this
      clear hW9 e8 f8 r8 o8 k8 hT k6 e2
      go_wp2_with fail
      go_roundg g'
      case measure => omega
      case rel => exact ⟨i + 1, _, by omega, by simp, g9.out⟩
    · obtain rfl : i = nc := by omega
      clear kid
      go_wp2_with fail
      go_ret
      have hfin := hg'.out
      rw [List.take_of_length_le (by have := hncs.out; omega)] at hfin
      exact ⟨r, _, _, _, rfl, hfin⟩

def CloneSays (d h : Nat) : Prop := ∀ (b : Nat) (t : BT) (S : Nat → Prop) (w : World), Tree w h b t S → Shape d h t → Calls Try.prog 26 #[.pointer (some ⟨b, 0, none⟩)] w fun e w' =>
  ∃ r, e = .returned (.pointer (some ⟨r, 0, none⟩)) ∧ Tree w' h r t (fun k => w.heap.size ≤ k) ∧ Chg NoB w w'

theorem clone26 (d : Nat) (hd2 : d ≤ 32) : ∀ h : Nat, CloneSays d h
  | 0 => by
    rintro b ⟨ks, vs, cs⟩ S w ht hs
    obtain ⟨l1, l2, l3, l4⟩ := shape_len hs hd2
    obtain ⟨vk, vv, vc, hN, -, hcs⟩ := ht
    obtain rfl : cs = [] := hcs
    refine (clone_walk b 0 vk vv vc ks vs [] [] w hN (by simp at l1; omega) (by simp at l2; omega) (by simp) rfl (fun i q c h => by simp at h)).mono ?_
    rintro e w' ⟨r, vk', vv', vc', rfl, kbs, SF, n1, f1, g1, g2, g3, g4, g5⟩
    obtain rfl : kbs = [] := List.length_eq_zero_iff.1 (Forest.length _ _ _ f1)
    exact ⟨r, rfl, ⟨vk', vv', vc', n1, g1, rfl⟩, g5⟩
  | h + 1 => by
    rintro b ⟨ks, vs, cs⟩ S w ht hs
    obtain ⟨l1, l2, l3, l4⟩ := shape_len hs hd2
    obtain ⟨vk, vv, vc, bs, S', hN, -, -, -, hF⟩ := ht
    have hl := Forest.length _ _ _ hF
    simp only [BT.ks_node, BT.vs_node, BT.cs_node] at *
    refine (clone_walk b h vk vv vc ks vs bs cs w hN (by omega) (by omega) (by omega) hl (fun i q c hq hc W hW => ?_)).mono ?_
    · have hi : i < bs.length := (List.getElem?_eq_some_iff.1 hq).1
      obtain ⟨hj', -, S2, -, -, -, -, -, -, -, -, hT, -⟩ := Forest.pick i bs cs S' hF hi
      rw [List.getElem?_eq_getElem hi] at hq
      rw [List.getElem?_eq_getElem hj'] at hc
      cases hq; cases hc
      exact clone26 d hd2 h _ _ S2 W (hT.chg hW _ _ _ _ (fun _ _ h => h)) (hs.2.2.2 _ (List.getElem_mem hj')).2
    · rintro e w' ⟨r, vk', vv', vc', rfl, kbs, SF, n1, f1, g1, g2, g3, g4, g5⟩
      exact ⟨r, rfl, ⟨vk', vv', vc', kbs, SF, n1, g1, g2, g4, f1⟩, g5⟩
end Go.Proofs.Ytamnmoejjjaegaa
