/- New, none, Len and Get at a tree. Conditions: the form of a tree of a degree from 2 to 32. -/
import Derived.Test.YtamnmoejjjaegaaD
import Derived.Test.YtamnmoejjjaegaaC
import Derived.Test.YtamnmoejjjaegaaO
import Derived.Test.YtamnmoejjjaegaaG
set_option linter.unusedVariables false
set_option linter.unusedSimpArgs false
namespace Go.Proofs.Ytamnmoejjjaegaa
open Go Go.RowKit

/-- At block p lies a tree of degree d that holds l, in blocks of S. -/
def TreeAt (w : World) (p d : Nat) (l : List E) (S : Nat → Prop) : Prop :=
  ∃ b h t S', w.heap[p]? = some (.cells #[.pointer (some ⟨b, 0, none⟩), .int .i64 (d : Int), .int .i64 (l.length : Int)] 50 (0, 0)) ∧ Tree w h b t S' ∧ Shape d h t ∧ flat h t = l ∧ Asc l ∧ (0 < h → 1 ≤ t.ks.length) ∧ S p ∧ Sub S' S ∧ ¬ S' p

section
variable {w : World} {p b : Nat} {u v : Value}
theorem blk_cells (h : w.heap[p]? = some (.cells #[.pointer (some ⟨b, 0, none⟩), u, v] 50 (0, 0))) :
    w.cell? ⟨p, 0, none⟩ = some (.pointer (some ⟨b, 0, none⟩)) ∧ w.cell? ⟨p, 1, none⟩ = some u ∧ w.cell? ⟨p, 2, none⟩ = some v ∧ (∀ i, w.frozen? ⟨p, i, none⟩ = false) :=
  ⟨by rw [cell_of_row w p 0 _ _ _ h]; rfl, by rw [cell_of_row w p 1 _ _ _ h]; rfl, by rw [cell_of_row w p 2 _ _ _ h]; rfl, fun i => frozen_of_row w p i _ _ h⟩
end
theorem TreeAt.chg {X : Nat → Prop} {w w' : World} {p d : Nat} {l : List E} {S : Nat → Prop} (h : TreeAt w p d l S) (hc : Chg X w w') (ha : Apart S X) : TreeAt w' p d l S := by
  obtain ⟨b, h, t, S', h1, h2, h3, h4, h5, h6, h7, h8, h9⟩ := h
  exact ⟨b, h, t, S', hc.heap (ha p h7) h1, h2.chg hc _ _ _ _ (ha.mono h8 (Sub.refl _)), h3, h4, h5, h6, h7, h8, h9⟩
theorem TreeAt.mono {w : World} {p d : Nat} {l : List E} {S T : Nat → Prop} (h : TreeAt w p d l S) (hs : Sub S T) : TreeAt w p d l T := by
  obtain ⟨b, h, t, S', h1, h2, h3, h4, h5, h6, h7, h8, h9⟩ := h
  exact ⟨b, h, t, S', h1, h2, h3, h4, h5, h6, hs p h7, h8.trans hs, h9⟩
theorem TreeAt.there {w : World} {p d : Nat} {l : List E} {S : Nat → Prop} (h : TreeAt w p d l S) : TreeAt w p d l fun k => S k ∧ k < w.heap.size := by
  obtain ⟨b, h, t, S', h1, h2, h3, h4, h5, h6, h7, h8, h9⟩ := h
  exact ⟨b, h, t, _, h1, Tree.there _ _ _ _ h2, h3, h4, h5, h6, ⟨h7, (Array.getElem?_eq_some_iff.1 h1).1⟩, fun k hk => ⟨h8 k hk.1, hk.2⟩, fun hk => h9 hk.1⟩
theorem TreeAt.asc {w : World} {p d : Nat} {l : List E} {S : Nat → Prop} (h : TreeAt w p d l S) : Asc l := by
  obtain ⟨b, h, t, S', h1, h2, h3, h4, h5, h6, h7, h8, h9⟩ := h
  exact h5

/-- A pointer at which there is no tree: none, or one at a tree that New did not make. -/
def Bare (w : World) (v : Value) : Prop := v = .pointer none ∨ ∃ p, v = .pointer (some ⟨p, 0, none⟩) ∧ w.cell? ⟨p, 0, none⟩ = some (.pointer none)
theorem Bare.chg {X : Nat → Prop} {w w' : World} {v : Value} (h : Bare w v) (hc : Chg X w w') (ha : ∀ k, ¬ X k) : Bare w' v := h.imp id fun ⟨p, h1, h2⟩ => ⟨p, h1, hc.cell (ha p) h2⟩

theorem none_bare (v : Value) (w : World) (h : Bare w v) : Calls Try.prog 23 #[v] w fun e w' => e = .returned (.bool true) ∧ w = w' := by
  rcases h with rfl | ⟨p, rfl, hc⟩
  · go_enter Try.func23, Try.ntmps23
    go_wp2
    go_ret
    exact ⟨rfl, rfl⟩
  · go_enter Try.func23, Try.ntmps23
    go_wp2
    go_ret
    exact ⟨rfl, rfl⟩
theorem none_not (p b : Nat) (w : World) (h : w.cell? ⟨p, 0, none⟩ = some (.pointer (some ⟨b, 0, none⟩))) : Calls Try.prog 23 #[.pointer (some ⟨p, 0, none⟩)] w fun e w' => e = .returned (.bool false) ∧ w = w' := by
  go_enter Try.func23, Try.ntmps23
  go_wp2
  go_ret
  exact ⟨rfl, rfl⟩

set_option maxHeartbeats 1000000 in
theorem new_bad (d : Int) (w : World) (h : d < 2 ∨ 32 < d) : Calls Try.prog 10 #[.int .i64 d] w fun e w' => e = .returned (.pointer none) ∧ w = w' := by
  by_cases h1 : d < 2
  · go_enter Try.func10, Try.ntmps10
    go_wp2
    go_ret
    exact ⟨rfl, rfl⟩
  · have h2 : 32 < d := h.resolve_left h1
    have h1' : decide (d < 2) = false := by simp; omega
    go_enter Try.func10, Try.ntmps10
    go_wp2
    go_ret
    exact ⟨rfl, rfl⟩

set_option maxHeartbeats 1000000 in
theorem new_good (d : Nat) (vd : Int) (w : World) (hd : 2 ≤ d) (hd2 : d ≤ 32) (hvd : vd = d) : Calls Try.prog 10 #[.int .i64 vd] w fun e w' => ∃ p, e = .returned (.pointer (some ⟨p, 0, none⟩)) ∧ TreeAt w' p d [] (fun k => w.heap.size ≤ k) ∧ Chg NoB w w' := by
  subst hvd
  have h1 : ¬ ((d : Int) < 2) := by omega
  have h2 : ¬ (32 < (d : Int)) := by omega
  have h1' : decide ((d : Int) < 2) = false := by simp; omega
  have h2' : decide (32 < (d : Int)) = false := by simp; omega
  go_enter Try.func10, Try.ntmps10
  go_wp2
  go_ret
  obtain ⟨W1, hW1⟩ : ∃ W1, W1 = w.alloc (.cells #[.slice none 0 0, .slice none 0 0, .slice none 0 0] 54) := ⟨_, rfl⟩
  have kW1 : Chg NoB w W1 := by rw [hW1]; exact (Chg.refl _ _).alloc _
  have sW1 : W1.heap.size = w.heap.size + 1 := by rw [hW1]; simp
  have n1 : Nd W1 w.heap.size (.slice none 0 0) (.slice none 0 0) (.slice none 0 0) [] [] [] := ⟨by rw [hW1]; exact heap_alloc_new _ _, Row.nil W1 9, Row.nil W1 3, Row.nil W1 48⟩
  refine ⟨w.heap.size + 1, by simp, ⟨w.heap.size, 0, .node [] [] [], fun k => k = w.heap.size, ?_, ?_, ⟨rfl, by simp; omega, rfl⟩, rfl, List.Pairwise.nil, fun h => by omega, by simp, fun k h => Nat.le_of_eq h.symm, by simp⟩, ?_⟩
  · rw [← hW1]
    have := heap_alloc_new W1 (.cells #[.pointer (some ⟨w.heap.size, 0, none⟩), .int .i64 d, .int .i64 0] 50)
    rw [sW1] at this
    exact this
  · rw [← hW1]
    refine ⟨_, _, _, n1.chg ((Chg.refl NoB W1).alloc _) (fun _ _ h => h), ?_, rfl⟩
    rintro k (h | h | h | h)
    · exact h
    · exact (own_none 0 0 k h).elim
    · exact (own_none 0 0 k h).elim
    · exact (own_none 0 0 k h).elim
  · rw [← hW1]; exact kW1.alloc _

theorem len_bare (v : Value) (w : World) (h : Bare w v) : Calls Try.prog 17 #[v] w fun e w' => e = .returned (.int .i64 0) ∧ w = w' := by
  have h' := Hid.mk' (none_bare v w h)
  clear h
  go_enter Try.func17, Try.ntmps17
  go_wp2_with (go_at_call 23; refine h'.out.mono ?_; rintro e w' ⟨rfl, rfl⟩)
  go_ret
  exact ⟨rfl, rfl⟩
theorem len17 (p d : Nat) (l : List E) (S : Nat → Prop) (w : World) (h : TreeAt w p d l S) : Calls Try.prog 17 #[.pointer (some ⟨p, 0, none⟩)] w fun e w' => e = .returned (.int .i64 (l.length : Int)) ∧ w = w' := by
  obtain ⟨b, h, t, S', h1, -⟩ := h
  obtain ⟨c0, c1, c2, -⟩ := blk_cells h1
  have h' := Hid.mk' (none_not p b w c0)
  clear h1
  go_enter Try.func17, Try.ntmps17
  go_wp2_with (go_at_call 23; refine h'.out.mono ?_; rintro e w' ⟨rfl, rfl⟩)
  go_ret
  exact ⟨rfl, rfl⟩

theorem get_bare (v : Value) (k : ByteArray) (w : World) (h : Bare w v) : Calls Try.prog 21 #[v, .string k] w fun e w' => e = .returned (.tuple #[.int .i64 0, .bool false]) ∧ w = w' := by
  have h' := Hid.mk' (none_bare v w h)
  clear h
  go_enter Try.func21, Try.ntmps21
  go_wp2_with (go_at_call 23; refine h'.out.mono ?_; rintro e w' ⟨rfl, rfl⟩)
  go_ret2
  exact ⟨rfl, rfl⟩

/-- Where a key is looked for at a node: found with its value; else below the child at a place, or nowhere. -/
theorem descend {d h b : Nat} {t : BT} {S : Nat → Prop} {w : World} {k : ByteArray} (hd2 : d ≤ 32) (ht : Tree w h b t S) (hs : Shape d h t) (ha : Asc (flat h t)) :
    ∃ vk vv vc bs K1 K2, Nd w b vk vv vc t.ks t.vs bs ∧ t.ks = K1 ++ K2 ∧ t.ks.length ≤ 63 ∧ t.vs.length = t.ks.length ∧ (h = 0 → bs = []) ∧ (0 < h → bs.length = t.ks.length + 1) ∧
      ((∃ K3 y, K2 = k :: K3 ∧ t.vs[K1.length]? = some y ∧ getM k (flat h t) = some y ∧ Calls Try.prog 31 #[vk, .string k] w fun e w' => e = .returned (.tuple #[.int .i64 (K1.length : Int), .bool true]) ∧ w = w') ∨
       (Calls Try.prog 31 #[vk, .string k] w (fun e w' => e = .returned (.tuple #[.int .i64 (K1.length : Int), .bool false]) ∧ w = w') ∧ (∀ x ∈ K1, kl x k = true) ∧ (∀ x ∈ K2, kl k x = true) ∧
        (h = 0 → getM k (flat h t) = none) ∧ ∀ h', h = h' + 1 → ∃ q c S2, bs[K1.length]? = some q ∧ Tree w h' q c S2 ∧ Shape d h' c ∧ Asc (flat h' c) ∧ getM k (flat h t) = getM k (flat h' c))) := by
  obtain ⟨ks, vs, cs⟩ := t
  obtain ⟨K1, K2, hk, g1, g2⟩ := place k ks (keys_asc hs ha)
  obtain ⟨l1, l2, l3, l4⟩ := shape_len hs hd2
  simp only [BT.ks_node, BT.vs_node, BT.cs_node] at l1 l2 l3 l4
  subst hk
  obtain ⟨vk, vv, vc, bs, S', hN, s1, s2, s3, hK⟩ := ht.open
  simp only [BT.ks_node, BT.vs_node, BT.cs_node] at hN hK
  have hbl := hK.length
  have hb0 : h = 0 → bs = [] := fun h0 => by subst h0; exact hK.1
  have hb1 : 0 < h → bs.length = (K1 ++ K2).length + 1 := fun h0 => by
    obtain ⟨h', rfl⟩ : ∃ h', h = h' + 1 := ⟨h - 1, by omega⟩
    have := hs.2.2.1; simp only [BT.cs_node, BT.ks_node] at this; omega
  refine ⟨vk, vv, vc, bs, K1, K2, hN, rfl, l1, l4, hb0, hb1, ?_⟩
  rcases g2 with ⟨K3, rfl, g2⟩ | g2
  · obtain ⟨V1, y, V3, rfl, hv⟩ := cut1 vs K1.length (by simp at l4; omega)
    obtain ⟨A, B, hf⟩ := flat_hit d h K1 K3 V1 V3 cs k y hs hv
    rw [hf y] at ha
    obtain ⟨gA, gB⟩ := asc_hit ha
    exact .inl ⟨K3, y, rfl, get_at hv, by rw [hf y, getM_lt gA, getM_hit], find_yes hN (by omega) g1 g2⟩
  · refine .inr ⟨find_no hN (by omega) g1 g2, g1, g2, fun h0 => ?_, fun h' h0 => ?_⟩
    · subst h0
      have e : getM k ((K1 ++ K2).zip vs) = none := by
        unfold getM
        rw [List.find?_eq_none.2 fun e he => ?_]
        · rfl
        · have := mem_zip_fst e he
          rcases List.mem_append.1 this with h | h
          · simpa using kl_ne (g1 _ h)
          · simpa using (kl_ne (g2 _ h)).symm
      exact e
    · subst h0
      obtain ⟨e1, e2, e3, e4⟩ := hs
      simp only [BT.ks_node, BT.vs_node, BT.cs_node, List.length_append] at e1 e2 e3
      obtain ⟨V1, V2, rfl, hv⟩ := cut vs K1.length (by omega)
      obtain ⟨C1, c, C2, rfl, hc1⟩ := cut1 cs K1.length (by omega)
      simp only [List.length_append, List.length_cons] at e1 e3
      have hk := e4 c (by simp)
      have hi : K1.length < bs.length := by rw [hbl]; simp; omega
      obtain ⟨hj', -, S2, -, -, -, -, -, -, -, -, hT, -⟩ := Forest.pick K1.length bs _ S' hK hi
      have hce : (C1 ++ c :: C2)[K1.length] = c := by
        have := List.getElem?_eq_getElem hj'
        rw [get_at hc1] at this
        exact (Option.some.inj this).symm
      rw [hce] at hT
      have hfl := flat_at h' K1 K2 V1 V2 C1 C2 c hv hc1
      rw [hfl] at ha
      refine ⟨bs[K1.length], c, S2, List.getElem?_eq_getElem hi, hT, hk.2, ha.left.right, ?_⟩
      rw [hfl, getM_gt (Rt_gt (by omega) (by omega) ha.right g2), getM_lt (Lf_lt hv hc1 ha.left.left g1)]

set_option maxHeartbeats 4000000 in
set_option maxRecDepth 100000 in
theorem get21 (p d : Nat) (l : List E) (k : ByteArray) (S : Nat → Prop) (w : World) (hd2 : d ≤ 32) (h : TreeAt w p d l S) :
    Calls Try.prog 21 #[.pointer (some ⟨p, 0, none⟩), .string k] w fun e w' => e = .returned (.tuple #[.int .i64 ((getM k l).getD 0), .bool (getM k l).isSome]) ∧ w = w' := by
  obtain ⟨b, h, t, S', h1, ht, hs, rfl, ha, -⟩ := h
  obtain ⟨c0, c1, c2, -⟩ := blk_cells h1
  have h' := Hid.mk' (none_not p b w c0)
  obtain ⟨res, hres⟩ : ∃ res, getM k (flat h t) = res := ⟨_, rfl⟩
  rw [hres]
  have start := Hid.mk' (⟨t, S', ht, hs, ha, hres⟩ : ∃ (t' : BT) (S' : Nat → Prop), Tree w h b t' S' ∧ Shape d h t' ∧ Asc (flat h t') ∧ getM k (flat h t') = res)
  clear h1 ht hs ha hres
  go_enter Try.func21, Try.ntmps21
  go_wp2_with (go_at_call 23; refine h'.out.mono ?_; rintro e w' ⟨rfl, rfl⟩)
  go_loopg [6] h (fun gq s6 wr => ∃ (b' : Nat) (t' : BT) (S' : Nat → Prop), s6 = .pointer (some ⟨b', 0, none⟩) ∧ Tree wr gq b' t' S' ∧ Shape d gq t' ∧ Asc (flat gq t') ∧ getM k (flat gq t') = res ∧ wr = w)
  case atStart =>
    obtain ⟨t, S', z1, z2, z3, z4⟩ := start.out
    exact ⟨b, t, S', rfl, z1, z2, z3, z4, rfl⟩
  case round =>
    obtain ⟨b', t', S', rfl, ht, hs, ha, hres, rfl⟩ := hrel
    obtain ⟨vk, vv, vc, bs, K1, K2, hN, hk, l1, l2, hb0, hb1, hcase⟩ := descend (k := k) hd2 ht hs ha
    obtain ⟨ak, nk, ck, av, nv, cv, ac, nc, cc, rfl, rfl, rfl, lk0, lv0, lc0⟩ := hN.form'
    have e0 := hN.c0
    have e1 := hN.c1
    have e2 := hN.c2
    have i1000 : K1.length ≤ 63 := by rw [hk] at l1; simp at l1; omega
    obtain ⟨i, hi⟩ : ∃ i, K1.length = i := ⟨_, rfl⟩
    rcases hcase with ⟨K3, y, -, hy, hg, hf⟩ | ⟨hf, -, -, hz, hsucc⟩
    · rw [hi] at hy hf i1000
      have hi2 : i < t'.vs.length := (List.getElem?_eq_some_iff.1 hy).1
      obtain ⟨gv, rfl, -, hc, -, -⟩ := hN.rv.at (by simp; omega)
      have ec : wr.cell? ⟨gv, i, none⟩ = some (.int .i64 y) := hc _ _ (by rw [List.getElem?_map, hy]; rfl)
      have b1 : (i : Int) < (nv : Int) := by have := lv0.out; omega
      have hf' := Hid.mk' hf
      rw [hg] at hres
      subst hres
      clear hN ht hs ha hg hf hc hb0 hb1 hk start
      go_wp2_with (go_at_call 31; refine hf'.out.mono ?_; rintro e w' ⟨rfl, rfl⟩)
      go_ret2
      exact ⟨rfl, rfl⟩
    · have hf' := Hid.mk' hf
      cases gk with
      | zero =>
        rw [hz rfl] at hres
        subst hres
        obtain rfl : nc = 0 := by rw [lc0.out, hb0 rfl]; rfl
        clear hN ht hs ha hf hb0 hb1 hk start hz hsucc
        go_wp2_with (first | (go_at_call 31; refine hf'.out.mono ?_; rintro e w' ⟨rfl, rfl⟩) | (go_at_call 25; refine (leaf_yes b' _ _ _ e2).mono ?_; rintro e w' ⟨rfl, rfl⟩))
        go_ret2
        exact ⟨rfl, rfl⟩
      | succ g =>
        obtain ⟨q, c, S2, hq, hT, hsc, hac, hgc⟩ := hsucc g rfl
        have hbl := hb1 (by omega)
        rw [hi] at hq hf' i1000
        have hi2 : i < bs.length := (List.getElem?_eq_some_iff.1 hq).1
        obtain ⟨gc, rfl, -, hc, -, -⟩ := hN.rc.at (by simp; omega)
        have ec : wr.cell? ⟨gc, i, none⟩ = some (.pointer (some ⟨q, 0, none⟩)) := hc _ _ (by rw [List.getElem?_map, hq]; rfl)
        have b1 : (i : Int) < (nc : Int) := by have := lc0.out; omega
        have b2 : 0 < nc := by omega
        rw [hres] at hgc
        have hT' := Hid.mk' hT
        have hsc' := Hid.mk' hsc
        have hac' := Hid.mk' hac
        have hgc' := Hid.mk' hgc
        clear hN ht hs ha hf hb0 hb1 hk start hz hsucc hres hT hsc hac hgc hc hq
        go_wp2_with (first | (go_at_call 31; refine hf'.out.mono ?_; rintro e w' ⟨rfl, rfl⟩) | (go_at_call 25; refine (leaf_no b' _ _ _ _ e2 b2).mono ?_; rintro e w' ⟨rfl, rfl⟩))
        go_roundg g
        case measure => omega
        case rel => exact ⟨q, c, S2, rfl, hT'.out, hsc'.out, hac'.out, hgc'.out.symm, rfl⟩
end Go.Proofs.Ytamnmoejjjaegaa
