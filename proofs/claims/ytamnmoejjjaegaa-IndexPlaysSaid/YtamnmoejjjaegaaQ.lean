/- What (*node).put does to a tree. Conditions: the form of a B-tree of a degree from 2 to 32, ascending keys, a root that is not full. -/
import Derived.Test.YtamnmoejjjaegaaU
import Derived.Test.YtamnmoejjjaegaaB
import Derived.Test.YtamnmoejjjaegaaF
import Derived.Test.YtamnmoejjjaegaaP
set_option linter.unusedVariables false
set_option linter.unusedSimpArgs false
namespace Go.Proofs.Ytamnmoejjjaegaa
open Go Go.RowKit

theorem find_no {w : World} {b : Nat} {vk vv vc : Value} {K1 K2 : List ByteArray} {vs : List Int} {bs : List Nat} {k : ByteArray} (hN : Nd w b vk vv vc (K1 ++ K2) vs bs) (hl : (K1 ++ K2).length ≤ 1048576) (h1 : ∀ x ∈ K1, kl x k = true) (h2 : ∀ x ∈ K2, kl k x = true) :
    Calls Try.prog 31 #[vk, .string k] w fun e w' => e = .returned (.tuple #[.int .i64 (K1.length : Int), .bool false]) ∧ w = w' := by
  obtain ⟨ak, nk, ck, av, nv, cv, ac, nc, cc, rfl, rfl, rfl, -, -, -⟩ := hN.form'
  refine find31 ak nk ck (K1 ++ K2) k K1.length false w hN.rk hl (by simp) (fun t ht h => ?_) (fun t ht h => ?_) ?_
  · rw [List.getElem_append_left h]; exact h1 _ (List.getElem_mem h)
  · rw [List.getElem_append_right h]; exact kl_asymm (h2 _ (List.getElem_mem _))
  · constructor
    · intro h; cases h
    · intro h
      rw [List.getElem?_append_right (Nat.le_refl _)] at h
      have := h2 k (List.mem_of_getElem? h)
      rw [kl_irrefl] at this; cases this
theorem find_yes {w : World} {b : Nat} {vk vv vc : Value} {K1 K2 : List ByteArray} {vs : List Int} {bs : List Nat} {k : ByteArray} (hN : Nd w b vk vv vc (K1 ++ k :: K2) vs bs) (hl : (K1 ++ k :: K2).length ≤ 1048576) (h1 : ∀ x ∈ K1, kl x k = true) (h2 : ∀ x ∈ K2, kl k x = true) :
    Calls Try.prog 31 #[vk, .string k] w fun e w' => e = .returned (.tuple #[.int .i64 (K1.length : Int), .bool true]) ∧ w = w' := by
  obtain ⟨ak, nk, ck, av, nv, cv, ac, nc, cc, rfl, rfl, rfl, -, -, -⟩ := hN.form'
  refine find31 ak nk ck (K1 ++ k :: K2) k K1.length true w hN.rk hl (by simp) (fun t ht h => ?_) (fun t ht h => ?_) ?_
  · rw [List.getElem_append_left h]; exact h1 _ (List.getElem_mem h)
  · rw [List.getElem_append_right h]
    have hm : (k :: K2)[t - K1.length]'(by simp at ht ⊢; omega) ∈ k :: K2 := List.getElem_mem _
    rcases List.mem_cons.1 hm with e | e
    · rw [e]; exact kl_irrefl k
    · exact kl_asymm (h2 _ e)
  · exact ⟨fun _ => get_at rfl, fun _ => rfl⟩

theorem shape_len {d h : Nat} {t : BT} (hs : Shape d h t) (hd2 : d ≤ 32) : t.ks.length ≤ 63 ∧ t.vs.length ≤ 63 ∧ t.cs.length ≤ 64 ∧ t.vs.length = t.ks.length := by
  obtain ⟨h1, h2, h3⟩ := (shape_iff d h t).1 hs
  cases h with
  | zero => simp only [Kid] at h3; rw [h3]; exact ⟨by omega, by omega, by simp, h1⟩
  | succ h => have := h3.1; exact ⟨by omega, by omega, by omega, h1⟩

/-- The list around a key of a node. -/
theorem flat_two (h : Nat) (K1 K3 : List ByteArray) (V1 V3 : List Int) (C1 C4 : List BT) (c c' : BT) (k : ByteArray) (y : Int) (h1 : V1.length = K1.length) (h2 : C1.length = K1.length) :
    flat (h + 1) (.node (K1 ++ k :: K3) (V1 ++ y :: V3) (C1 ++ c :: c' :: C4)) = (Lf h K1 V1 C1 ++ flat h c) ++ (k, y) :: (flat h c' ++ Rt h K3 V3 C4) := by
  rw [flat_at h K1 (k :: K3) V1 (y :: V3) C1 (c' :: C4) c h1 h2, Rt_cons]
/-- A key of a node parts the list. -/
theorem flat_hit (d h : Nat) (K1 K3 : List ByteArray) (V1 V3 : List Int) (cs : List BT) (k : ByteArray) (y : Int) (hs : Shape d h (.node (K1 ++ k :: K3) (V1 ++ y :: V3) cs)) (h1 : V1.length = K1.length) :
    ∃ A B, ∀ y', flat h (.node (K1 ++ k :: K3) (V1 ++ y' :: V3) cs) = A ++ (k, y') :: B := by
  cases h with
  | zero => exact ⟨K1.zip V1, K3.zip V3, fun y' => by simp only [flat, BT.ks_node, BT.vs_node, zip_app _ _ _ _ h1.symm, List.zip_cons_cons]⟩
  | succ h =>
    obtain ⟨-, -, h3, -⟩ := hs
    obtain ⟨C1, c, C3, e, hc⟩ := cut1 cs K1.length (by simp at h3; omega)
    cases C3 with
    | nil => rw [e] at h3; simp at h3; omega
    | cons c' C4 =>
      rw [e]
      exact ⟨_, _, fun y' => flat_two h K1 K3 V1 V3 C1 C4 c c' k y' h1 hc⟩
theorem asc_hit {A B : List E} {k : ByteArray} {y : Int} (h : Asc (A ++ (k, y) :: B)) : (∀ e ∈ A, kl e.1 k = true) ∧ ∀ e ∈ B, kl k e.1 = true :=
  ⟨fun e he => h.across e he (k, y) (by simp), (List.pairwise_cons.1 h.right).1⟩

/-- What put leaves. -/
def PutPost (d h b : Nat) (S : Nat → Prop) (k : ByteArray) (v : Int) (t : BT) (w : World) (w' : World) : Prop :=
  ∃ t', Tree w' h b t' (fun j => S j ∨ w.heap.size ≤ j) ∧ Chg S w w' ∧ Shape d h t' ∧ flat h t' = insM k v (flat h t) ∧ t.ks.length ≤ t'.ks.length

theorem put_hit (d h b : Nat) (vd v y : Int) (k : ByteArray) (K1 K3 : List ByteArray) (V1 V3 : List Int) (cs : List BT) (S : Nat → Prop) (w : World) (hd2 : d ≤ 32) (ht : Tree w h b (.node (K1 ++ k :: K3) (V1 ++ y :: V3) cs) S) (hs : Shape d h (.node (K1 ++ k :: K3) (V1 ++ y :: V3) cs))
    (ha : Asc (flat h (.node (K1 ++ k :: K3) (V1 ++ y :: V3) cs))) (h1 : V1.length = K1.length) (g1 : ∀ x ∈ K1, kl x k = true) (g2 : ∀ x ∈ K3, kl k x = true) :
    Calls Try.prog 28 #[.pointer (some ⟨b, 0, none⟩), .string k, .int .i64 v, .int .i64 vd] w fun e w' => e = .returned (.tuple #[.int .i64 ((getM k (flat h (.node (K1 ++ k :: K3) (V1 ++ y :: V3) cs))).getD 0), .bool (getM k (flat h (.node (K1 ++ k :: K3) (V1 ++ y :: V3) cs))).isSome]) ∧
      PutPost d h b S k v (.node (K1 ++ k :: K3) (V1 ++ y :: V3) cs) w w' := by
  obtain ⟨vk, vv, vc, bs, S', hN, s1, s2, s3, hK⟩ := ht.open
  obtain ⟨A, B, hf⟩ := flat_hit d h K1 K3 V1 V3 cs k y hs h1
  obtain ⟨l1, l2, l3, l4⟩ := shape_len hs hd2
  rw [hf y] at ha
  obtain ⟨gA, gB⟩ := asc_hit ha
  refine (put_found b K1.length k v vd y (K1 ++ k :: K3) (V1 ++ y :: V3) bs vk vv vc w hN (find_yes hN (by simp at l1; simp; omega) g1 g2) (get_at h1) (by simp at l2; simp; omega)).mono ?_
  rintro e w' ⟨rfl, hN', hc⟩
  rw [set_at h1] at hN'
  refine ⟨?_, .node (K1 ++ k :: K3) (V1 ++ v :: V3) cs, Tree.close hN' (fun k h => .inl (s1 k h)) (fun k h => .inl (s2 k h)) s3 (hK.chg hc s3.symm), hc.mono s1, ?_, ?_, Nat.le_refl _⟩
  · rw [hf y, getM_lt gA, getM_hit]; rfl
  · rw [shape_iff] at hs ⊢
    simpa using hs
  · rw [hf y, hf v, insM_lt gA, insM_hit]

theorem put_at (d h b q : Nat) (vd v : Int) (k : ByteArray) (K1 K2 : List ByteArray) (V1 V2 : List Int) (C1 C2 : List BT) (c : BT) (S : Nat → Prop) (w : World) (hd : 2 ≤ d) (hd2 : d ≤ 32) (hvd : vd = d)
    (ih : ∀ (b : Nat) (t : BT) (S : Nat → Prop) (w : World), Tree w h b t S → Shape d h t → Asc (flat h t) → t.ks.length + 1 < 2 * d → Calls Try.prog 28 #[.pointer (some ⟨b, 0, none⟩), .string k, .int .i64 v, .int .i64 vd] w fun e w' =>
      e = .returned (.tuple #[.int .i64 ((getM k (flat h t)).getD 0), .bool (getM k (flat h t)).isSome]) ∧ PutPost d h b S k v t w w')
    (ht : Tree w (h + 1) b (.node (K1 ++ K2) (V1 ++ V2) (C1 ++ c :: C2)) S) (hs : Shape d (h + 1) (.node (K1 ++ K2) (V1 ++ V2) (C1 ++ c :: C2)))
    (ha : Asc (flat (h + 1) (.node (K1 ++ K2) (V1 ++ V2) (C1 ++ c :: C2)))) (h1 : V1.length = K1.length) (h2 : C1.length = K1.length) (g1 : ∀ x ∈ K1, kl x k = true) (g2 : ∀ x ∈ K2, kl k x = true) (hc : c.ks.length + 1 < 2 * d) :
    Calls Try.prog 28 #[.pointer (some ⟨b, 0, none⟩), .string k, .int .i64 v, .int .i64 vd] w fun e w' => e = .returned (.tuple #[.int .i64 ((getM k (flat (h + 1) (.node (K1 ++ K2) (V1 ++ V2) (C1 ++ c :: C2)))).getD 0), .bool (getM k (flat (h + 1) (.node (K1 ++ K2) (V1 ++ V2) (C1 ++ c :: C2)))).isSome]) ∧
      PutPost d (h + 1) b S k v (.node (K1 ++ K2) (V1 ++ V2) (C1 ++ c :: C2)) w w' := by
  obtain ⟨l1, l2, l3, l4⟩ := shape_len hs hd2
  obtain ⟨e1, e2, e3, e4⟩ := hs
  obtain ⟨vk, vv, vc, B1, q, B2, SM, hN, b1, b2, hT, s1, a1, s2, back⟩ := ht.swap
  have hcs := e4 c (by simp)
  have hfl := flat_at h K1 K2 V1 V2 C1 C2 c h1 h2
  simp only [BT.ks_node, BT.vs_node, BT.cs_node, List.length_append, List.length_cons] at l1 l2 l3 l4 e1 e2 e3
  rw [hfl] at ha
  have gL := Lf_lt h1 h2 ha.left.left g1
  have gR := Rt_gt (h := h) (K := K2) (V := V2) (C := C2) (by omega) (by omega) ha.right g2
  have hcc := ih q c SM w hT hcs.2 ha.left.right hc
  obtain ⟨uk, uv, uc, kb, SK, n1, -, -, -, -⟩ := hT.open
  obtain ⟨aq, nq, cq, a2, n2, c2, a3, n3, c3, rfl, rfl, rfl, lq, -, -⟩ := n1.form'
  have eg : getM k (flat (h + 1) (.node (K1 ++ K2) (V1 ++ V2) (C1 ++ c :: C2))) = getM k (flat h c) := by rw [hfl, getM_gt gR, getM_lt gL]
  rw [eg]
  refine (put_kid b K1.length q nq cq d aq k v vd _ _ (K1 ++ K2) (V1 ++ V2) (B1 ++ q :: B2) vk vv vc _ w hN (find_no hN (by simp; omega) g1 g2) (get_at (b1.trans h2)) (by simp; omega) n1.c0 hvd hd hd2 (by have := lq.out; omega) hcc).mono ?_
  rintro e w' ⟨rfl, c', hT', hc', hs', hf', hl'⟩
  obtain ⟨t1, t2⟩ := back w w' c' _ _ hN (Chg.refl _ _) hc' hT'
  refine ⟨rfl, _, t1, t2, ⟨by simpa using e1, by simpa using e2, by simp; omega, ?_⟩, ?_, by simp⟩
  · intro x hx
    simp only [BT.cs_node, List.mem_append, List.mem_cons] at hx
    rcases hx with hx | rfl | hx
    · exact e4 x (by simp [hx])
    · exact ⟨by omega, hs'⟩
    · exact e4 x (by simp [hx])
  · rw [flat_at h K1 K2 V1 V2 C1 C2 c' h1 h2, hf', hfl, insM_gt gR, insM_lt gL]

theorem put28 (d : Nat) (vd v : Int) (k : ByteArray) (hd : 2 ≤ d) (hd2 : d ≤ 32) (hvd : vd = d) : ∀ (h b : Nat) (t : BT) (S : Nat → Prop) (w : World), Tree w h b t S → Shape d h t → Asc (flat h t) → t.ks.length + 1 < 2 * d →
    Calls Try.prog 28 #[.pointer (some ⟨b, 0, none⟩), .string k, .int .i64 v, .int .i64 vd] w fun e w' => e = .returned (.tuple #[.int .i64 ((getM k (flat h t)).getD 0), .bool (getM k (flat h t)).isSome]) ∧ PutPost d h b S k v t w w'
  | h, b, .node ks vs cs, S, w, ht, hs, ha, hfull => by
    obtain ⟨K1, K2, hk, g1, g2⟩ := place k ks (keys_asc hs ha)
    obtain ⟨l1, l2, l3, l4⟩ := shape_len hs hd2
    simp only [BT.ks_node, BT.vs_node, BT.cs_node] at l1 l2 l3 l4 hfull
    subst hk
    rcases g2 with ⟨K3, rfl, g2⟩ | g2
    · obtain ⟨V1, y, V3, rfl, hv⟩ := cut1 vs K1.length (by simp at l4; omega)
      exact put_hit d h b vd v y k K1 K3 V1 V3 cs S w hd2 ht hs ha hv g1 g2
    · obtain ⟨V1, V2, rfl, hv⟩ := cut vs K1.length (by simp at l4; omega)
      cases h with
      | zero =>
        obtain ⟨vk, vv, vc, hN, s1, hcs⟩ := ht
        obtain rfl : cs = [] := hcs
        simp only [BT.ks_node, BT.vs_node] at hN
        have hv2 : V2.length = K2.length := by simp at l4; omega
        refine (put_leaf b K1.length k v vd (K1 ++ K2) (V1 ++ V2) vk vv vc w hN (find_no hN (by simp at l1 ⊢; omega) g1 g2) (by simp) (by simp at l1 ⊢; omega) l4).mono ?_
        rintro e w' ⟨vk', vv', rfl, hN', c1, hc⟩
        rw [take_at rfl, drop_at rfl, take_at hv, drop_at hv] at hN'
        have gL : ∀ e ∈ K1.zip V1, kl e.1 k = true := fun e he => g1 _ (mem_zip_fst e he)
        have gR : ∀ e ∈ K2.zip V2, kl k e.1 = true := fun e he => g2 _ (mem_zip_fst e he)
        have ef : flat 0 (.node (K1 ++ K2) (V1 ++ V2) []) = K1.zip V1 ++ K2.zip V2 := zip_app _ _ _ _ hv.symm
        have e0 : getM k (flat 0 (.node (K1 ++ K2) (V1 ++ V2) [])) = none := by
          rw [ef, getM_lt gL]; exact getM_gt (l := []) gR
        rw [e0]
        refine ⟨rfl, .node (K1 ++ k :: K2) (V1 ++ v :: V2) [], ⟨vk', vv', vc, hN', fun j h => (c1 j h).imp (s1 j) id, rfl⟩, hc.mono s1, ⟨by simp; omega, by simp at hfull ⊢; omega, rfl⟩, ?_, by simp⟩
        rw [ef, insM_lt gL]
        have := insM_gt (v := v) gR []
        simp only [List.nil_append, insM] at this
        rw [this]
        show (K1 ++ k :: K2).zip (V1 ++ v :: V2) = _
        rw [zip_app _ _ _ _ hv.symm]; rfl
      | succ h =>
        have ih := put28 d vd v k hd hd2 hvd h
        obtain ⟨e1, e2, e3, e4⟩ := id hs
        simp only [BT.ks_node, BT.vs_node, BT.cs_node, List.length_append] at e1 e2 e3
        obtain ⟨C1, c, C2, rfl, hc1⟩ := cut1 cs K1.length (by omega)
        simp only [List.length_append, List.length_cons] at e3
        have hv2 : V2.length = K2.length := by omega
        have hc2 : C2.length = K2.length := by omega
        have hcs := e4 c (by simp)
        obtain ⟨f1, f2, f3, f4⟩ := shape_len hcs.2 hd2
        by_cases hful : c.ks.length + 1 < 2 * d
        · exact put_at d h b 0 vd v k K1 K2 V1 V2 C1 C2 c S w hd hd2 hvd ih ht hs ha hv hc1 g1 g2 hful
        · obtain ⟨q1, q2, q3⟩ := (shape_iff d h c).1 hcs.2
          have hlen : c.ks.length + 1 = 2 * d := by omega
          obtain ⟨cks, cvs, ccs⟩ := c
          simp only [BT.ks_node, BT.vs_node, BT.cs_node] at hlen q1 q2 q3 f1 f2 f3 f4
          obtain ⟨A1, x, A2, rfl, m1⟩ := cut1 cks (d - 1) (by omega)
          obtain ⟨E1, y, E2, rfl, m2⟩ := cut1 cvs (d - 1) (by omega)
          simp only [List.length_append, List.length_cons] at hlen q1
          have hD : ∃ D1 D2, ccs = D1 ++ D2 ∧ ((h = 0 ∧ D1 = [] ∧ D2 = []) ∨ (0 < h ∧ D1.length = d ∧ D2.length = d)) := by
            cases h with
            | zero => exact ⟨[], [], q3, .inl ⟨rfl, rfl, rfl⟩⟩
            | succ h =>
              obtain ⟨q3, -⟩ := q3
              obtain ⟨D1, D2, rfl, hD⟩ := cut ccs d (by simp at q3; omega)
              exact ⟨D1, D2, rfl, .inr ⟨by omega, hD, by simp at q3; omega⟩⟩
          obtain ⟨D1, D2, rfl, hD⟩ := hD
          have hfj := flat_join h A1 A2 E1 E2 D1 D2 x y (by omega) (by
            rcases hD with ⟨h, _⟩ | ⟨_, h1, h2⟩
            · exact .inl h
            · exact .inr ⟨by omega, by intro h; rw [h] at h2; simp at h2; omega⟩)
          have sh1 : Shape d h (.node A1 E1 D1) ∧ Shape d h (.node A2 E2 D2) := by
            rw [shape_iff, shape_iff]
            refine ⟨⟨by simp; omega, by simp; omega, ?_⟩, by simp; omega, by simp; omega, ?_⟩
            · rcases hD with ⟨rfl, rfl, rfl⟩ | ⟨h0, h1, h2⟩
              · rfl
              · obtain ⟨h', rfl⟩ : ∃ h', h = h' + 1 := ⟨h - 1, by omega⟩
                exact ⟨by simp; omega, fun x hx => q3.2 x (by simp only [BT.cs_node] at hx; simp [hx])⟩
            · rcases hD with ⟨rfl, rfl, rfl⟩ | ⟨h0, h1, h2⟩
              · rfl
              · obtain ⟨h', rfl⟩ : ∃ h', h = h' + 1 := ⟨h - 1, by omega⟩
                exact ⟨by simp; omega, fun x hx => q3.2 x (by simp only [BT.cs_node] at hx; simp [hx])⟩
          have w1 : A1.length + 1 = d := by clear hvd; omega
          have w2 : A2.length + 1 = d := by clear hvd; omega
          have w3 : E1.length + 1 = d := by clear hvd; omega
          have w4 : E2.length + 1 = d := by clear hvd; omega
          have w5 : K1.length + K2.length ≤ 1000 := by clear hvd; simp at l1; omega
          -- the tree behind split
          have hfl : flat (h + 1) (.node (K1 ++ x :: K2) (V1 ++ y :: V2) (C1 ++ .node A1 E1 D1 :: .node A2 E2 D2 :: C2)) = flat (h + 1) (.node (K1 ++ K2) (V1 ++ V2) (C1 ++ .node (A1 ++ x :: A2) (E1 ++ y :: E2) (D1 ++ D2) :: C2)) := by
            rw [flat_two h K1 K2 V1 V2 C1 C2 _ _ x y hv hc1, flat_at h K1 K2 V1 V2 C1 C2 _ hv hc1, hfj]; simp
          have hs2 : Shape d (h + 1) (.node (K1 ++ x :: K2) (V1 ++ y :: V2) (C1 ++ .node A1 E1 D1 :: .node A2 E2 D2 :: C2)) := by
            refine ⟨by simp; omega, by simp at hfull ⊢; omega, by simp; omega, fun z hz => ?_⟩
            simp only [BT.cs_node, List.mem_append, List.mem_cons] at hz
            rcases hz with hz | rfl | rfl | hz
            · exact e4 z (by simp [hz])
            · exact ⟨by simp; omega, sh1.1⟩
            · exact ⟨by simp; omega, sh1.2⟩
            · exact e4 z (by simp [hz])
          rw [← hfl] at ha
          obtain ⟨vk, vv, vc, B1, q, B2, SM, hN, b1, b2, hT, s1, a1, s2, -⟩ := ht.swap
          obtain ⟨uk, uv, uc, kb, SK, n1, -, -, -, -⟩ := hT.open
          obtain ⟨aq, nq, cq, a2, n2, c2, a3, n3, c3, rfl, rfl, rfl, lq, -, -⟩ := n1.form'
          have ha2 := ha
          rw [flat_two h K1 K2 V1 V2 C1 C2 _ _ x y hv hc1] at ha2
          -- keys around x
          refine (put_full b K1.length q nq cq d aq k v vd _ _ (K1 ++ K2) (V1 ++ V2) (B1 ++ q :: B2) vk vv vc _ (PutPost d (h + 1) b S k v (.node (K1 ++ K2) (V1 ++ V2) (C1 ++ .node (A1 ++ x :: A2) (E1 ++ y :: E2) (D1 ++ D2) :: C2)) w) w hN (find_no hN (by simp at l1 ⊢; omega) g1 g2) (get_at (b1.trans hc1)) (by simp; omega) n1.c0 hvd hd hd2
            (by have := lq.out; simp at this; omega) (splitT d h b (K1.length : Int) vd K1 K2 A1 A2 V1 V2 E1 E2 C1 C2 D1 D2 x y S w hd hd2 rfl hvd ht hv hc1 hv2 hc2 w5 w1 w2 w3 w4 (hD.imp (fun h => h.2) fun h => h.2)) ?_)
          rintro w1 ⟨ht2, hc⟩
          rw [← hfl]
          have fin : ∀ t2, t2 = BT.node (K1 ++ x :: K2) (V1 ++ y :: V2) (C1 ++ .node A1 E1 D1 :: .node A2 E2 D2 :: C2) → ∀ (e : Ending) (w' : World), (e = .returned (.tuple #[.int .i64 ((getM k (flat (h + 1) t2)).getD 0), .bool (getM k (flat (h + 1) t2)).isSome]) ∧ PutPost d (h + 1) b (fun j => S j ∨ w.heap.size ≤ j) k v t2 w1 w') →
              e = .returned (.tuple #[.int .i64 ((getM k (flat (h + 1) t2)).getD 0), .bool (getM k (flat (h + 1) t2)).isSome]) ∧ PutPost d (h + 1) b S k v (.node (K1 ++ K2) (V1 ++ V2) (C1 ++ .node (A1 ++ x :: A2) (E1 ++ y :: E2) (D1 ++ D2) :: C2)) w w' := by
            rintro t2 rfl e w' ⟨rfl, t', z1, z2, z3, z4, z5⟩
            refine ⟨rfl, t', z1.mono fun j h => ?_, hc.trans' z2 fun j h => h.imp id id, z3, by rw [z4, hfl], by simp at z5 ⊢; omega⟩
            rcases h with h | h
            · exact h
            · exact .inr (Nat.le_trans hc.size h)
          cases hx : kl k x
          · by_cases he : x = k
            · subst he
              refine (put_hit d (h + 1) b vd v y x K1 K2 V1 V2 _ _ w1 hd2 ht2 hs2 ha hv g1 ?_).mono (fin _ rfl)
              exact g2
            · have hxk : kl x k = true := by
                cases hxk : kl x k
                · exact (he (kl_tri hxk hx)).elim
                · rfl
              have re1 : K1 ++ x :: K2 = (K1 ++ [x]) ++ K2 := by simp
              have re2 : V1 ++ y :: V2 = (V1 ++ [y]) ++ V2 := by simp
              have re3 : C1 ++ .node A1 E1 D1 :: .node A2 E2 D2 :: C2 = (C1 ++ [.node A1 E1 D1]) ++ .node A2 E2 D2 :: C2 := by simp
              have fin' := fin _ rfl
              rw [re1, re2, re3] at ht2 hs2 ha ⊢
              rw [re1, re2, re3] at fin'
              refine (put_at d h b 0 vd v k (K1 ++ [x]) K2 (V1 ++ [y]) V2 (C1 ++ [.node A1 E1 D1]) C2 _ _ w1 hd hd2 hvd ih ht2 hs2 ha (by simp [hv]) (by simp [hc1]) ?_ g2 (by simp; omega)).mono fin'
              intro z hz
              rcases List.mem_append.1 hz with hz | hz
              · exact g1 z hz
              · rw [List.mem_singleton.1 hz]; exact hxk
          · refine (put_at d h b 0 vd v k K1 (x :: K2) V1 (y :: V2) C1 (.node A2 E2 D2 :: C2) (.node A1 E1 D1) _ w1 hd hd2 hvd ih ht2 hs2 ha hv hc1 g1 ?_ (by simp; omega)).mono (fin _ rfl)
            intro z hz
            rcases List.mem_cons.1 hz with rfl | hz
            · exact hx
            · exact g2 z hz
end Go.Proofs.Ytamnmoejjjaegaa
