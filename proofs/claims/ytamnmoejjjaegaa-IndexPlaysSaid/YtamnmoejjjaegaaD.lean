/- What (*node).remove does to a tree. Conditions: the form of a B-tree of a degree from 2 to 32, ascending keys; a root with a key, or a leaf. -/
import Derived.Test.YtamnmoejjjaegaaR
set_option linter.unusedVariables false
set_option linter.unusedSimpArgs false
namespace Go.Proofs.Ytamnmoejjjaegaa
open Go Go.RowKit

/-- What remove leaves. -/
def RemPost (d h b : Nat) (S : Nat → Prop) (k : ByteArray) (t : BT) (w : World) (w' : World) : Prop :=
  ∃ t', Tree w' h b t' (fun j => S j ∨ w.heap.size ≤ j) ∧ Chg S w w' ∧ Shape d h t' ∧ flat h t' = delM k (flat h t) ∧ t.ks.length ≤ t'.ks.length + 1

def RemSays (d : Nat) (vd : Int) (h : Nat) : Prop := ∀ (k : ByteArray) (b : Nat) (t : BT) (S : Nat → Prop) (w : World), Tree w h b t S → Shape d h t → Asc (flat h t) → (0 < h → 1 ≤ t.ks.length) →
    Calls Try.prog 24 #[.pointer (some ⟨b, 0, none⟩), .string k, .int .i64 vd] w fun e w' => e = .returned (.tuple #[.int .i64 ((getM k (flat h t)).getD 0), .bool (getM k (flat h t)).isSome]) ∧ RemPost d h b S k t w w'

theorem rem_zero (d : Nat) (vd : Int) (hd2 : d ≤ 32) : RemSays d vd 0 := by
  rintro k b ⟨ks, vs, cs⟩ S w ht hs ha -
  obtain ⟨K1, K2, hk, g1, g2⟩ := place k ks (keys_asc hs ha)
  obtain ⟨l1, l2, l3, l4⟩ := shape_len hs hd2
  obtain ⟨vk, vv, vc, hN, s1, hcs⟩ := ht
  obtain rfl : cs = [] := hcs
  simp only [BT.ks_node, BT.vs_node, BT.cs_node] at l1 l2 l3 l4 hN
  subst hk
  obtain ⟨e1, e2, -⟩ := hs
  simp only [BT.ks_node, BT.vs_node] at e1 e2
  rcases g2 with ⟨K3, rfl, g2⟩ | g2
  · obtain ⟨V1, y, V3, rfl, hv⟩ := cut1 vs K1.length (by simp at l4; omega)
    simp only [List.length_append, List.length_cons] at l1 l4 e1 e2
    have ef : flat 0 (.node (K1 ++ k :: K3) (V1 ++ y :: V3) []) = K1.zip V1 ++ (k, y) :: K3.zip V3 := zip_app _ _ _ _ hv.symm
    have gL : ∀ e ∈ K1.zip V1, kl e.1 k = true := fun e he => g1 _ (mem_zip_fst e he)
    have gR : ∀ e ∈ K3.zip V3, kl k e.1 = true := fun e he => g2 _ (mem_zip_fst e he)
    rw [ef, getM_lt gL, getM_hit]
    refine (rem_leaf_yes b K1.length k vd y (K1 ++ k :: K3) (V1 ++ y :: V3) vk vv vc w hN (find_yes hN (by simp; omega) g1 g2) (by simp) (get_at hv) (by simp; omega) (by simp; omega)).mono ?_
    rintro e w' ⟨vk', vv', rfl, hN', c1, hc⟩
    rw [take_at rfl, drop_at1 rfl, take_at hv, drop_at1 hv] at hN'
    refine ⟨rfl, .node (K1 ++ K3) (V1 ++ V3) [], ⟨vk', vv', vc, hN', fun j h => (c1 j h).imp (s1 j) id, rfl⟩, hc.mono s1, ⟨by simp; omega, by simp; omega, rfl⟩, ?_, by simp; omega⟩
    rw [ef, delM_lt gL, delM_hit k y gR]
    exact zip_app _ _ _ _ hv.symm
  · obtain ⟨V1, V2, rfl, hv⟩ := cut vs K1.length (by simp at l4; omega)
    have gL : ∀ e ∈ K1.zip V1, kl e.1 k = true := fun e he => g1 _ (mem_zip_fst e he)
    have gR : ∀ e ∈ K2.zip V2, kl k e.1 = true := fun e he => g2 _ (mem_zip_fst e he)
    have ef : flat 0 (.node (K1 ++ K2) (V1 ++ V2) []) = K1.zip V1 ++ K2.zip V2 := zip_app _ _ _ _ hv.symm
    have e0 : getM k (flat 0 (.node (K1 ++ K2) (V1 ++ V2) [])) = none := by
      rw [ef, getM_lt gL]; exact getM_gt (l := []) gR
    rw [e0]
    refine (rem_leaf_no b K1.length k vd (K1 ++ K2) (V1 ++ V2) vk vv vc w hN (find_no hN (by simp at l1 ⊢; omega) g1 g2)).mono ?_
    rintro e w' ⟨rfl, rfl⟩
    refine ⟨rfl, .node (K1 ++ K2) (V1 ++ V2) [], ⟨vk, vv, vc, hN, fun j h => .inl (s1 j h), rfl⟩, Chg.refl _ _, ⟨e1, e2, rfl⟩, ?_, by simp⟩
    rw [ef, delM_lt gL]
    have := delM_gt gR []
    simp only [List.nil_append] at this
    rw [this]; rfl

/-- The child at a place, with a list instead of its own. -/
theorem shape_put {d h : Nat} {K1 K2 : List ByteArray} {V1 V2 : List Int} {C1 C2 : List BT} {c c' : BT} (hs : Shape d (h + 1) (.node (K1 ++ K2) (V1 ++ V2) (C1 ++ c :: C2))) (h1 : d ≤ c'.ks.length + 1) (h2 : Shape d h c') : Shape d (h + 1) (.node (K1 ++ K2) (V1 ++ V2) (C1 ++ c' :: C2)) := by
  obtain ⟨e1, e2, e3, e4⟩ := hs
  refine ⟨e1, e2, by simpa using e3, fun z hz => ?_⟩
  simp only [BT.cs_node, List.mem_append, List.mem_cons] at hz
  rcases hz with hz | rfl | hz
  · exact e4 z (by simp [hz])
  · exact ⟨h1, h2⟩
  · exact e4 z (by simp [hz])
theorem shape_set {d h : Nat} {ks ks' : List ByteArray} {vs vs' : List Int} {cs : List BT} (hs : Shape d (h + 1) (.node ks vs cs)) (h1 : ks'.length = ks.length) (h2 : vs'.length = vs.length) : Shape d (h + 1) (.node ks' vs' cs) := by
  obtain ⟨e1, e2, e3, e4⟩ := hs
  simp only [BT.ks_node, BT.vs_node, BT.cs_node] at *
  exact ⟨by simp; omega, by simp; omega, by simp; omega, e4⟩

theorem rem_succ (d h : Nat) (vd : Int) (hd : 2 ≤ d) (hd2 : d ≤ 32) (hvd : vd = d) (ih : RemSays d vd h) : RemSays d vd (h + 1) := by
  rintro k b ⟨ks, vs, cs⟩ S w ht hs ha h1
  obtain ⟨K1, K2, hk, g1, g2⟩ := place k ks (keys_asc hs ha)
  obtain ⟨l1, l2, l3, l4⟩ := shape_len hs hd2
  obtain ⟨e1, e2, e3, e4⟩ := id hs
  subst hk
  simp only [BT.ks_node, BT.vs_node, BT.cs_node] at l1 l2 l3 l4 e1 e2 e3 h1
  rcases g2 with ⟨K3, rfl, g2⟩ | g2
  · -- the key is one of the node
    obtain ⟨V1, y, V3, rfl, hv⟩ := cut1 vs K1.length (by simp at l4; omega)
    obtain ⟨C1, c, C3, rfl, hc1⟩ := cut1 cs K1.length (by simp at e3; omega)
    rcases C3 with _ | ⟨c', C4⟩
    · simp at e3; omega
    simp only [List.length_append, List.length_cons] at l1 l2 l3 l4 e1 e2 e3 h1
    have hv3 : V3.length = K3.length := by omega
    have hc4 : C4.length = K3.length := by omega
    have q1 := e4 c (by simp)
    have q2 := e4 c' (by simp)
    have hfl := flat_two h K1 K3 V1 V3 C1 C4 c c' k y hv hc1
    have ha2 := ha
    rw [hfl] at ha2
    obtain ⟨gA, gB⟩ := asc_hit ha2
    have eg : getM k (flat (h + 1) (.node (K1 ++ k :: K3) (V1 ++ y :: V3) (C1 ++ c :: c' :: C4))) = some y := by rw [hfl, getM_lt gA, getM_hit]
    have ed : delM k (flat (h + 1) (.node (K1 ++ k :: K3) (V1 ++ y :: V3) (C1 ++ c :: c' :: C4))) = (Lf h K1 V1 C1 ++ flat h c) ++ (flat h c' ++ Rt h K3 V3 C4) := by rw [hfl, delM_lt gA, delM_hit k y gB]
    rw [eg]
    have hnk : (K1 ++ k :: K3).length ≤ 63 := by simp; omega
    by_cases hr : d ≤ c.ks.length
    · -- the last key of the child before it
      obtain ⟨A, px, py, hA, hend⟩ := end_last hd h c q1.2 (by omega)
      obtain ⟨vk, vv, vc, B1, q, B2, SM, hN, b1, b2, hT, s1, a1, s2, back⟩ := ht.swap
      rcases B2 with _ | ⟨q', B2⟩
      · simp at b2
      have hBq : B1.length = K1.length := b1.trans hc1
      obtain ⟨aq, cq, hq0⟩ := ht.lens hN K1.length q c (get_at hBq) (get_at hc1)
      refine rem_left b K1.length q q' c.ks.length cq d aq k px vd y py (K1 ++ k :: K3) (V1 ++ y :: V3) (B1 ++ q :: q' :: B2) vk vv vc _ w hN (find_yes hN (by omega) g1 g2) (by simp) (get_at hv) (by simp; omega) (by omega) (by simp; simp at b2; omega) hvd (get_at hBq) (get_at1 hBq) hq0 hr ?_ ?_
      · intro W hW
        exact end41 q h c SM true px py W (hT.chg hW _ _ _ _ (fun _ _ h => h)) (shape_slim hd2 h c q1.2) hend
      · intro w1 hN1 hc1'
        rw [set_at rfl, set_at hv] at hN1
        have ac : Asc (flat h c) := ha2.left.right
        refine (ih px q c SM w1 (hT.chg hc1' _ _ _ _ a1.symm) q1.2 ac (fun _ => by omega)).mono ?_
        rintro e w' ⟨rfl, c'', hT', hc', hs', hf', hl'⟩
        refine ⟨⟨_, _, rfl⟩, ?_⟩
        obtain ⟨t1, t2⟩ := back w1 w' c'' _ _ hN1 hc1' hc' hT'
        refine ⟨_, t1, t2, ?_, ?_, by simp⟩
        · exact shape_put (shape_set hs (by simp) (by simp)) (by omega) hs'
        · have gA2 : ∀ e ∈ A, kl e.1 px = true := by
            rw [hA] at ac
            exact (asc_hit ac).1
          rw [flat_two h K1 K3 V1 V3 C1 C4 c'' c' px py hv hc1, ed, hf', hA, delM_lt gA2, delM_hit px py (by simp)]
          simp
    · by_cases hr2 : d ≤ c'.ks.length
      · -- the first key of the child behind it
        obtain ⟨A, px, py, hA, hend⟩ := end_first hd h c' q2.2 (by omega)
        have re : C1 ++ c :: c' :: C4 = (C1 ++ [c]) ++ c' :: C4 := by simp
        have ht2 := ht
        rw [re] at ht2
        obtain ⟨vk, vv, vc, B1, q', B2, SM, hN, b1, b2, hT, s1, a1, s2, back⟩ := ht2.swap
        obtain ⟨B1, q, rfl⟩ := cut_last B1 (by simp at b1; omega)
        simp only [List.length_append, List.length_cons, List.length_nil, Nat.zero_add, Nat.add_right_cancel_iff] at b1
        have hBq : B1.length = K1.length := b1.trans hc1
        have rb : (B1 ++ [q]) ++ q' :: B2 = B1 ++ q :: q' :: B2 := by simp
        rw [rb] at hN back
        obtain ⟨aq, cq, hq0⟩ := ht.lens hN K1.length q c (get_at hBq) (get_at hc1)
        obtain ⟨aq', cq', hq1⟩ := ht.lens hN (K1.length + 1) q' c' (get_at1 hBq) (get_at1 hc1)
        refine rem_right b K1.length q q' c.ks.length cq c'.ks.length cq' d aq aq' k px vd y py (K1 ++ k :: K3) (V1 ++ y :: V3) (B1 ++ q :: q' :: B2) vk vv vc _ w hN (find_yes hN (by omega) g1 g2) (by simp) (get_at hv) (by simp; omega) (by omega) (by simp; omega) hvd (get_at hBq) (get_at1 hBq) hq0 hq1 (by omega) hr2 ?_ ?_
        · intro W hW
          exact end41 q' h c' SM false px py W (hT.chg hW _ _ _ _ (fun _ _ h => h)) (shape_slim hd2 h c' q2.2) hend
        · intro w1 hN1 hc1'
          rw [set_at rfl, set_at hv] at hN1
          have ac : Asc (flat h c') := Asc.left (List.pairwise_cons.1 ha2.right).2
          refine (ih px q' c' SM w1 (hT.chg hc1' _ _ _ _ a1.symm) q2.2 ac (fun _ => by omega)).mono ?_
          rintro e w' ⟨rfl, c'', hT', hc', hs', hf', hl'⟩
          refine ⟨⟨_, _, rfl⟩, ?_⟩
          obtain ⟨t1, t2⟩ := back w1 w' c'' _ _ hN1 hc1' hc' hT'
          refine ⟨_, t1, t2, ?_, ?_, by simp⟩
          · have hs2 : Shape d (h + 1) (.node ((K1 ++ px :: K3) ++ []) ((V1 ++ py :: V3) ++ []) ((C1 ++ [c]) ++ c' :: C4)) := by
              rw [← re]; exact shape_set hs (by simp) (by simp)
            have := shape_put (c' := c'') hs2 (by omega) hs'
            simpa using this
          · have gA2 : ∀ e ∈ A, kl px e.1 = true := by
              rw [hA] at ac
              exact (List.pairwise_cons.1 ac).1
            have re2 : (C1 ++ [c]) ++ c'' :: C4 = C1 ++ c :: c'' :: C4 := by simp
            rw [re2, flat_two h K1 K3 V1 V3 C1 C4 c c'' px py hv hc1, ed, hf', hA, delM_hit px py gA2]
            simp
      · -- both children joined
        obtain ⟨vk, vv, vc, B1, q, B2, SM, hN, b1, b2, -, -, -, -, -⟩ := ht.swap
        rcases B2 with _ | ⟨q', B2⟩
        · simp at b2
        have hBq : B1.length = K1.length := b1.trans hc1
        obtain ⟨aq, cq, hq0⟩ := ht.lens hN K1.length q c (get_at hBq) (get_at hc1)
        obtain ⟨aq', cq', hq1⟩ := ht.lens hN (K1.length + 1) q' c' (get_at1 hBq) (get_at1 hc1)
        refine rem_join b K1.length q q' c.ks.length cq c'.ks.length cq' d aq aq' k vd y (K1 ++ k :: K3) (V1 ++ y :: V3) (B1 ++ q :: q' :: B2) vk vv vc _ _ w hN (find_yes hN (by omega) g1 g2) (get_at hv) (by simp; omega) (by simp; simp at b2; omega) hvd (get_at hBq) (get_at1 hBq) hq0 hq1 (by omega) (by omega)
          (joinS d h b (K1.length : Int) K1 K3 V1 V3 C1 C4 c c' k y S w hd hd2 rfl ht hs hv hc1 (by omega) (by omega)) ?_
        rintro w1 ⟨u, z1, z2, z3, z4, z5⟩
        obtain ⟨uk, uv, uc, D1, r, D2, SN, hN1, d1, d2, hT, t1, a1, t2, back⟩ := z1.swap
        have hDr : D1.length = K1.length := d1.trans hc1
        refine ⟨r, hN1.kidAt (get_at hDr) (by simp; omega), ?_⟩
        have qu := (z3.2.2.2 u (by simp)).2
        have au : Asc (flat h u) := by
          rw [z5]
          exact (show Asc ((Lf h K1 V1 C1) ++ (flat h c ++ ((k, y) :: flat h c') ++ Rt h K3 V3 C4)) by simpa using ha2).right.left
        refine (ih k r u SN w1 hT qu au (fun _ => by omega)).mono ?_
        rintro e w' ⟨rfl, u', hT', hc', hs', hf', hl'⟩
        refine ⟨⟨_, _, rfl⟩, ?_⟩
        obtain ⟨t1', t2'⟩ := back w1 w' u' _ _ hN1 (Chg.refl _ _) hc' hT'
        refine ⟨_, t1'.mono fun j h => ?_, z2.trans' t2' fun j h => h.imp id id, shape_put z3 (by omega) hs', ?_, by simp; omega⟩
        · rcases h with h | h
          · exact h
          · exact .inr (Nat.le_trans z2.size h)
        · rw [flat_at h K1 K3 V1 V3 C1 C4 u' hv hc1, ed, hf', z5, delM_lt (fun e he => gA e (by simp [he])), delM_hit k y (fun e he => gB e (by simp [he]))]
          simp
  · -- below a child
    obtain ⟨V1, V2, rfl, hv⟩ := cut vs K1.length (by simp at l4; omega)
    obtain ⟨C1, c, C2, rfl, hc1⟩ := cut1 cs K1.length (by simp at e3; omega)
    simp only [List.length_append, List.length_cons] at l1 l2 l3 l4 e1 e2 e3 h1
    obtain ⟨vk, vv, vc, B1, q, B2, SM, hN, b1, b2, -, -, -, -, -⟩ := ht.swap
    have hne : B1 ++ q :: B2 ≠ [] := by simp
    refine rem_enrich b K1.length k vd _ _ (K1 ++ K2) (V1 ++ V2) (B1 ++ q :: B2) vk vv vc _ _ w hN hne (find_no hN (by simp; omega) g1 g2) (enrichS d h b vd k K1 K2 V1 V2 C1 C2 c S w hd hd2 hvd ht hs ha hv hc1 (h1 (by omega)) g1 g2) ?_
    rintro j w1 ⟨K1', K2', V1', V2', C1', u, C2', rfl, z1, z2, z3, z4, m1, m2, m3, m4, m5, m6⟩
    obtain ⟨uk, uv, uc, D1, r, D2, SN, hN1, d1, d2, hT, t1, a1, t2, back⟩ := z1.swap
    have hDr : D1.length = K1'.length := d1.trans m2
    obtain ⟨f1, f2, f3, f4⟩ := shape_len z3 hd2
    simp only [BT.ks_node, BT.vs_node, BT.cs_node, List.length_append, List.length_cons] at f1 f2 f3 f4
    refine ⟨r, hN1.kidAt (get_at hDr) (by simp; omega), ?_⟩
    have qu := (z3.2.2.2 u (by simp)).2
    have e3' := z3.2.2.1
    have e1' := z3.1
    simp only [BT.ks_node, BT.vs_node, BT.cs_node, List.length_append, List.length_cons] at e3' e1'
    have hfl := flat_at h K1' K2' V1' V2' C1' C2' u m1 m2
    rw [← z4, hfl] at ha
    have gL := Lf_lt m1 m2 ha.left.left m3
    have gR := Rt_gt (h := h) (K := K2') (V := V2') (C := C2') (by omega) (by omega) ha.right m4
    have eg : getM k (flat (h + 1) (.node (K1 ++ K2) (V1 ++ V2) (C1 ++ c :: C2))) = getM k (flat h u) := by rw [← z4, hfl, getM_gt gR, getM_lt gL]
    rw [eg]
    refine (ih k r u SN w1 hT qu ha.left.right (fun _ => by omega)).mono ?_
    rintro e w' ⟨rfl, u', hT', hc', hs', hf', hl'⟩
    refine ⟨rfl, ?_⟩
    obtain ⟨t1', t2'⟩ := back w1 w' u' _ _ hN1 (Chg.refl _ _) hc' hT'
    refine ⟨_, t1'.mono fun j h => ?_, z2.trans' t2' fun j h => h.imp id id, shape_put z3 (by omega) hs', ?_, by simp; omega⟩
    · rcases h with h | h
      · exact h
      · exact .inr (Nat.le_trans z2.size h)
    · rw [flat_at h K1' K2' V1' V2' C1' C2' u' m1 m2, hf', ← z4, hfl, delM_gt gR, delM_lt gL]

theorem remove24 (d : Nat) (vd : Int) (hd : 2 ≤ d) (hd2 : d ≤ 32) (hvd : vd = d) : ∀ h : Nat, RemSays d vd h
  | 0 => rem_zero d vd hd2
  | h + 1 => rem_succ d h vd hd hd2 hvd (remove24 d vd hd hd2 hvd h)
end Go.Proofs.Ytamnmoejjjaegaa
