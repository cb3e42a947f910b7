/- What enrich and remove do to a tree. Conditions: the form of a B-tree of a degree from 2 to 32, ascending keys; a root with a key, or a leaf. -/
import Derived.Test.YtamnmoejjjaegaaQ
import Derived.Test.YtamnmoejjjaegaaM
import Derived.Test.YtamnmoejjjaegaaE
set_option linter.unusedVariables false
set_option linter.unusedSimpArgs false
namespace Go.Proofs.Ytamnmoejjjaegaa
open Go Go.RowKit

theorem shape_slim {d : Nat} (hd2 : d ≤ 32) : ∀ (h : Nat) (t : BT), Shape d h t → Slim h t
  | 0, t, hs => by obtain ⟨a, b, c, e⟩ := shape_len hs hd2; exact ⟨by omega, by omega, hs.2.2⟩
  | h + 1, t, hs => by obtain ⟨a, b, c, e⟩ := shape_len hs hd2; exact ⟨by omega, by omega, by omega, fun x hx => shape_slim hd2 h x (hs.2.2.2 x hx).2⟩

theorem end_last {d : Nat} (hd : 2 ≤ d) : ∀ (h : Nat) (t : BT), Shape d h t → 1 ≤ t.ks.length → ∃ A x y, flat h t = A ++ [(x, y)] ∧ endP true h t = some (x, y)
  | 0, .node ks vs cs, hs, h1 => by
    obtain ⟨e1, e2, e3⟩ := hs
    simp only [BT.ks_node, BT.vs_node, BT.cs_node] at h1 e1
    obtain ⟨K, x, rfl⟩ := cut_last ks (by omega)
    obtain ⟨V, y, rfl⟩ := cut_last vs (by omega)
    simp at e1
    exact ⟨K.zip V, x, y, by simp [flat, zip_app _ _ _ _ e1.symm], by simp [endP, edge]⟩
  | h + 1, .node ks vs cs, hs, h1 => by
    obtain ⟨e1, e2, e3, e4⟩ := hs
    simp only [BT.ks_node, BT.vs_node, BT.cs_node] at h1 e1 e3 e4
    obtain ⟨C, c, rfl⟩ := cut_last cs (by omega)
    have hc := e4 c (by simp)
    obtain ⟨A, x, y, g1, g2⟩ := end_last hd h c hc.2 (by omega)
    have := flat_at h ks [] vs [] C [] c e1 (by simp at e3; exact e3)
    simp only [List.append_nil] at this
    rw [Rt_nil, List.append_nil, g1] at this
    exact ⟨_, x, y, by rw [this, List.append_assoc], by simp [endP, edge, g2]⟩
theorem end_first {d : Nat} (hd : 2 ≤ d) : ∀ (h : Nat) (t : BT), Shape d h t → 1 ≤ t.ks.length → ∃ A x y, flat h t = (x, y) :: A ∧ endP false h t = some (x, y)
  | 0, .node ks vs cs, hs, h1 => by
    obtain ⟨e1, e2, e3⟩ := hs
    simp only [BT.ks_node, BT.vs_node, BT.cs_node] at h1 e1
    match ks, vs with
    | [], _ => simp at h1
    | _ :: _, [] => simp at e1
    | x :: K, y :: V => exact ⟨K.zip V, x, y, rfl, by simp [endP, edge]⟩
  | h + 1, .node ks vs cs, hs, h1 => by
    obtain ⟨e1, e2, e3, e4⟩ := hs
    simp only [BT.ks_node, BT.vs_node, BT.cs_node] at h1 e1 e3 e4
    match cs with
    | [] => simp at e3
    | c :: C =>
      have hc := e4 c (by simp)
      obtain ⟨A, x, y, g1, g2⟩ := end_first hd h c hc.2 (by omega)
      have := flat_at h [] ks [] vs [] C c rfl rfl
      simp only [List.nil_append] at this
      rw [Lf_nil, List.nil_append, g1] at this
      exact ⟨_, x, y, by rw [this]; rfl, by simp [endP, edge, g2]⟩

theorem Row.inj {w : World} {E : TypeId} {v : Value} {xs ys : List Value} (h : Row w E v xs) (k : Row w E v ys) : xs = ys := by
  rcases h with ⟨rfl, rfl⟩ | ⟨g, cap, cur, rfl, h1, h2, h3, h4, h5⟩
  · rcases k with ⟨-, rfl⟩ | ⟨g, cap, cur, h, -⟩
    · rfl
    · cases h
  · rcases k with ⟨h, -⟩ | ⟨g', cap', cur', h, k1, k2, k3, k4, k5⟩
    · cases h
    · simp only [Value.slice.injEq, Option.some.injEq, Addr.mk.injEq] at h
      obtain ⟨⟨rfl, -⟩, hl, rfl⟩ := h
      rw [h1] at k1
      simp only [Option.some.injEq, Obj.cells.injEq] at k1
      obtain ⟨rfl, -⟩ := k1
      rw [← h5, ← k5, hl]
theorem pv_inj : ∀ {a b : List Nat}, a.map pv = b.map pv → a = b
  | [], [], _ => rfl
  | [], _ :: _, h => by simp at h
  | _ :: _, [], h => by simp at h
  | x :: a, y :: b, h => by
    simp only [List.map_cons, List.cons.injEq, pv, Value.pointer.injEq, Option.some.injEq, Addr.mk.injEq] at h
    rw [h.1.1, pv_inj h.2]
theorem Nd.same {w : World} {b : Nat} {vk vv vc uk uv uc : Value} {ks ks' : List ByteArray} {vs vs' : List Int} {bs bs' : List Nat} (h : Nd w b vk vv vc ks vs bs) (k : Nd w b uk uv uc ks' vs' bs') : bs = bs' := by
  have := h.blk.symm.trans k.blk
  simp only [Option.some.injEq, Obj.cells.injEq, Array.mk.injEq, List.cons.injEq] at this
  obtain ⟨⟨-, -, rfl, -⟩, -⟩ := this
  exact pv_inj (h.rc.inj k.rc)
/-- How many keys the children have. -/
theorem Tree.lens {w : World} {h b : Nat} {t : BT} {S : Nat → Prop} {vk vv vc : Value} {ks : List ByteArray} {vs : List Int} {bs : List Nat} (ht : Tree w (h + 1) b t S) (hN : Nd w b vk vv vc ks vs bs) (j : Nat) (q : Nat) (c : BT) (hq : bs[j]? = some q) (hc : t.cs[j]? = some c) :
    ∃ a n, w.cell? ⟨q, 0, none⟩ = some (.slice a c.ks.length n) := by
  obtain ⟨uk, uv, uc, bs', S', hN', -, -, -, hF⟩ := ht
  obtain rfl := hN.same hN'
  have hj : j < bs.length := (List.getElem?_eq_some_iff.1 hq).1
  obtain ⟨hj', -, S2, -, -, -, -, -, -, -, -, hT, -⟩ := Forest.pick j bs t.cs S' hF hj
  rw [List.getElem?_eq_getElem hj] at hq
  rw [List.getElem?_eq_getElem hj'] at hc
  cases hq; cases hc
  obtain ⟨tk, tv, tc, kb, SK, n1, -, -, -, -⟩ := hT.open
  obtain ⟨a, n, -, -, -, -, rfl, -, -⟩ := n1.form
  exact ⟨a, n, n1.c0⟩

/-- What enrich leaves: a child with a key more than it must have, at the place where k belongs. -/
def RichPost (d h b : Nat) (S : Nat → Prop) (k : ByteArray) (l : List E) (n : Nat) (w : World) (j : Nat) (w' : World) : Prop :=
  ∃ K1 K2 V1 V2 C1 c C2, j = K1.length ∧ Tree w' (h + 1) b (.node (K1 ++ K2) (V1 ++ V2) (C1 ++ c :: C2)) (fun j => S j ∨ w.heap.size ≤ j) ∧ Chg S w w' ∧ Shape d (h + 1) (.node (K1 ++ K2) (V1 ++ V2) (C1 ++ c :: C2)) ∧
    flat (h + 1) (.node (K1 ++ K2) (V1 ++ V2) (C1 ++ c :: C2)) = l ∧ V1.length = K1.length ∧ C1.length = K1.length ∧ (∀ x ∈ K1, kl x k = true) ∧ (∀ x ∈ K2, kl k x = true) ∧ d ≤ c.ks.length ∧ n ≤ K1.length + K2.length + 1

/-- The children of a child, parted behind a place. -/
theorem kid_cut {d h n : Nat} {cs : List BT} (hk : Kid d h (n + 1) cs) (m : Nat) (hm : m ≤ n) : ∃ D1 D2, cs = D1 ++ D2 ∧ ((h = 0 ∧ D1 = [] ∧ D2 = []) ∨ (0 < h ∧ D1.length = m + 1 ∧ D2.length = n + 1 - m)) := by
  cases h with
  | zero => exact ⟨[], [], hk, .inl ⟨rfl, rfl, rfl⟩⟩
  | succ h =>
    obtain ⟨h1, -⟩ := hk
    obtain ⟨D1, D2, rfl, h2⟩ := cut cs (m + 1) (by omega)
    exact ⟨D1, D2, rfl, .inr ⟨by omega, h2, by simp at h1; omega⟩⟩
theorem kid_mk {d h n : Nat} {cs : List BT} (h0 : h = 0 → cs = []) (h1 : 0 < h → cs.length = n + 1) {cs' : List BT} {m : Nat} (hs : Kid d h m cs') (hsub : ∀ x ∈ cs, x ∈ cs') : Kid d h n cs := by
  cases h with
  | zero => exact h0 rfl
  | succ h => exact ⟨h1 (by omega), fun c hc => hs.2 c (hsub c hc)⟩
theorem kid_mk2 {d h n : Nat} {cs : List BT} (h0 : h = 0 → cs = []) (h1 : 0 < h → cs.length = n + 1) {cs' cs'' : List BT} {m m' : Nat} (hs : Kid d h m cs') (hs' : Kid d h m' cs'') (hsub : ∀ x ∈ cs, x ∈ cs' ∨ x ∈ cs'') : Kid d h n cs := by
  cases h with
  | zero => exact h0 rfl
  | succ h => exact ⟨h1 (by omega), fun c hc => (hsub c hc).elim (hs.2 c) (hs'.2 c)⟩

/-- join at a tree of the form. -/
theorem joinS (d h b : Nat) (vi : Int) (K1 K2 : List ByteArray) (V1 V2 : List Int) (C1 C2 : List BT) (c c' : BT) (x : ByteArray) (y : Int) (S : Nat → Prop) (w : World) (hd : 2 ≤ d) (hd2 : d ≤ 32) (hvi : vi = (K1.length : Int))
    (ht : Tree w (h + 1) b (.node (K1 ++ x :: K2) (V1 ++ y :: V2) (C1 ++ c :: c' :: C2)) S) (hs : Shape d (h + 1) (.node (K1 ++ x :: K2) (V1 ++ y :: V2) (C1 ++ c :: c' :: C2))) (l1 : V1.length = K1.length) (l2 : C1.length = K1.length) (p1 : c.ks.length < d) (p2 : c'.ks.length < d) :
    Calls Try.prog 42 #[.pointer (some ⟨b, 0, none⟩), .int .i64 vi] w fun e w' => e = .returned (.tuple #[]) ∧ ∃ u, Tree w' (h + 1) b (.node (K1 ++ K2) (V1 ++ V2) (C1 ++ u :: C2)) (fun k => S k ∨ w.heap.size ≤ k) ∧ Chg S w w' ∧
      Shape d (h + 1) (.node (K1 ++ K2) (V1 ++ V2) (C1 ++ u :: C2)) ∧ d ≤ u.ks.length ∧ flat h u = flat h c ++ (x, y) :: flat h c' := by
  obtain ⟨A1, E1, D1⟩ := c
  obtain ⟨A2, E2, D2⟩ := c'
  obtain ⟨s1, s2, s3, s4⟩ := hs
  have q1 := s4 (.node A1 E1 D1) (by simp)
  have q2 := s4 (.node A2 E2 D2) (by simp)
  obtain ⟨f1, f2, f3, f4⟩ := shape_len q1.2 hd2
  obtain ⟨f5, f6, f7, f8⟩ := shape_len q2.2 hd2
  obtain ⟨g1, g2, g3⟩ := (shape_iff _ _ _).1 q1.2
  obtain ⟨g4, g5, g6⟩ := (shape_iff _ _ _).1 q2.2
  simp only [BT.ks_node, BT.vs_node, BT.cs_node, List.length_append, List.length_cons] at *
  refine (joinT h b vi K1 K2 A1 A2 V1 V2 E1 E2 C1 C2 D1 D2 x y S w hvi ht l1 l2 (by omega) (by omega) (by omega) (by omega) (by omega) (by omega)).mono ?_
  rintro e w' ⟨rfl, ht', hc⟩
  refine ⟨rfl, _, ht', hc, ⟨by simp; omega, by simp; omega, by simp; omega, fun z hz => ?_⟩, by simp; omega, ?_⟩
  · simp only [BT.cs_node, List.mem_append, List.mem_cons] at hz
    rcases hz with hz | rfl | hz
    · exact s4 z (by simp [hz])
    · refine ⟨by simp; omega, (shape_iff _ _ _).2 ⟨by simp; omega, by simp; omega, ?_⟩⟩
      refine kid_mk2 (fun h0 => ?_) (fun h0 => ?_) g3 g6 (fun z hz => by simpa using hz)
      · subst h0; rw [show D1 = [] from g3, show D2 = [] from g6]; rfl
      · obtain ⟨h', rfl⟩ : ∃ h', h = h' + 1 := ⟨h - 1, by omega⟩
        have := g3.1; have := g6.1; simp; omega
    · exact s4 z (by simp [hz])
  · refine flat_join h A1 A2 E1 E2 D1 D2 x y (by omega) ?_
    by_cases h0 : h = 0
    · exact .inl h0
    · obtain ⟨h', rfl⟩ : ∃ h', h = h' + 1 := ⟨h - 1, by omega⟩
      have := g3.1; have := g6.1
      exact .inr ⟨by omega, by intro e; rw [e] at g6; simp [Kid] at g6⟩

theorem enrichS (d h b : Nat) (vd : Int) (k : ByteArray) (K1 K2 : List ByteArray) (V1 V2 : List Int) (C1 C2 : List BT) (c : BT) (S : Nat → Prop) (w : World) (hd : 2 ≤ d) (hd2 : d ≤ 32) (hvd : vd = d)
    (ht : Tree w (h + 1) b (.node (K1 ++ K2) (V1 ++ V2) (C1 ++ c :: C2)) S) (hs : Shape d (h + 1) (.node (K1 ++ K2) (V1 ++ V2) (C1 ++ c :: C2))) (ha : Asc (flat (h + 1) (.node (K1 ++ K2) (V1 ++ V2) (C1 ++ c :: C2)))) (l1 : V1.length = K1.length) (l2 : C1.length = K1.length)
    (h1 : 1 ≤ K1.length + K2.length) (g1 : ∀ x ∈ K1, kl x k = true) (g2 : ∀ x ∈ K2, kl k x = true) :
    Calls Try.prog 40 #[.pointer (some ⟨b, 0, none⟩), .int .i64 (K1.length : Int), .int .i64 vd] w fun e w' => ∃ j : Nat, e = .returned (.int .i64 j) ∧ RichPost d h b S k (flat (h + 1) (.node (K1 ++ K2) (V1 ++ V2) (C1 ++ c :: C2))) (K1.length + K2.length) w j w' := by
  obtain ⟨vk, vv, vc, bs, S', hN, -, -, -, hF⟩ := id ht
  have hbl := Forest.length _ _ _ hF
  obtain ⟨s1, s2, s3, s4⟩ := id hs
  have lens := ht.lens hN
  simp only [BT.ks_node, BT.vs_node, BT.cs_node, List.length_append, List.length_cons] at s1 s2 s3 hbl hN lens
  obtain ⟨lf, hlf⟩ : ∃ lf : Nat → Nat, lf = fun j => ((C1 ++ c :: C2)[j]?.map fun c => c.ks.length).getD 0 := ⟨_, rfl⟩
  have lf_at : ∀ j c', (C1 ++ c :: C2)[j]? = some c' → lf j = c'.ks.length := fun j c' h => by rw [hlf]; simp [h]
  have lf0 := lf_at C1.length c (get_at rfl)
  rw [l2] at lf0
  have hlack := lacking52 b K1.length d (K1.length : Int) vd vk vv vc (K1 ++ K2) (V1 ++ V2) bs lf w hN (by omega) rfl hvd (by omega) (fun j hj => by
    have hj' : j < (C1 ++ c :: C2).length := by simp; omega
    obtain ⟨a, n, hh⟩ := lens j _ _ (List.getElem?_eq_getElem hj) (List.getElem?_eq_getElem hj')
    exact ⟨a, n, by rw [lf_at j _ (List.getElem?_eq_getElem hj')]; exact hh⟩)
  have chg0 : ∀ w1, Chg NoB w w1 → Chg S w w1 := fun w1 hc => hc.mono fun _ h => h.elim
  rw [lackC] at hlack
  split at hlack
  · -- nothing is lacking
    rename_i hr
    refine (enrich0 b K1.length _ vd w rfl hlack).mono ?_
    rintro e w' ⟨rfl, hc⟩
    exact ⟨K1.length, rfl, K1, K2, V1, V2, C1, c, C2, rfl, (ht.chg hc _ _ _ _ (fun _ _ h => h)).mono fun j h => .inl h, chg0 _ hc, hs, rfl, l1, l2, g1, g2, by omega, by omega⟩
  · rename_i hr
    split at hlack
    · -- from the left
      rename_i hr1
      obtain ⟨hi, hr1⟩ := hr1
      obtain ⟨K1, x, rfl⟩ := cut_last K1 (by omega)
      obtain ⟨V1, y, rfl⟩ := cut_last V1 (by omega)
      obtain ⟨C1, a, rfl⟩ := cut_last C1 (by omega)
      simp only [List.length_append, List.length_cons, List.length_nil, Nat.zero_add, Nat.add_right_cancel_iff, Nat.add_sub_cancel] at l1 l2 hr1 lf0 h1 s1 s2 s3 hr hlack
      have re : (C1 ++ [a]) ++ c :: C2 = C1 ++ a :: c :: C2 := by simp
      have lf1 := lf_at K1.length a (by rw [re]; exact get_at l2)
      have qa := s4 a (by simp)
      have qc := s4 c (by simp)
      obtain ⟨f1, f2, f3, f4⟩ := shape_len qa.2 hd2
      obtain ⟨f5, f6, f7, f8⟩ := shape_len qc.2 hd2
      obtain ⟨u1, u2, u3⟩ := (shape_iff _ _ _).1 qa.2
      obtain ⟨u4, u5, u6⟩ := (shape_iff _ _ _).1 qc.2
      obtain ⟨aks, avs, acs⟩ := a
      obtain ⟨A2, E2, D2⟩ := c
      simp only [BT.ks_node, BT.vs_node, BT.cs_node] at *
      obtain ⟨A1, p, rfl⟩ := cut_last aks (by omega)
      obtain ⟨E1, r, rfl⟩ := cut_last avs (by simp at u1; omega)
      simp only [List.length_append, List.length_cons, List.length_nil, Nat.zero_add, Nat.add_right_cancel_iff] at *
      obtain ⟨D1, Z, rfl, hD⟩ := kid_cut u3 A1.length (Nat.le_refl _)
      have hZ : Edge D1 Z (A1.length + 1) := by
        rcases hD with ⟨-, h2, h3⟩ | ⟨-, h2, h3⟩
        · exact .inl ⟨h2, h3⟩
        · exact .inr ⟨h2, List.length_eq_one_iff.1 (by omega)⟩
      have r1 : (K1 ++ [x]) ++ K2 = K1 ++ x :: K2 := by simp
      have r2 : (V1 ++ [y]) ++ V2 = V1 ++ y :: V2 := by simp
      rw [r1, r2, re] at ht hs ha ⊢
      refine (leftT d h b _ vd K1 K2 A1 A2 V1 V2 E1 E2 C1 C2 D1 D2 Z x p y r S w (by simp) ht l1 l2 (by omega) (by omega) (by omega) (by omega) (by omega) (by omega) (by omega) (by omega) hZ (by simpa using hlack)).mono ?_
      rintro e w' ⟨rfl, ht', hc⟩
      -- the list
      have fa := flat_join h A1 [] E1 [] D1 Z p r (by omega) (by
        rcases hD with ⟨h2, -⟩ | ⟨-, h2, h3⟩
        · exact .inl h2
        · exact .inr ⟨by omega, by intro e; rw [e] at h3; simp at h3⟩)
      have fb := flat_join h [] A2 [] E2 Z D2 x y rfl (by
        by_cases h0 : h = 0
        · exact .inl h0
        · obtain ⟨h', rfl⟩ : ∃ h', h = h' + 1 := ⟨h - 1, by omega⟩
          have := u6.1
          rcases hD with ⟨h2, -⟩ | ⟨-, h2, h3⟩
          · omega
          · exact .inr ⟨by simp; omega, by intro e; rw [e] at this; simp at this⟩)
      simp only [List.nil_append] at fb
      have hfl : flat (h + 1) (.node (K1 ++ p :: K2) (V1 ++ r :: V2) (C1 ++ .node A1 E1 D1 :: .node (x :: A2) (y :: E2) (Z ++ D2) :: C2)) = flat (h + 1) (.node (K1 ++ x :: K2) (V1 ++ y :: V2) (C1 ++ .node (A1 ++ [p]) (E1 ++ [r]) (D1 ++ Z) :: .node A2 E2 D2 :: C2)) := by
        rw [flat_two h K1 K2 V1 V2 C1 C2 _ _ p r l1 l2, flat_two h K1 K2 V1 V2 C1 C2 _ _ x y l1 l2, fa, fb]; simp
      have hpx : kl p x = true := by
        rw [flat_two h K1 K2 V1 V2 C1 C2 _ _ x y l1 l2, fa] at ha
        exact ha.across (p, r) (by simp) (x, y) (by simp)
      refine ⟨K1.length + 1, by simp, K1 ++ [p], K2, V1 ++ [r], V2, C1 ++ [.node A1 E1 D1], .node (x :: A2) (y :: E2) (Z ++ D2), C2, by simp, by simpa using ht', hc, ?_, by simpa using hfl, by simp [l1], by simp [l2], ?_, g2, by simp; omega, by simp⟩
      · refine ⟨by simp; omega, by simp; omega, by simp; omega, fun z hz => ?_⟩
        simp only [BT.cs_node, List.append_assoc, List.singleton_append, List.mem_append, List.mem_cons] at hz
        rcases hz with hz | rfl | rfl | hz
        · exact s4 z (by simp [hz])
        · refine ⟨by simp; omega, (shape_iff _ _ _).2 ⟨by simp; omega, by simp; omega, kid_mk (fun h0 => ?_) (fun h0 => ?_) u3 (fun z hz => by simp only [BT.cs_node] at hz; simp [hz])⟩⟩
          · rcases hD with ⟨h2, h3, h4⟩ | ⟨h2, h3, h4⟩
            · exact h3
            · omega
          · rcases hD with ⟨h2, h3, h4⟩ | ⟨h2, h3, h4⟩
            · omega
            · exact h3
        · refine ⟨by simp; omega, (shape_iff _ _ _).2 ⟨by simp; omega, by simp; omega, kid_mk2 (fun h0 => ?_) (fun h0 => ?_) u3 u6 (fun z hz => by
            simp only [BT.cs_node, List.mem_append] at hz
            rcases hz with hz | hz
            · exact .inl (by simp [hz])
            · exact .inr hz)⟩⟩
          · rcases hD with ⟨h2, h3, h4⟩ | ⟨h2, h3, h4⟩
            · subst h0; rw [h4, show D2 = [] from u6]; rfl
            · omega
          · rcases hD with ⟨h2, h3, h4⟩ | ⟨h2, h3, h4⟩
            · omega
            · obtain ⟨h', rfl⟩ : ∃ h', h = h' + 1 := ⟨h - 1, by omega⟩
              have := u6.1
              simp; omega
        · exact s4 z (by simp [hz])
      · intro z hz
        rcases List.mem_append.1 hz with hz | hz
        · exact g1 z (by simp [hz])
        · rw [List.mem_singleton.1 hz]; exact kl_trans hpx (g1 x (by simp))
    · rename_i hr1
      split at hlack
      · -- from the right
        rename_i hr2
        obtain ⟨hi, hr2⟩ := hr2
        rcases K2 with _ | ⟨x, K2⟩
        · simp at s3; omega
        rcases V2 with _ | ⟨y, V2⟩
        · simp at s1; omega
        rcases C2 with _ | ⟨a, C2⟩
        · simp at s3; omega
        · skip
          simp only [List.length_cons] at s1 s2 s3 h1
          have lf1 := lf_at (K1.length + 1) a (get_at1 l2)
          have qa := s4 a (by simp)
          have qc := s4 c (by simp)
          obtain ⟨f1, f2, f3, f4⟩ := shape_len qa.2 hd2
          obtain ⟨f5, f6, f7, f8⟩ := shape_len qc.2 hd2
          obtain ⟨u1, u2, u3⟩ := (shape_iff _ _ _).1 qa.2
          obtain ⟨u4, u5, u6⟩ := (shape_iff _ _ _).1 qc.2
          obtain ⟨aks, avs, acs⟩ := a
          obtain ⟨A1, E1, D1⟩ := c
          simp only [BT.ks_node, BT.vs_node, BT.cs_node] at *
          rcases aks with _ | ⟨p, A2⟩
          · simp at lf1; omega
          rcases avs with _ | ⟨r, E2⟩
          · simp at u1
          · skip
            simp only [List.length_cons, Nat.add_right_cancel_iff] at *
            obtain ⟨Z, D2, rfl, hD⟩ := kid_cut u3 0 (Nat.zero_le _)
            have hD1 : h = 0 → D1 = [] := fun h0 => by subst h0; exact u6
            refine (rightT d h b _ vd K1 K2 A1 A2 V1 V2 E1 E2 C1 C2 D1 D2 Z x p y r S w rfl ht l1 l2 (by omega) (by omega) (by omega) (by omega) (by omega) (by omega) (by
              rcases hD with ⟨h2, h3, h4⟩ | ⟨h2, h3, h4⟩
              · exact .inl ⟨hD1 h2, h4, h3⟩
              · exact .inr (List.length_eq_one_iff.1 h3)) hlack).mono ?_
            rintro e w' ⟨rfl, ht', hc⟩
            have fa := flat_join h [] A2 [] E2 Z D2 p r rfl (by
              rcases hD with ⟨h2, -⟩ | ⟨-, h2, h3⟩
              · exact .inl h2
              · exact .inr ⟨by simpa using h2, by intro e; rw [e] at h3; simp at h3⟩)
            have fb := flat_join h A1 [] E1 [] D1 Z x y (by omega) (by
              by_cases h0 : h = 0
              · exact .inl h0
              · obtain ⟨h', rfl⟩ : ∃ h', h = h' + 1 := ⟨h - 1, by omega⟩
                have := u6.1
                rcases hD with ⟨h2, -⟩ | ⟨-, h2, h3⟩
                · omega
                · exact .inr ⟨by omega, by intro e; rw [e] at h2; simp at h2⟩)
            simp only [List.nil_append] at fa
            have hfl : flat (h + 1) (.node (K1 ++ p :: K2) (V1 ++ r :: V2) (C1 ++ .node (A1 ++ [x]) (E1 ++ [y]) (D1 ++ Z) :: .node A2 E2 D2 :: C2)) = flat (h + 1) (.node (K1 ++ x :: K2) (V1 ++ y :: V2) (C1 ++ .node A1 E1 D1 :: .node (p :: A2) (r :: E2) (Z ++ D2) :: C2)) := by
              rw [flat_two h K1 K2 V1 V2 C1 C2 _ _ p r l1 l2, flat_two h K1 K2 V1 V2 C1 C2 _ _ x y l1 l2, fa, fb]; simp
            have hpx : kl x p = true := by
              rw [flat_two h K1 K2 V1 V2 C1 C2 _ _ x y l1 l2, fa] at ha
              exact (List.pairwise_cons.1 ha.right).1 (p, r) (by simp)
            refine ⟨K1.length, rfl, K1, p :: K2, V1, r :: V2, C1, .node (A1 ++ [x]) (E1 ++ [y]) (D1 ++ Z), .node A2 E2 D2 :: C2, rfl, ht', hc, ?_, hfl, l1, l2, g1, ?_, by simp; omega, by simp⟩
            · refine ⟨by simp; omega, by simp; omega, by simp; omega, fun z hz => ?_⟩
              simp only [BT.cs_node, List.mem_append, List.mem_cons] at hz
              rcases hz with hz | rfl | rfl | hz
              · exact s4 z (by simp [hz])
              · refine ⟨by simp; omega, (shape_iff _ _ _).2 ⟨by simp; omega, by simp; omega, kid_mk2 (fun h0 => ?_) (fun h0 => ?_) u3 u6 (fun z hz => by
                  simp only [BT.cs_node, List.mem_append] at hz
                  rcases hz with hz | hz
                  · exact .inr hz
                  · exact .inl (by simp [hz]))⟩⟩
                · rcases hD with ⟨h2, h3, h4⟩ | ⟨h2, h3, h4⟩
                  · rw [h3, hD1 h0]; rfl
                  · omega
                · rcases hD with ⟨h2, h3, h4⟩ | ⟨h2, h3, h4⟩
                  · omega
                  · obtain ⟨h', rfl⟩ : ∃ h', h = h' + 1 := ⟨h - 1, by omega⟩
                    have := u6.1
                    simp; omega
              · refine ⟨by simp; omega, (shape_iff _ _ _).2 ⟨by simp; omega, by simp; omega, kid_mk (fun h0 => ?_) (fun h0 => ?_) u3 (fun z hz => by simp only [BT.cs_node] at hz; simp [hz])⟩⟩
                · rcases hD with ⟨h2, h3, h4⟩ | ⟨h2, h3, h4⟩
                  · exact h4
                  · omega
                · rcases hD with ⟨h2, h3, h4⟩ | ⟨h2, h3, h4⟩
                  · omega
                  · simp; omega
              · exact s4 z (by simp [hz])
            · intro z hz
              rcases List.mem_cons.1 hz with rfl | hz
              · exact kl_trans (g2 x (by simp)) hpx
              · exact g2 z (by simp [hz])
      · rename_i hr2
        split at hlack
        · -- joined to the left
          rename_i hi
          obtain ⟨K1, x, rfl⟩ := cut_last K1 (by omega)
          obtain ⟨V1, y, rfl⟩ := cut_last V1 (by omega)
          obtain ⟨C1, a, rfl⟩ := cut_last C1 (by omega)
          simp only [List.length_append, List.length_cons, List.length_nil, Nat.zero_add, Nat.add_right_cancel_iff, Nat.add_sub_cancel] at l1 l2 lf0 h1 s1 s2 s3 hr hr1 hlack
          have re : (C1 ++ [a]) ++ c :: C2 = C1 ++ a :: c :: C2 := by simp
          have lf1 := lf_at K1.length a (by rw [re]; exact get_at l2)
          have r1 : (K1 ++ [x]) ++ K2 = K1 ++ x :: K2 := by simp
          have r2 : (V1 ++ [y]) ++ V2 = V1 ++ y :: V2 := by simp
          rw [r1, r2, re] at ht hs ha ⊢
          refine Calls.mono (enrich3 b K1.length _ vd (fun w' => ∃ u, Tree w' (h + 1) b (.node (K1 ++ K2) (V1 ++ V2) (C1 ++ u :: C2)) (fun k => S k ∨ w.heap.size ≤ k) ∧ Chg S w w' ∧ Shape d (h + 1) (.node (K1 ++ K2) (V1 ++ V2) (C1 ++ u :: C2)) ∧ d ≤ u.ks.length ∧ flat h u = flat h a ++ (x, y) :: flat h c) w (by simp) (by omega) (by simpa using hlack) ?_) ?_
          · intro w1 hc1
            refine (joinS d h b (K1.length : Int) K1 K2 V1 V2 C1 C2 a c x y S w1 hd hd2 rfl (ht.chg hc1 _ _ _ _ (fun _ _ h => h)) hs l1 l2 (by omega) (by omega)).mono ?_
            rintro e w' ⟨rfl, u, z1, z2, z3, z4, z5⟩
            exact ⟨rfl, u, z1.mono fun k h => h.imp id fun h => Nat.le_trans hc1.size h, (chg0 _ hc1).trans z2, z3, z4, z5⟩
          · rintro e w' ⟨rfl, u, z1, z2, z3, z4, z5⟩
            refine ⟨K1.length, rfl, K1, K2, V1, V2, C1, u, C2, rfl, z1, z2, z3, ?_, l1, l2, fun z hz => g1 z (by simp [hz]), g2, z4, by simp; omega⟩
            rw [flat_at h K1 K2 V1 V2 C1 C2 u l1 l2, z5, flat_two h K1 K2 V1 V2 C1 C2 a c x y l1 l2]; simp
        · -- joined to the right
          rename_i hi
          obtain rfl : K1 = [] := List.length_eq_zero_iff.1 (by omega)
          obtain rfl : V1 = [] := List.length_eq_zero_iff.1 l1
          obtain rfl : C1 = [] := List.length_eq_zero_iff.1 l2
          rcases K2 with _ | ⟨x, K2⟩
          · simp at h1
          rcases V2 with _ | ⟨y, V2⟩
          · simp at s1
          rcases C2 with _ | ⟨a, C2⟩
          · simp at s3
          · skip
            have lf1 := lf_at (0 + 1) a rfl
            simp only [List.length_nil, List.length_cons] at *
            refine Calls.mono (enrich4 b 0 _ vd (fun w' => ∃ u, Tree w' (h + 1) b (.node ([] ++ K2) ([] ++ V2) ([] ++ u :: C2)) (fun k => S k ∨ w.heap.size ≤ k) ∧ Chg S w w' ∧ Shape d (h + 1) (.node ([] ++ K2) ([] ++ V2) ([] ++ u :: C2)) ∧ d ≤ u.ks.length ∧ flat h u = flat h c ++ (x, y) :: flat h a) w rfl (by omega) hlack ?_) ?_
            · intro w1 hc1
              refine (joinS d h b 0 [] K2 [] V2 [] C2 c a x y S w1 hd hd2 rfl (ht.chg hc1 _ _ _ _ (fun _ _ h => h)) hs rfl rfl (by omega) (by omega)).mono ?_
              rintro e w' ⟨rfl, u, z1, z2, z3, z4, z5⟩
              exact ⟨rfl, u, z1.mono fun k h => h.imp id fun h => Nat.le_trans hc1.size h, (chg0 _ hc1).trans z2, z3, z4, z5⟩
            · rintro e w' ⟨rfl, u, z1, z2, z3, z4, z5⟩
              refine ⟨0, rfl, [], K2, [], V2, [], u, C2, rfl, z1, z2, z3, ?_, rfl, rfl, g1, fun z hz => g2 z (by simp [hz]), z4, by simp⟩
              rw [flat_at h [] K2 [] V2 [] C2 u rfl rfl, z5, flat_two h [] K2 [] V2 [] C2 c a x y rfl rfl]; simp
end Go.Proofs.Ytamnmoejjjaegaa
