/- split, join and enrich at whole trees. Conditions: the form of the children, rows of at most 1000 elements. -/
import Derived.Test.YtamnmoejjjaegaaT
import Derived.Test.YtamnmoejjjaegaaN1
import Derived.Test.YtamnmoejjjaegaaN4
import Derived.Test.YtamnmoejjjaegaaN5
import Derived.Test.YtamnmoejjjaegaaN6
set_option linter.unusedVariables false
set_option linter.unusedSimpArgs false
namespace Go.Proofs.Ytamnmoejjjaegaa
open Go Go.RowKit
section
variable {α : Type}
theorem take_at {a b : List α} {n : Nat} (h : a.length = n) : (a ++ b).take n = a := List.take_left' h
theorem drop_at {a b : List α} {n : Nat} (h : a.length = n) : (a ++ b).drop n = b := List.drop_left' h
theorem take_at1 {a b : List α} {x : α} {n : Nat} (h : a.length = n) : (a ++ x :: b).take (n + 1) = a ++ [x] := by
  rw [show a ++ x :: b = (a ++ [x]) ++ b by simp]; exact List.take_left' (by simp [h])
theorem drop_at1 {a b : List α} {x : α} {n : Nat} (h : a.length = n) : (a ++ x :: b).drop (n + 1) = b := by
  rw [show a ++ x :: b = (a ++ [x]) ++ b by simp]; exact List.drop_left' (by simp [h])
theorem drop_at2 {a b : List α} {x y : α} {n : Nat} (h : a.length = n) : (a ++ x :: y :: b).drop (n + 2) = b := by
  rw [show a ++ x :: y :: b = (a ++ [x, y]) ++ b by simp]; exact List.drop_left' (by simp [h])
theorem get_at {a b : List α} {x : α} {n : Nat} (h : a.length = n) : (a ++ x :: b)[n]? = some x := by subst h; simp
theorem get_at1 {a b : List α} {x y : α} {n : Nat} (h : a.length = n) : (a ++ x :: y :: b)[n + 1]? = some y := by subst h; simp
theorem set_at {a b : List α} {x y : α} {n : Nat} (h : a.length = n) : (a ++ x :: b).set n y = a ++ y :: b := by subst h; simp
end

/-- Two children beside each other have been given new rows, and parts of their children. -/
theorem Tree.mend2 {w w' : World} {h b r r' : Nat} {vk vv vc uk uv uc tk tv tc : Value} {ks A1 A2 : List ByteArray} {vs E1 E2 : List Int} {B1 B2 kb kb' : List Nat} {C1 C2 D1 D2 : List BT} {SR SK P1 P2 X S : Nat → Prop}
    (hg : Gap w h B1 C1 B2 C2 SR) (k : Chg X w w') (aX : Apart (fun k => SR k ∨ SK k) X) (aR : Apart SR SK) (lt : ∀ k, SR k ∨ SK k → k < w.heap.size) (hX : Sub X S) (hR : Sub (fun k => SR k ∨ SK k) S)
    (hN : Nd w' b vk vv vc ks vs (B1 ++ r :: r' :: B2)) (n1 : Nd w' r uk uv uc A1 E1 kb) (n2 : Nd w' r' tk tv tc A2 E2 kb') (k1 : Kids w h kb D1 P1) (k2 : Kids w h kb' D2 P2) (p1 : Sub P1 SK) (p2 : Sub P2 SK) (p12 : Apart P1 P2)
    (s0 : Sub (nset b vk vv vc) (fun k => X k ∨ w.heap.size ≤ k)) (s1 : Sub (nset r uk uv uc) (fun k => X k ∨ w.heap.size ≤ k)) (s2 : Sub (nset r' tk tv tc) (fun k => X k ∨ w.heap.size ≤ k))
    (a1 : Apart (nset b vk vv vc) (nset r uk uv uc)) (a2 : Apart (nset b vk vv vc) (nset r' tk tv tc)) (a3 : Apart (nset r uk uv uc) (nset r' tk tv tc)) :
    Tree w' (h + 1) b (.node ks vs (C1 ++ .node A1 E1 D1 :: .node A2 E2 D2 :: C2)) (fun k => S k ∨ w.heap.size ≤ k) := by
  have far : ∀ T : Nat → Prop, Sub T (fun k => X k ∨ w.heap.size ≤ k) → ∀ U : Nat → Prop, (∀ k, U k → SR k ∨ SK k) → Apart T U := fun T hT U hU k t u => by
    rcases hT k t with h | h
    · exact aX k (hU k u) h
    · have := lt k (hU k u); omega
  have t1 : Tree w' h r (.node A1 E1 D1) (fun k => nset r uk uv uc k ∨ P1 k) := Tree.close n1 (fun _ h => .inl h) (fun _ h => .inr h) (far _ s1 _ fun k h => .inr (p1 k h)) (k1.chg k (fun j h x => aX j (.inr (p1 j h)) x))
  have t2 : Tree w' h r' (.node A2 E2 D2) (fun k => nset r' tk tv tc k ∨ P2 k) := Tree.close n2 (fun _ h => .inl h) (fun _ h => .inr h) (far _ s2 _ fun k h => .inr (p2 k h)) (k2.chg k (fun j h x => aX j (.inr (p2 j h)) x))
  refine Tree.join (N := [.node A1 E1 D1, .node A2 E2 D2]) (M := [r, r']) (SR := SR) (SM := fun k => (nset r uk uv uc k ∨ P1 k) ∨ nset r' tk tv tc k ∨ P2 k) hN (hg.chg k fun j h x => aX j (.inl h) x) ?_ (far _ s0 _ fun k h => .inl h) ?_ ?_ ?_ ?_ ?_
  · refine Forest.cons t1 (Forest.single t2) ?_ (fun _ h => .inl h) (fun _ h => .inr h)
    rintro j (h | h) (g | g)
    · exact a3 j h g
    · exact far _ s1 _ (fun k h => .inr (p2 k h)) j h g
    · exact far _ s2 _ (fun k h => .inr (p1 k h)) j g h
    · exact p12 j h g
  · rintro j h ((g | g) | g | g)
    · exact a1 j h g
    · exact far _ s0 _ (fun k h => .inr (p1 k h)) j h g
    · exact a2 j h g
    · exact far _ s0 _ (fun k h => .inr (p2 k h)) j h g
  · rintro j h ((g | g) | g | g)
    · exact far _ s1 _ (fun k h => .inl h) j g h
    · exact aR j h (p1 j g)
    · exact far _ s2 _ (fun k h => .inl h) j g h
    · exact aR j h (p2 j g)
  · exact fun j h => (s0 j h).imp (hX j) id
  · exact fun j h => .inl (hR j (.inl h))
  · rintro j ((g | g) | g | g)
    · exact (s1 j g).imp (hX j) id
    · exact .inl (hR j (.inr (p1 j g)))
    · exact (s2 j g).imp (hX j) id
    · exact .inl (hR j (.inr (p2 j g)))

theorem Tree.mend1 {w w' : World} {h b r : Nat} {vk vv vc uk uv uc : Value} {ks A1 : List ByteArray} {vs E1 : List Int} {B1 B2 kb : List Nat} {C1 C2 D1 : List BT} {SR SK P1 X S : Nat → Prop}
    (hg : Gap w h B1 C1 B2 C2 SR) (k : Chg X w w') (aX : Apart (fun k => SR k ∨ SK k) X) (aR : Apart SR SK) (lt : ∀ k, SR k ∨ SK k → k < w.heap.size) (hX : Sub X S) (hR : Sub (fun k => SR k ∨ SK k) S)
    (hN : Nd w' b vk vv vc ks vs (B1 ++ r :: B2)) (n1 : Nd w' r uk uv uc A1 E1 kb) (k1 : Kids w h kb D1 P1) (p1 : Sub P1 SK)
    (s0 : Sub (nset b vk vv vc) (fun k => X k ∨ w.heap.size ≤ k)) (s1 : Sub (nset r uk uv uc) (fun k => X k ∨ w.heap.size ≤ k)) (a1 : Apart (nset b vk vv vc) (nset r uk uv uc)) :
    Tree w' (h + 1) b (.node ks vs (C1 ++ .node A1 E1 D1 :: C2)) (fun k => S k ∨ w.heap.size ≤ k) := by
  have far : ∀ T : Nat → Prop, Sub T (fun k => X k ∨ w.heap.size ≤ k) → ∀ U : Nat → Prop, (∀ k, U k → SR k ∨ SK k) → Apart T U := fun T hT U hU k t u => by
    rcases hT k t with h | h
    · exact aX k (hU k u) h
    · have := lt k (hU k u); omega
  have t1 : Tree w' h r (.node A1 E1 D1) (fun k => nset r uk uv uc k ∨ P1 k) := Tree.close n1 (fun _ h => .inl h) (fun _ h => .inr h) (far _ s1 _ fun k h => .inr (p1 k h)) (k1.chg k (fun j h x => aX j (.inr (p1 j h)) x))
  refine Tree.join (N := [.node A1 E1 D1]) (M := [r]) (SR := SR) (SM := fun k => nset r uk uv uc k ∨ P1 k) hN (hg.chg k fun j h x => aX j (.inl h) x) (Forest.single t1) (far _ s0 _ fun k h => .inl h) ?_ ?_ ?_ ?_ ?_
  · rintro j h (g | g)
    · exact a1 j h g
    · exact far _ s0 _ (fun k h => .inr (p1 k h)) j h g
  · rintro j h (g | g)
    · exact far _ s1 _ (fun k h => .inl h) j g h
    · exact aR j h (p1 j g)
  · exact fun j h => (s0 j h).imp (hX j) id
  · exact fun j h => .inl (hR j (.inl h))
  · rintro j (g | g)
    · exact (s1 j g).imp (hX j) id
    · exact .inl (hR j (.inr (p1 j g)))

theorem split27U (n q i d : Nat) (vi vd : Int) (ks : List ByteArray) (vs : List Int) (bs : List Nat) (A1 A2 : List ByteArray) (E1 E2 : List Int) (G1 G2 : List Nat) (vk vv vc uk uv uc : Value) (x : ByteArray) (y : Int) (w : World)
    (hN : Nd w n vk vv vc ks vs bs) (hQ : Nd w q uk uv uc (A1 ++ x :: A2) (E1 ++ y :: E2) (G1 ++ G2)) (hA : Apart (nset n vk vv vc) (nset q uk uv uc)) (hi : i < bs.length) (hq : bs[i]? = some q) (hvi : vi = i) (hvd : vd = d)
    (hd : 2 ≤ d) (hd2 : d ≤ 32) (h1 : A1.length + 1 = d) (h2 : A2.length + 1 = d) (h3 : E1.length + 1 = d) (h4 : E2.length + 1 = d) (hG : (G1 = [] ∧ G2 = []) ∨ (G1.length = d ∧ G2.length = d)) (hl1 : vs.length = ks.length) (hl2 : bs.length = ks.length + 1) (hl3 : ks.length ≤ 1000) :
    Calls Try.prog 27 #[.pointer (some ⟨n, 0, none⟩), .int .i64 vi, .int .i64 vd] w fun e w' => ∃ vk' vv' vc' uk' uv' uc' r rk rv rc, e = .returned (.tuple #[]) ∧ Nd w' n vk' vv' vc' (ks.take i ++ x :: ks.drop i) (vs.take i ++ y :: vs.drop i) (bs.take (i + 1) ++ r :: bs.drop (i + 1)) ∧
        Nd w' q uk' uv' uc' A1 E1 G1 ∧ Nd w' r rk rv rc A2 E2 G2 ∧
        Apart (nset n vk' vv' vc') (nset q uk' uv' uc') ∧ Apart (nset n vk' vv' vc') (nset r rk rv rc) ∧ Apart (nset q uk' uv' uc') (nset r rk rv rc) ∧
        Sub (nset n vk' vv' vc') (fun k => nset n vk vv vc k ∨ w.heap.size ≤ k) ∧ Sub (nset q uk' uv' uc') (fun k => nset q uk uv uc k ∨ w.heap.size ≤ k) ∧ (∀ k, nset r rk rv rc k → w.heap.size ≤ k) ∧
        Chg (fun k => nset n vk vv vc k ∨ nset q uk uv uc k) w w' := by
  have ea : A1.length = d - 1 := by omega
  have ee : E1.length = d - 1 := by omega
  have hd1 : d - 1 + 1 = d := by omega
  rcases hG with ⟨rfl, rfl⟩ | ⟨g1, g2⟩
  · refine (split27L n q i d (2 * d - 1) vi vd ks vs bs _ _ [] vk vv vc uk uv uc x y w hN hQ hA hi hq hvi hvd hd hd2 rfl (by simp; omega) (by simp; omega) (get_at ea) (get_at ee) rfl hl1 hl2 hl3).mono ?_
    rintro e w' ⟨a1, a2, a3, a4, a5, a6, r, a7, a8, a9, h⟩
    rw [take_at ea, take_at ee] at h
    have e1 : (A1 ++ x :: A2).drop d = A2 := hd1 ▸ drop_at1 ea
    have e2 : (E1 ++ y :: E2).drop d = E2 := hd1 ▸ drop_at1 ee
    rw [e1, e2] at h
    exact ⟨a1, a2, a3, a4, a5, a6, r, a7, a8, a9, by simpa using h⟩
  · refine (split27K n q i d (2 * d - 1) vi vd ks vs bs _ _ (G1 ++ G2) vk vv vc uk uv uc x y w hN hQ hA hi hq hvi hvd hd hd2 rfl (by simp; omega) (by simp; omega) (get_at ea) (get_at ee) (by simp; omega) hl1 hl2 hl3).mono ?_
    rintro e w' ⟨a1, a2, a3, a4, a5, a6, r, a7, a8, a9, h⟩
    rw [take_at ea, take_at ee, take_at g1, drop_at g1] at h
    have e1 : (A1 ++ x :: A2).drop d = A2 := hd1 ▸ drop_at1 ea
    have e2 : (E1 ++ y :: E2).drop d = E2 := hd1 ▸ drop_at1 ee
    rw [e1, e2] at h
    exact ⟨a1, a2, a3, a4, a5, a6, r, a7, a8, a9, h⟩

/-- split at a tree. -/
theorem splitT (d h b : Nat) (vi vd : Int) (K1 K2 A1 A2 : List ByteArray) (V1 V2 E1 E2 : List Int) (C1 C2 D1 D2 : List BT) (x : ByteArray) (y : Int) (S : Nat → Prop) (w : World) (hd : 2 ≤ d) (hd2 : d ≤ 32) (hvi : vi = (K1.length : Int)) (hvd : vd = d)
    (ht : Tree w (h + 1) b (.node (K1 ++ K2) (V1 ++ V2) (C1 ++ .node (A1 ++ x :: A2) (E1 ++ y :: E2) (D1 ++ D2) :: C2)) S) (l1 : V1.length = K1.length) (l2 : C1.length = K1.length) (l3 : V2.length = K2.length) (l4 : C2.length = K2.length) (l5 : K1.length + K2.length ≤ 1000)
    (m1 : A1.length + 1 = d) (m2 : A2.length + 1 = d) (m3 : E1.length + 1 = d) (m4 : E2.length + 1 = d) (hD : (D1 = [] ∧ D2 = []) ∨ (D1.length = d ∧ D2.length = d)) :
    Calls Try.prog 27 #[.pointer (some ⟨b, 0, none⟩), .int .i64 vi, .int .i64 vd] w fun e w' => e = .returned (.tuple #[]) ∧
      Tree w' (h + 1) b (.node (K1 ++ x :: K2) (V1 ++ y :: V2) (C1 ++ .node A1 E1 D1 :: .node A2 E2 D2 :: C2)) (fun k => S k ∨ w.heap.size ≤ k) ∧ Chg S w w' := by
  obtain ⟨vk, vv, vc, B1, M, B2, SR, SM, hN, q1, -, q2, hg, hf, a1, a2, a3, s1, s2, s3, b1, b2⟩ := Tree.take (N := [.node (A1 ++ x :: A2) (E1 ++ y :: E2) (D1 ++ D2)]) ht
  obtain ⟨q, T1, rfl, t1, hT1⟩ := hf.one
  obtain ⟨uk, uv, uc, kb, SK, n1, u1, u2, u3, k1⟩ := hT1.open
  obtain ⟨G1, G2, P1, P2, rfl, g1, p1, p2, p12, kk1, kk2⟩ := Kids.parts k1
  have hlen := kk2.length
  have hqq : B1.length = K1.length := q1.trans l2
  refine (split27U b q K1.length d vi vd (K1 ++ K2) (V1 ++ V2) (B1 ++ q :: B2) A1 A2 E1 E2 G1 G2 vk vv vc uk uv uc x y w hN n1 (a2.mono (Sub.refl _) (u1.trans t1)) (by simp; omega) (get_at hqq) hvi hvd hd hd2 m1 m2 m3 m4 ?_ (by simp; omega) (by simp; omega) (by simp; omega)).mono ?_
  · rcases hD with ⟨rfl, rfl⟩ | ⟨h1, h2⟩
    · exact .inl ⟨List.length_eq_zero_iff.1 g1, List.length_eq_zero_iff.1 hlen⟩
    · exact .inr ⟨by omega, by omega⟩
  · rintro e w' ⟨vk', vv', vc', uk', uv', uc', r, rk, rv, rc, rfl, hN', n1', n2', c1, c2, c3, c4, c5, c6, hc⟩
    rw [take_at rfl, drop_at rfl, take_at l1, drop_at l1, take_at1 hqq, drop_at1 hqq, List.append_assoc, List.singleton_append] at hN'
    refine ⟨rfl, ?_, hc.mono fun k h => h.elim (s1 k) fun h => s3 k (t1 k (u1 k h))⟩
    refine Tree.mend2 (SR := SR) (SK := SK) (X := fun k => nset b vk vv vc k ∨ nset q uk uv uc k) hg hc ?_ (a3.mono (Sub.refl _) (u2.trans t1)) ?_ ?_ ?_ hN' n1' n2' kk1 kk2 p1 p2 p12 ?_ ?_ (fun k h => .inr (c6 k h)) c1 c2 c3
    · rintro k (h | h) (g | g)
      · exact a1 k g h
      · exact a3 k h (t1 k (u1 k g))
      · exact a2 k g (t1 k (u2 k h))
      · exact u3 k g h
    · exact fun k h => h.elim (b1 k) fun h => b2 k (t1 k (u2 k h))
    · exact fun k h => h.elim (s1 k) fun h => s3 k (t1 k (u1 k h))
    · exact fun k h => h.elim (s2 k) fun h => s3 k (t1 k (u2 k h))
    · exact fun k h => (c4 k h).imp .inl id
    · exact fun k h => (c5 k h).imp .inr id

/-- join at a tree. -/
theorem joinT (h b : Nat) (vi : Int) (K1 K2 A1 A2 : List ByteArray) (V1 V2 E1 E2 : List Int) (C1 C2 D1 D2 : List BT) (x : ByteArray) (y : Int) (S : Nat → Prop) (w : World) (hvi : vi = (K1.length : Int))
    (ht : Tree w (h + 1) b (.node (K1 ++ x :: K2) (V1 ++ y :: V2) (C1 ++ .node A1 E1 D1 :: .node A2 E2 D2 :: C2)) S) (l1 : V1.length = K1.length) (l2 : C1.length = K1.length) (l3 : V2.length = K2.length) (l4 : C2.length = K2.length) (l5 : K1.length + K2.length ≤ 900)
    (m1 : A1.length + A2.length ≤ 1000) (m3 : E1.length + E2.length ≤ 1000) (m4 : D1.length + D2.length ≤ 1000) :
    Calls Try.prog 42 #[.pointer (some ⟨b, 0, none⟩), .int .i64 vi] w fun e w' => e = .returned (.tuple #[]) ∧
      Tree w' (h + 1) b (.node (K1 ++ K2) (V1 ++ V2) (C1 ++ .node (A1 ++ x :: A2) (E1 ++ y :: E2) (D1 ++ D2) :: C2)) (fun k => S k ∨ w.heap.size ≤ k) ∧ Chg S w w' := by
  obtain ⟨vk, vv, vc, B1, q, q', B2, SR, uk, uv, uc, kb, S1, tk, tv, tc, kb', S2, hN, q1, q2, hg, n1, k1, n2, k2, a1, a2, a3, a4, a5, a6, lt, hS⟩ := ht.pair
  have hqq : B1.length = K1.length := q1.trans l2
  refine (join42 b q q' K1.length vi (K1 ++ x :: K2) (V1 ++ y :: V2) (B1 ++ q :: q' :: B2) A1 E1 kb A2 E2 kb' vk vv vc uk uv uc tk tv tc x y w hN n1 n2 a1 a2 a3 (by simp) (get_at hqq) (get_at1 hqq) hvi (get_at rfl) (get_at l1) (by simp; omega) (by simp; omega) (by simp; omega) m1 m3
    (by rw [k1.length, k2.length]; exact m4)).mono ?_
  rintro e w' ⟨vk', vv', vc', uk', uv', uc', rfl, hN', n1', c1, c2, c3, hc⟩
  rw [take_at rfl, drop_at1 rfl, take_at l1, drop_at1 l1, take_at1 hqq, drop_at2 hqq, List.append_assoc, List.singleton_append] at hN'
  refine ⟨rfl, ?_, hc.mono fun k h => hS k (h.elim .inl fun h => .inr (.inl h))⟩
  refine Tree.mend1 (SR := SR) (SK := fun k => S1 k ∨ S2 k) (X := fun k => nset b vk vv vc k ∨ nset q uk uv uc k) hg hc ?_ a5 ?_ ?_ ?_ hN' n1' (k1.append k2 a6) (Sub.refl _) ?_ ?_ c1
  · exact fun k h g => a4 k h (g.elim .inl fun g => .inr (.inl g))
  · exact lt
  · exact fun k h => hS k (h.elim .inl fun h => .inr (.inl h))
  · exact fun k h => hS k (.inr (.inr (.inr h)))
  · exact fun k h => (c2 k h).imp .inl id
  · exact fun k h => (c3 k h).imp .inr id

/-- What is true of the last child of a node, or of none where there are none. -/
def Edge (cs Z : List BT) (n : Nat) : Prop := (cs = [] ∧ Z = []) ∨ (cs.length = n ∧ ∃ z, Z = [z])

/-- enrich from the left at a tree. -/
theorem leftT (d h b : Nat) (vi vd : Int) (K1 K2 A1 A2 : List ByteArray) (V1 V2 E1 E2 : List Int) (C1 C2 D1 D2 Z : List BT) (x p : ByteArray) (y r : Int) (S : Nat → Prop) (w : World) (hvi : vi = (K1.length : Int) + 1)
    (ht : Tree w (h + 1) b (.node (K1 ++ x :: K2) (V1 ++ y :: V2) (C1 ++ .node (A1 ++ [p]) (E1 ++ [r]) (D1 ++ Z) :: .node A2 E2 D2 :: C2)) S) (l1 : V1.length = K1.length) (l2 : C1.length = K1.length) (l3 : V2.length = K2.length) (l4 : C2.length = K2.length) (l5 : K1.length + K2.length ≤ 900)
    (m1 : A1.length ≤ 1000) (m2 : A2.length ≤ 1000) (m3 : E1.length = A1.length) (m4 : E2.length ≤ 1000) (m5 : D2.length ≤ 1000) (hZ : Edge D1 Z (A1.length + 1))
    (hlack : Calls Try.prog 52 #[.pointer (some ⟨b, 0, none⟩), .int .i64 vi, .int .i64 vd] w fun e w' => e = .returned (.int .i64 1) ∧ Chg NoB w w') :
    Calls Try.prog 40 #[.pointer (some ⟨b, 0, none⟩), .int .i64 vi, .int .i64 vd] w fun e w' => e = .returned (.int .i64 ((K1.length : Int) + 1)) ∧
      Tree w' (h + 1) b (.node (K1 ++ p :: K2) (V1 ++ r :: V2) (C1 ++ .node A1 E1 D1 :: .node (x :: A2) (y :: E2) (Z ++ D2) :: C2)) (fun k => S k ∨ w.heap.size ≤ k) ∧ Chg S w w' := by
  obtain ⟨vk, vv, vc, B1, q, q', B2, SR, uk, uv, uc, kb, S1, tk, tv, tc, kb', S2, hN, q1, q2, hg, n1, k1, n2, k2, a1, a2, a3, a4, a5, a6, lt, hS⟩ := ht.pair
  have hqq : B1.length = K1.length := q1.trans l2
  obtain ⟨G1, G2, P1, P2, rfl, g1, p1, p2, p12, kk1, kk2⟩ := Kids.parts k1
  have hlen := kk2.length
  have h2len := k2.length
  have fin : ∀ (e : Ending) (w' : World), (∃ vk' vv' vc' uk' uv' uc' tk' tv' tc', e = .returned (.int .i64 ((K1.length : Int) + 1)) ∧ Nd w' b vk' vv' vc' ((K1 ++ x :: K2).set K1.length p) ((V1 ++ y :: V2).set K1.length r) (B1 ++ q :: q' :: B2) ∧
        Nd w' q uk' uv' uc' A1 E1 G1 ∧ Nd w' q' tk' tv' tc' (x :: A2) (y :: E2) (G2 ++ kb') ∧ Apart (nset b vk' vv' vc') (nset q uk' uv' uc') ∧ Apart (nset b vk' vv' vc') (nset q' tk' tv' tc') ∧ Apart (nset q uk' uv' uc') (nset q' tk' tv' tc') ∧
        Sub (nset b vk' vv' vc') (fun k => nset b vk vv vc k ∨ w.heap.size ≤ k) ∧ Sub (nset q uk' uv' uc') (fun k => nset q uk uv uc k ∨ w.heap.size ≤ k) ∧ Sub (nset q' tk' tv' tc') (fun k => nset q' tk tv tc k ∨ w.heap.size ≤ k) ∧ Chg (fun k => nset b vk vv vc k ∨ nset q uk uv uc k ∨ nset q' tk tv tc k) w w') →
      (e = .returned (.int .i64 ((K1.length : Int) + 1)) ∧ Tree w' (h + 1) b (.node (K1 ++ p :: K2) (V1 ++ r :: V2) (C1 ++ .node A1 E1 D1 :: .node (x :: A2) (y :: E2) (Z ++ D2) :: C2)) (fun k => S k ∨ w.heap.size ≤ k) ∧ Chg S w w') := by
    rintro e w' ⟨vk', vv', vc', uk', uv', uc', tk', tv', tc', rfl, hN', n1', n2', c1, c2, c3, c4, c5, c6, hc⟩
    rw [set_at rfl, set_at l1] at hN'
    refine ⟨rfl, ?_, hc.mono fun k h => hS k (h.elim .inl fun h => .inr (h.elim .inl fun h => .inr (.inl h)))⟩
    refine Tree.mend2 (SR := SR) (SK := fun k => S1 k ∨ S2 k) (X := fun k => nset b vk vv vc k ∨ nset q uk uv uc k ∨ nset q' tk tv tc k) hg hc a4 a5 lt ?_ ?_ hN' n1' n2' kk1 (kk2.append k2 (a6.mono p2 (Sub.refl _))) (fun k h => .inl (p1 k h)) (fun k h => h.imp (p2 k) id) ?_ ?_ ?_ ?_ c1 c2 c3
    · exact fun k h => hS k (h.elim .inl fun h => .inr (h.elim .inl fun h => .inr (.inl h)))
    · exact fun k h => hS k (.inr (.inr (.inr h)))
    · exact fun k h g => g.elim (p12 k h) (a6 k (p1 k h))
    · exact fun k h => (c4 k h).imp .inl id
    · exact fun k h => (c5 k h).imp (fun h => .inr (.inl h)) id
    · exact fun k h => (c6 k h).imp (fun h => .inr (.inr h)) id
  have hZ' : (G1 = [] ∧ G2 = []) ∨ (G1.length = A1.length + 1 ∧ ∃ z, G2 = [z]) := by
    rcases hZ with ⟨rfl, rfl⟩ | ⟨z1, z, rfl⟩
    · exact .inl ⟨List.length_eq_zero_iff.1 g1, List.length_eq_zero_iff.1 hlen⟩
    · exact .inr ⟨by omega, List.length_eq_one_iff.1 hlen⟩
  refine (enrichL b q q' K1.length A1.length d vi vd _ _ _ _ _ _ _ _ _ vk vv vc uk uv uc tk tv tc x p y r G1 G2 w hN n1 n2 a1 a2 a3 hlack (by simp) (get_at hqq) (get_at1 hqq) hvi (get_at rfl) (get_at l1) (by simp; omega) (by simp; omega) (by simp; omega)
    (by simp) (by simp; omega) (get_at rfl) (get_at m3) rfl m2 m4 (by omega) m1 hZ').mono ?_
  intro e w' h
  rw [take_at rfl, take_at m3] at h
  exact fin e w' h

/-- enrich from the right at a tree. -/
theorem rightT (d h b : Nat) (vi vd : Int) (K1 K2 A1 A2 : List ByteArray) (V1 V2 E1 E2 : List Int) (C1 C2 D1 D2 Z : List BT) (x p : ByteArray) (y r : Int) (S : Nat → Prop) (w : World) (hvi : vi = (K1.length : Int))
    (ht : Tree w (h + 1) b (.node (K1 ++ x :: K2) (V1 ++ y :: V2) (C1 ++ .node A1 E1 D1 :: .node (p :: A2) (r :: E2) (Z ++ D2) :: C2)) S) (l1 : V1.length = K1.length) (l2 : C1.length = K1.length) (l3 : V2.length = K2.length) (l4 : C2.length = K2.length) (l5 : K1.length + K2.length ≤ 900)
    (m1 : A1.length ≤ 1000) (m3 : E1.length ≤ 1000) (m5 : D1.length ≤ 1000) (hZ : (D1 = [] ∧ D2 = [] ∧ Z = []) ∨ ∃ z, Z = [z])
    (hlack : Calls Try.prog 52 #[.pointer (some ⟨b, 0, none⟩), .int .i64 vi, .int .i64 vd] w fun e w' => e = .returned (.int .i64 2) ∧ Chg NoB w w') :
    Calls Try.prog 40 #[.pointer (some ⟨b, 0, none⟩), .int .i64 vi, .int .i64 vd] w fun e w' => e = .returned (.int .i64 (K1.length : Int)) ∧
      Tree w' (h + 1) b (.node (K1 ++ p :: K2) (V1 ++ r :: V2) (C1 ++ .node (A1 ++ [x]) (E1 ++ [y]) (D1 ++ Z) :: .node A2 E2 D2 :: C2)) (fun k => S k ∨ w.heap.size ≤ k) ∧ Chg S w w' := by
  obtain ⟨vk, vv, vc, B1, q, q', B2, SR, uk, uv, uc, kb, S1, tk, tv, tc, kb', S2, hN, q1, q2, hg, n1, k1, n2, k2, a1, a2, a3, a4, a5, a6, lt, hS⟩ := ht.pair
  have hqq : B1.length = K1.length := q1.trans l2
  obtain ⟨G2, G3, P1, P2, rfl, g1, p1, p2, p12, kk1, kk2⟩ := Kids.parts k2
  have hlen := kk2.length
  have h1len := k1.length
  have fin : ∀ (e : Ending) (w' : World), (∃ vk' vv' vc' uk' uv' uc' tk' tv' tc', e = .returned (.int .i64 (K1.length : Int)) ∧ Nd w' b vk' vv' vc' ((K1 ++ x :: K2).set K1.length p) ((V1 ++ y :: V2).set K1.length r) (B1 ++ q :: q' :: B2) ∧
        Nd w' q uk' uv' uc' (A1 ++ [x]) (E1 ++ [y]) (kb ++ G2) ∧ Nd w' q' tk' tv' tc' A2 E2 G3 ∧ Apart (nset b vk' vv' vc') (nset q uk' uv' uc') ∧ Apart (nset b vk' vv' vc') (nset q' tk' tv' tc') ∧ Apart (nset q uk' uv' uc') (nset q' tk' tv' tc') ∧
        Sub (nset b vk' vv' vc') (fun k => nset b vk vv vc k ∨ w.heap.size ≤ k) ∧ Sub (nset q uk' uv' uc') (fun k => nset q uk uv uc k ∨ w.heap.size ≤ k) ∧ Sub (nset q' tk' tv' tc') (fun k => nset q' tk tv tc k ∨ w.heap.size ≤ k) ∧ Chg (fun k => nset b vk vv vc k ∨ nset q uk uv uc k ∨ nset q' tk tv tc k) w w') →
      (e = .returned (.int .i64 (K1.length : Int)) ∧ Tree w' (h + 1) b (.node (K1 ++ p :: K2) (V1 ++ r :: V2) (C1 ++ .node (A1 ++ [x]) (E1 ++ [y]) (D1 ++ Z) :: .node A2 E2 D2 :: C2)) (fun k => S k ∨ w.heap.size ≤ k) ∧ Chg S w w') := by
    rintro e w' ⟨vk', vv', vc', uk', uv', uc', tk', tv', tc', rfl, hN', n1', n2', c1, c2, c3, c4, c5, c6, hc⟩
    rw [set_at rfl, set_at l1] at hN'
    refine ⟨rfl, ?_, hc.mono fun k h => hS k (h.elim .inl fun h => .inr (h.elim .inl fun h => .inr (.inl h)))⟩
    refine Tree.mend2 (SR := SR) (SK := fun k => S1 k ∨ S2 k) (X := fun k => nset b vk vv vc k ∨ nset q uk uv uc k ∨ nset q' tk tv tc k) hg hc a4 a5 lt ?_ ?_ hN' n1' n2' (k1.append kk1 (a6.mono (Sub.refl _) p1)) kk2 (fun k h => h.imp id (p1 k)) (fun k h => .inr (p2 k h)) ?_ ?_ ?_ ?_ c1 c2 c3
    · exact fun k h => hS k (h.elim .inl fun h => .inr (h.elim .inl fun h => .inr (.inl h)))
    · exact fun k h => hS k (.inr (.inr (.inr h)))
    · exact fun k h g => h.elim (fun h => a6 k h (p2 k g)) fun h => p12 k h g
    · exact fun k h => (c4 k h).imp .inl id
    · exact fun k h => (c5 k h).imp (fun h => .inr (.inl h)) id
    · exact fun k h => (c6 k h).imp (fun h => .inr (.inr h)) id
  have hZ' : (kb = [] ∧ G2 = [] ∧ G3 = []) ∨ ∃ z, G2 = [z] := by
    rcases hZ with ⟨rfl, rfl, rfl⟩ | ⟨z, rfl⟩
    · exact .inl ⟨List.length_eq_zero_iff.1 h1len, List.length_eq_zero_iff.1 g1, List.length_eq_zero_iff.1 hlen⟩
    · exact .inr (List.length_eq_one_iff.1 g1)
  refine (enrichR b q q' K1.length d vi vd _ _ _ _ _ _ _ _ _ vk vv vc uk uv uc tk tv tc x p y r G2 G3 w hN n1 n2 a1 a2 a3 hlack (by simp) (get_at hqq) (get_at1 hqq) hvi (get_at rfl) (get_at l1) (by simp; omega) (by simp; omega) (by simp; omega)
    rfl rfl rfl m1 m3 (by omega) hZ').mono ?_
  intro e w' h
  exact fin e w' h
end Go.Proofs.Ytamnmoejjjaegaa
