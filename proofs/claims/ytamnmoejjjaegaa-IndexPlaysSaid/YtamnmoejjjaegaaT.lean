/- Taking a tree in memory apart at some children and putting it together again. No program, no conditions. -/
import Derived.Test.YtamnmoejjjaegaaH
set_option linter.unusedVariables false
set_option linter.unusedSimpArgs false
namespace Go.Proofs.Ytamnmoejjjaegaa
open Go Go.RowKit

/-- The children of a node of height h. -/
def Kids (w : World) : Nat → List Nat → List BT → (Nat → Prop) → Prop
  | 0, bs, cs, _ => bs = [] ∧ cs = []
  | h + 1, bs, cs, S => Forest (Tree w h) bs cs S

theorem Tree.open {w : World} {h b : Nat} {t : BT} {S : Nat → Prop} (ht : Tree w h b t S) : ∃ vk vv vc bs S', Nd w b vk vv vc t.ks t.vs bs ∧ Sub (nset b vk vv vc) S ∧ Sub S' S ∧ Apart (nset b vk vv vc) S' ∧ Kids w h bs t.cs S' := by
  cases h with
  | zero => obtain ⟨vk, vv, vc, h1, h2, h3⟩ := ht; exact ⟨vk, vv, vc, [], fun _ => False, h1, h2, fun _ h => h.elim, fun _ _ h => h, rfl, h3⟩
  | succ h => exact ht
theorem Tree.close {w : World} {h b : Nat} {vk vv vc : Value} {ks : List ByteArray} {vs : List Int} {bs : List Nat} {cs : List BT} {S S' : Nat → Prop} (hN : Nd w b vk vv vc ks vs bs) (h1 : Sub (nset b vk vv vc) S) (h2 : Sub S' S) (h3 : Apart (nset b vk vv vc) S')
    (hK : Kids w h bs cs S') : Tree w h b (.node ks vs cs) S := by
  cases h with
  | zero => obtain ⟨rfl, rfl⟩ := hK; exact ⟨vk, vv, vc, hN, h1, rfl⟩
  | succ h => exact ⟨vk, vv, vc, bs, S', hN, h1, h2, h3, hK⟩

theorem Kids.chg {X : Nat → Prop} {w w' : World} (hc : Chg X w w') {h : Nat} {bs : List Nat} {cs : List BT} {S : Nat → Prop} (ha : Apart S X) (hk : Kids w h bs cs S) : Kids w' h bs cs S := by
  cases h with
  | zero => exact hk
  | succ h => exact Forest.chg hc h bs cs S ha hk
theorem Kids.length {w : World} {h : Nat} {bs : List Nat} {cs : List BT} {S : Nat → Prop} (hk : Kids w h bs cs S) : bs.length = cs.length := by
  cases h with
  | zero => rw [hk.1, hk.2]; rfl
  | succ h => exact Forest.length _ _ _ hk
theorem Kids.mono {w : World} {h : Nat} {bs : List Nat} {cs : List BT} {S T : Nat → Prop} (hs : Sub S T) (hk : Kids w h bs cs S) : Kids w h bs cs T := by
  cases h with
  | zero => exact hk
  | succ h => exact Forest.mono _ _ _ _ hs hk
theorem Forest.there' {w : World} (h : Nat) (bs : List Nat) (ts : List BT) (S : Nat → Prop) (hf : Forest (Tree w h) bs ts S) : Forest (Tree w h) bs ts fun k => S k ∧ k < w.heap.size := Forest.there (Tree.there h) bs ts S hf
theorem Kids.there {w : World} {h : Nat} {bs : List Nat} {cs : List BT} {S : Nat → Prop} (hk : Kids w h bs cs S) : Kids w h bs cs fun k => S k ∧ k < w.heap.size := by
  cases h with
  | zero => exact hk
  | succ h => exact Forest.there' h _ _ _ hk
theorem Kids.append {w : World} {h : Nat} {bs bs' : List Nat} {cs cs' : List BT} {S1 S2 : Nat → Prop} (h1 : Kids w h bs cs S1) (h2 : Kids w h bs' cs' S2) (ha : Apart S1 S2) : Kids w h (bs ++ bs') (cs ++ cs') fun k => S1 k ∨ S2 k := by
  cases h with
  | zero => obtain ⟨rfl, rfl⟩ := h1; exact h2
  | succ h => exact Forest.append _ _ _ _ S1 S2 _ h1 h2 ha (fun _ h => .inl h) (fun _ h => .inr h)
theorem Forest.parts {R : Nat → BT → (Nat → Prop) → Prop} {bs : List Nat} {cs cs' : List BT} {S : Nat → Prop} (hf : Forest R bs (cs ++ cs') S) :
    ∃ b1 b2 S1 S2, bs = b1 ++ b2 ∧ b1.length = cs.length ∧ Sub S1 S ∧ Sub S2 S ∧ Apart S1 S2 ∧ Forest R b1 cs S1 ∧ Forest R b2 cs' S2 := by
  have hl := Forest.length _ _ _ hf
  obtain ⟨S1, S2, h1, h2, h3, h4, h5⟩ := Forest.split cs.length bs _ S hf
  rw [List.take_left] at h4
  rw [List.drop_left] at h5
  exact ⟨_, _, S1, S2, (List.take_append_drop cs.length bs).symm, by rw [List.length_take]; simp at hl; omega, h1, h2, h3, h4, h5⟩
theorem Kids.parts {w : World} {h : Nat} {bs : List Nat} {cs cs' : List BT} {S : Nat → Prop} (hk : Kids w h bs (cs ++ cs') S) :
    ∃ b1 b2 S1 S2, bs = b1 ++ b2 ∧ b1.length = cs.length ∧ Sub S1 S ∧ Sub S2 S ∧ Apart S1 S2 ∧ Kids w h b1 cs S1 ∧ Kids w h b2 cs' S2 := by
  cases h with
  | zero =>
    obtain ⟨rfl, h2⟩ := hk
    obtain ⟨rfl, rfl⟩ := List.append_eq_nil_iff.1 h2
    exact ⟨[], [], S, fun _ => False, rfl, rfl, Sub.refl _, fun _ h => h.elim, fun _ _ h => h, ⟨rfl, rfl⟩, ⟨rfl, rfl⟩⟩
  | succ h => exact Forest.parts hk

/-- The children beside some. -/
def Gap (w : World) (h : Nat) (B1 : List Nat) (C1 : List BT) (B2 : List Nat) (C2 : List BT) (S : Nat → Prop) : Prop :=
  ∃ S1 S2, Sub S1 S ∧ Sub S2 S ∧ Apart S1 S2 ∧ Forest (Tree w h) B1 C1 S1 ∧ Forest (Tree w h) B2 C2 S2
theorem Gap.chg {X : Nat → Prop} {w w' : World} (hc : Chg X w w') {h : Nat} {B1 B2 : List Nat} {C1 C2 : List BT} {S : Nat → Prop} (ha : Apart S X) (hg : Gap w h B1 C1 B2 C2 S) : Gap w' h B1 C1 B2 C2 S := by
  obtain ⟨S1, S2, h1, h2, h3, h4, h5⟩ := hg
  exact ⟨S1, S2, h1, h2, h3, Forest.chg hc h _ _ _ (ha.mono h1 (Sub.refl _)) h4, Forest.chg hc h _ _ _ (ha.mono h2 (Sub.refl _)) h5⟩
theorem Gap.length {w : World} {h : Nat} {B1 B2 : List Nat} {C1 C2 : List BT} {S : Nat → Prop} (hg : Gap w h B1 C1 B2 C2 S) : B1.length = C1.length ∧ B2.length = C2.length := by
  obtain ⟨S1, S2, h1, h2, h3, h4, h5⟩ := hg
  exact ⟨Forest.length _ _ _ h4, Forest.length _ _ _ h5⟩
theorem Gap.fill {w : World} {h : Nat} {B1 B2 M : List Nat} {C1 C2 N : List BT} {SR SM S : Nat → Prop} (hg : Gap w h B1 C1 B2 C2 SR) (hf : Forest (Tree w h) M N SM) (ha : Apart SR SM) (h1 : Sub SR S) (h2 : Sub SM S) :
    Forest (Tree w h) (B1 ++ (M ++ B2)) (C1 ++ (N ++ C2)) S := by
  obtain ⟨S1, S2, g1, g2, g3, g4, g5⟩ := hg
  exact Forest.append _ _ _ _ S1 (fun k => SM k ∨ S2 k) S g4 (Forest.append _ _ _ _ SM S2 _ hf g5 (ha.symm.mono (Sub.refl _) g2) (fun _ h => .inl h) (fun _ h => .inr h)) (fun k a b => b.elim (ha k (g1 k a)) (g3 k a)) (g1.trans h1) (fun k h => h.elim (h2 k) fun h => h1 k (g2 k h))

/-- A tree taken apart: its root, some children, the others. -/
theorem Tree.take {w : World} {h b : Nat} {ks : List ByteArray} {vs : List Int} {C1 N C2 : List BT} {S : Nat → Prop} (ht : Tree w (h + 1) b (.node ks vs (C1 ++ (N ++ C2))) S) :
    ∃ vk vv vc B1 M B2 SR SM, Nd w b vk vv vc ks vs (B1 ++ (M ++ B2)) ∧ B1.length = C1.length ∧ M.length = N.length ∧ B2.length = C2.length ∧ Gap w h B1 C1 B2 C2 SR ∧ Forest (Tree w h) M N SM ∧ Apart (nset b vk vv vc) SR ∧ Apart (nset b vk vv vc) SM ∧ Apart SR SM ∧
      Sub (nset b vk vv vc) S ∧ Sub SR S ∧ Sub SM S ∧ (∀ k, SR k → k < w.heap.size) ∧ ∀ k, SM k → k < w.heap.size := by
  obtain ⟨vk, vv, vc, bs, S', hN, h1, h2, h3, hF⟩ := ht
  have hF := Forest.there' h _ _ _ hF
  obtain ⟨B1, B', S1, S', rfl, hB1, s1, s2, a1, f1, f2⟩ := Forest.parts hF
  obtain ⟨M, B2, S2, S3, rfl, hM, s3, s4, a2, f3, f4⟩ := Forest.parts f2
  refine ⟨vk, vv, vc, B1, M, B2, fun k => S1 k ∨ S3 k, S2, hN, hB1, hM, Forest.length _ _ _ f4, ⟨S1, S3, fun _ h => .inl h, fun _ h => .inr h, a1.mono (Sub.refl _) s4, f1, f4⟩, f3, ?_, ?_, ?_, h1, ?_, ?_, ?_, ?_⟩
  · exact fun k a h => h.elim (fun h => h3 k a (s1 k h).1) fun h => h3 k a (s2 k (s4 k h)).1
  · exact fun k a h => h3 k a (s2 k (s3 k h)).1
  · exact fun k h m => h.elim (fun h => a1 k h (s3 k m)) fun h => a2 k m h
  · exact fun k h => h2 k (h.elim (fun h => (s1 k h).1) fun h => (s2 k (s4 k h)).1)
  · exact fun k h => h2 k (s2 k (s3 k h)).1
  · exact fun k h => h.elim (fun h => (s1 k h).2) fun h => (s2 k (s4 k h)).2
  · exact fun k h => (s2 k (s3 k h)).2

/-- A tree put together. -/
theorem Tree.join {w : World} {h b : Nat} {vk vv vc : Value} {ks : List ByteArray} {vs : List Int} {B1 M B2 : List Nat} {C1 N C2 : List BT} {SR SM S : Nat → Prop} (hN : Nd w b vk vv vc ks vs (B1 ++ (M ++ B2))) (hg : Gap w h B1 C1 B2 C2 SR) (hf : Forest (Tree w h) M N SM)
    (a1 : Apart (nset b vk vv vc) SR) (a2 : Apart (nset b vk vv vc) SM) (a3 : Apart SR SM) (h1 : Sub (nset b vk vv vc) S) (h2 : Sub SR S) (h3 : Sub SM S) : Tree w (h + 1) b (.node ks vs (C1 ++ (N ++ C2))) S :=
  ⟨vk, vv, vc, _, fun k => SR k ∨ SM k, hN, h1, fun k h => h.elim (h2 k) (h3 k), fun k a h => h.elim (a1 k a) (a2 k a), hg.fill hf a3 (fun _ h => .inl h) (fun _ h => .inr h)⟩

theorem Forest.one {R : Nat → BT → (Nat → Prop) → Prop} {M : List Nat} {c : BT} {S : Nat → Prop} (h : Forest R M [c] S) : ∃ q S1, M = [q] ∧ Sub S1 S ∧ R q c S1 := by
  match M, h with
  | [q], ⟨S1, S2, h1, _, _, h4, _⟩ => exact ⟨q, S1, rfl, h1, h4⟩
  | _ :: _ :: _, ⟨_, _, _, _, _, _, h⟩ => exact h.elim
theorem Forest.two {R : Nat → BT → (Nat → Prop) → Prop} {M : List Nat} {c c' : BT} {S : Nat → Prop} (h : Forest R M [c, c'] S) : ∃ q q' S1 S2, M = [q, q'] ∧ Sub S1 S ∧ Sub S2 S ∧ Apart S1 S2 ∧ R q c S1 ∧ R q' c' S2 := by
  match M, h with
  | [_], ⟨_, _, _, _, _, _, h⟩ => exact h.elim
  | [q, q'], ⟨S1, S2, h1, h2, h3, h4, S3, S4, g1, _, _, g4, _⟩ => exact ⟨q, q', S1, S3, rfl, h1, g1.trans h2, h3.mono (Sub.refl _) g1, h4, g4⟩
  | _ :: _ :: _ :: _, ⟨_, _, _, _, _, _, _, _, _, _, _, _, h⟩ => exact h.elim

/-- A child has been changed. -/
theorem Tree.swap {w : World} {h b : Nat} {ks : List ByteArray} {vs : List Int} {C1 C2 : List BT} {c : BT} {S : Nat → Prop} (ht : Tree w (h + 1) b (.node ks vs (C1 ++ c :: C2)) S) :
    ∃ vk vv vc B1 q B2 SM, Nd w b vk vv vc ks vs (B1 ++ q :: B2) ∧ B1.length = C1.length ∧ B2.length = C2.length ∧ Tree w h q c SM ∧ Sub SM S ∧ Apart (nset b vk vv vc) SM ∧ Sub (nset b vk vv vc) S ∧
      ∀ w1 w' c' ks' vs', Nd w1 b vk vv vc ks' vs' (B1 ++ q :: B2) → Chg (nset b vk vv vc) w w1 → Chg SM w1 w' → Tree w' h q c' (fun k => SM k ∨ w1.heap.size ≤ k) → Tree w' (h + 1) b (.node ks' vs' (C1 ++ c' :: C2)) (fun k => S k ∨ w.heap.size ≤ k) ∧ Chg S w w' := by
  obtain ⟨vk, vv, vc, B1, M, B2, SR, SM, hN, l1, -, l2, hg, hf, a1, a2, a3, s1, s2, s3, b1, b2⟩ := Tree.take (N := [c]) ht
  obtain ⟨q, S1, rfl, hs, hT⟩ := hf.one
  refine ⟨vk, vv, vc, B1, q, B2, S1, hN, l1, l2, hT, hs.trans s3, a2.mono (Sub.refl _) hs, s1, fun w1 w' c' ks' vs' hN1 k1 k2 hT' => ⟨?_, ?_⟩⟩
  · have hT2 := hT'.mono (T := fun k => S1 k ∨ w1.heap.size ≤ k) (Sub.refl _)
    refine Tree.join (N := [c']) (M := [q]) (SR := SR) (SM := fun k => S1 k ∨ w1.heap.size ≤ k) (hN1.chg k2 (a2.mono (Sub.refl _) hs)) ((hg.chg k1 a1.symm).chg k2 (a3.mono (Sub.refl _) hs)) (Forest.single hT2) a1 ?_ ?_ (fun k h => .inl (s1 k h)) (fun k h => .inl (s2 k h)) ?_
    · exact fun k a h => h.elim (fun h => a2 k a (hs k h)) fun h => by have := hN1.lt k a; omega
    · exact fun k a h => h.elim (fun h => a3 k a (hs k h)) fun h => by have := b1 k a; have := k1.size; omega
    · exact fun k h => h.imp (fun h => s3 k (hs k h)) fun h => Nat.le_trans k1.size h
  · exact (k1.mono s1).trans (k2.mono (hs.trans s3))

/-- Two children beside each other, both written out, and what stands beside them. -/
theorem Tree.pair {w : World} {h b : Nat} {ks A1 A2 : List ByteArray} {vs E1 E2 : List Int} {C1 C2 D1 D2 : List BT} {S : Nat → Prop} (ht : Tree w (h + 1) b (.node ks vs (C1 ++ .node A1 E1 D1 :: .node A2 E2 D2 :: C2)) S) :
    ∃ vk vv vc B1 q q' B2 SR uk uv uc kb S1 tk tv tc kb' S2, Nd w b vk vv vc ks vs (B1 ++ q :: q' :: B2) ∧ B1.length = C1.length ∧ B2.length = C2.length ∧ Gap w h B1 C1 B2 C2 SR ∧ Nd w q uk uv uc A1 E1 kb ∧ Kids w h kb D1 S1 ∧ Nd w q' tk tv tc A2 E2 kb' ∧ Kids w h kb' D2 S2 ∧
      Apart (nset b vk vv vc) (nset q uk uv uc) ∧ Apart (nset b vk vv vc) (nset q' tk tv tc) ∧ Apart (nset q uk uv uc) (nset q' tk tv tc) ∧
      Apart (fun k => SR k ∨ S1 k ∨ S2 k) (fun k => nset b vk vv vc k ∨ nset q uk uv uc k ∨ nset q' tk tv tc k) ∧ Apart SR (fun k => S1 k ∨ S2 k) ∧ Apart S1 S2 ∧
      (∀ k, SR k ∨ S1 k ∨ S2 k → k < w.heap.size) ∧ Sub (fun k => nset b vk vv vc k ∨ nset q uk uv uc k ∨ nset q' tk tv tc k ∨ SR k ∨ S1 k ∨ S2 k) S := by
  obtain ⟨vk, vv, vc, B1, M, B2, SR, SM, hN, l1, -, l2, hg, hf, a1, a2, a3, s1, s2, s3, b1, b2⟩ := Tree.take (N := [.node A1 E1 D1, .node A2 E2 D2]) ht
  obtain ⟨q, q', T1, T2, rfl, t1, t2, t3, hT1, hT2⟩ := hf.two
  obtain ⟨uk, uv, uc, kb, S1, n1, u1, u2, u3, k1⟩ := hT1.open
  obtain ⟨tk, tv, tc, kb', S2, n2, v1, v2, v3, k2⟩ := hT2.open
  have p1 := u1.trans t1
  have p2 := u2.trans t1
  have p3 := v1.trans t2
  have p4 := v2.trans t2
  refine ⟨vk, vv, vc, B1, q, q', B2, SR, uk, uv, uc, kb, S1, tk, tv, tc, kb', S2, hN, l1, l2, hg, n1, k1, n2, k2, a2.mono (Sub.refl _) p1, a2.mono (Sub.refl _) p3, t3.mono u1 v1, ?_, ?_, t3.mono u2 v2, ?_, ?_⟩
  · rintro k (h | h | h) (g | g | g)
    · exact a1 k g h
    · exact a3 k h (p1 k g)
    · exact a3 k h (p3 k g)
    · exact a2 k g (p2 k h)
    · exact u3 k g h
    · exact t3 k (u2 k h) (v1 k g)
    · exact a2 k g (p4 k h)
    · exact t3 k (u1 k g) (v2 k h)
    · exact v3 k g h
  · rintro k h (g | g)
    · exact a3 k h (p2 k g)
    · exact a3 k h (p4 k g)
  · rintro k (h | h | h)
    · exact b1 k h
    · exact b2 k (p2 k h)
    · exact b2 k (p4 k h)
  · rintro k (h | h | h | h | h | h)
    · exact s1 k h
    · exact s3 k (p1 k h)
    · exact s3 k (p3 k h)
    · exact s2 k h
    · exact s3 k (p2 k h)
    · exact s3 k (p4 k h)
end Go.Proofs.Ytamnmoejjjaegaa
