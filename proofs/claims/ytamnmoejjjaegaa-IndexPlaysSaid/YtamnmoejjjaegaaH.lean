/- A B-tree in memory: its nodes' blocks (Nd, Tree, Forest), kept apart by sets of blocks. No program, no conditions. -/
import Derived.Test.YtamnmoejjjaegaaA1
set_option linter.unusedVariables false
namespace Go.Proofs.Ytamnmoejjjaegaa
open Go Go.RowKit

/-- A node: its keys, their values, its children. -/
inductive BT where
  | node (ks : List ByteArray) (vs : List Int) (cs : List BT)
def BT.ks : BT → List ByteArray | .node k _ _ => k
def BT.vs : BT → List Int | .node _ v _ => v
def BT.cs : BT → List BT | .node _ _ c => c
@[simp] theorem BT.ks_node (k v c) : (BT.node k v c).ks = k := rfl
@[simp] theorem BT.vs_node (k v c) : (BT.node k v c).vs = v := rfl
@[simp] theorem BT.cs_node (k v c) : (BT.node k v c).cs = c := rfl
theorem BT.eta (t : BT) : BT.node t.ks t.vs t.cs = t := by cases t; rfl

def Sub (S T : Nat → Prop) : Prop := ∀ k, S k → T k
def Apart (S T : Nat → Prop) : Prop := ∀ k, S k → T k → False
theorem Sub.refl (S : Nat → Prop) : Sub S S := fun _ h => h
theorem Sub.trans {A B C : Nat → Prop} (h : Sub A B) (k : Sub B C) : Sub A C := fun _ x => k _ (h _ x)
theorem Apart.symm {A B : Nat → Prop} (h : Apart A B) : Apart B A := fun k a b => h k b a
theorem Apart.mono {A B A' B' : Nat → Prop} (h : Apart A B) (ha : Sub A' A) (hb : Sub B' B) : Apart A' B' := fun k a b => h k (ha k a) (hb k b)

def sv (s : ByteArray) : Value := .string s
def iv (n : Int) : Value := .int .i64 n
def pv (b : Nat) : Value := .pointer (some ⟨b, 0, none⟩)

/-- The blocks of one node. -/
def nset (b : Nat) (vk vv vc : Value) : Nat → Prop := fun k => k = b ∨ own vk k ∨ own vv k ∨ own vc k

/-- A node's own blocks. -/
structure Nd (w : World) (b : Nat) (vk vv vc : Value) (ks : List ByteArray) (vs : List Int) (bs : List Nat) : Prop where
  blk : w.heap[b]? = some (.cells #[vk, vv, vc] 54 (0, 0))
  rk : Row w 9 vk (ks.map sv)
  rv : Row w 3 vv (vs.map iv)
  rc : Row w 48 vc (bs.map pv)

/-- Trees over some blocks, each with blocks of its own. -/
def Forest (R : Nat → BT → (Nat → Prop) → Prop) : List Nat → List BT → (Nat → Prop) → Prop
  | [], [], _ => True
  | b :: bs, t :: ts, S => ∃ S1 S2, Sub S1 S ∧ Sub S2 S ∧ Apart S1 S2 ∧ R b t S1 ∧ Forest R bs ts S2
  | _, _, _ => False

/-- The tree t of height h lies in w from block b on, in blocks of S. -/
def Tree (w : World) : Nat → Nat → BT → (Nat → Prop) → Prop
  | 0, b, t, S => ∃ vk vv vc, Nd w b vk vv vc t.ks t.vs [] ∧ Sub (nset b vk vv vc) S ∧ t.cs = []
  | h + 1, b, t, S => ∃ vk vv vc bs S', Nd w b vk vv vc t.ks t.vs bs ∧ Sub (nset b vk vv vc) S ∧ Sub S' S ∧ Apart (nset b vk vv vc) S' ∧ Forest (Tree w h) bs t.cs S'

section
variable {R R' : Nat → BT → (Nat → Prop) → Prop}

theorem Forest.imp {P : (Nat → Prop) → Prop} (hP : ∀ A B, Sub A B → P B → P A) (hR : ∀ b t S, P S → R b t S → R' b t S) : ∀ (bs : List Nat) (ts : List BT) (S : Nat → Prop), P S → Forest R bs ts S → Forest R' bs ts S
  | [], [], _, _, _ => trivial
  | [], _ :: _, _, _, h => h.elim
  | _ :: _, [], _, _, h => h.elim
  | _ :: bs, _ :: ts, _, hs, ⟨S1, S2, h1, h2, h3, h4, h5⟩ => ⟨S1, S2, h1, h2, h3, hR _ _ _ (hP _ _ h1 hs) h4, Forest.imp hP hR bs ts S2 (hP _ _ h2 hs) h5⟩

theorem Forest.mono : ∀ (bs : List Nat) (ts : List BT) (S T : Nat → Prop), Sub S T → Forest R bs ts S → Forest R bs ts T
  | [], [], _, _, _, _ => trivial
  | [], _ :: _, _, _, _, h => h.elim
  | _ :: _, [], _, _, _, h => h.elim
  | _ :: _, _ :: _, _, _, hs, ⟨S1, S2, h1, h2, h3, h4, h5⟩ => ⟨S1, S2, h1.trans hs, h2.trans hs, h3, h4, h5⟩

theorem Forest.length : ∀ (bs : List Nat) (ts : List BT) (S : Nat → Prop), Forest R bs ts S → bs.length = ts.length
  | [], [], _, _ => rfl
  | [], _ :: _, _, h => h.elim
  | _ :: _, [], _, h => h.elim
  | _ :: bs, _ :: ts, _, ⟨_, S2, _, _, _, _, h5⟩ => by simp [Forest.length bs ts S2 h5]

/-- Parted at a place. -/
theorem Forest.split : ∀ (i : Nat) (bs : List Nat) (ts : List BT) (S : Nat → Prop), Forest R bs ts S →
    ∃ S1 S2, Sub S1 S ∧ Sub S2 S ∧ Apart S1 S2 ∧ Forest R (bs.take i) (ts.take i) S1 ∧ Forest R (bs.drop i) (ts.drop i) S2
  | 0, _, _, S, h => ⟨fun _ => False, S, fun _ h => h.elim, Sub.refl S, fun _ h => h.elim, trivial, h⟩
  | _ + 1, [], [], S, _ => ⟨S, fun _ => False, Sub.refl S, fun _ h => h.elim, fun _ _ h => h, trivial, trivial⟩
  | _ + 1, [], _ :: _, _, h => h.elim
  | _ + 1, _ :: _, [], _, h => h.elim
  | i + 1, b :: bs, t :: ts, S, ⟨A, B, hA, hB, hAB, hR, hF⟩ => by
    obtain ⟨S1, S2, h1, h2, h3, h4, h5⟩ := Forest.split i bs ts B hF
    refine ⟨fun k => A k ∨ S1 k, S2, fun k hk => hk.elim (hA k) fun h => hB k (h1 k h), h2.trans hB, fun k hk h => hk.elim (fun a => hAB k a (h2 k h)) fun a => h3 k a h, ?_, h5⟩
    exact ⟨A, S1, fun _ h => .inl h, fun _ h => .inr h, hAB.mono (Sub.refl A) h1, hR, h4⟩

theorem Forest.append : ∀ (bs : List Nat) (ts : List BT) (bs' : List Nat) (ts' : List BT) (S1 S2 S : Nat → Prop), Forest R bs ts S1 → Forest R bs' ts' S2 → Apart S1 S2 → Sub S1 S → Sub S2 S → Forest R (bs ++ bs') (ts ++ ts') S
  | [], [], bs', ts', _, S2, S, _, h2, _, _, hs => Forest.mono bs' ts' S2 S hs h2
  | [], _ :: _, _, _, _, _, _, h, _, _, _, _ => h.elim
  | _ :: _, [], _, _, _, _, _, h, _, _, _, _ => h.elim
  | b :: bs, t :: ts, bs', ts', S1, S2, S, ⟨A, B, hA, hB, hAB, hR, hF⟩, h2, h3, h4, h5 =>
    ⟨A, fun k => B k ∨ S2 k, hA.trans h4, fun k hk => hk.elim (fun h => h4 k (hB k h)) (h5 k), fun k a hk => hk.elim (hAB k a) (h3 k (hA k a)), hR,
      Forest.append bs ts bs' ts' B S2 _ hF h2 (h3.mono hB (Sub.refl S2)) (fun _ h => .inl h) (fun _ h => .inr h)⟩

theorem Forest.single {b : Nat} {t : BT} {S : Nat → Prop} (h : R b t S) : Forest R [b] [t] S := ⟨S, fun _ => False, Sub.refl S, fun _ h => h.elim, fun _ _ h => h, h, trivial⟩
theorem Forest.cons {b : Nat} {t : BT} {bs : List Nat} {ts : List BT} {S1 S2 S : Nat → Prop} (h : R b t S1) (hf : Forest R bs ts S2) (h3 : Apart S1 S2) (h1 : Sub S1 S) (h2 : Sub S2 S) : Forest R (b :: bs) (t :: ts) S := ⟨S1, S2, h1, h2, h3, h, hf⟩

/-- One tree and the ones beside it. -/
theorem Forest.pick (i : Nat) (bs : List Nat) (ts : List BT) (S : Nat → Prop) (h : Forest R bs ts S) (hi : i < bs.length) :
    ∃ (hj : i < ts.length) (S1 S2 S3 : Nat → Prop), Sub S1 S ∧ Sub S2 S ∧ Sub S3 S ∧ Apart S1 S2 ∧ Apart S1 S3 ∧ Apart S2 S3 ∧ Forest R (bs.take i) (ts.take i) S1 ∧ R bs[i] ts[i] S2 ∧ Forest R (bs.drop (i + 1)) (ts.drop (i + 1)) S3 := by
  have hl := Forest.length bs ts S h
  obtain ⟨A, B, h1, h2, h3, h4, h5⟩ := Forest.split i bs ts S h
  rw [List.drop_eq_getElem_cons hi, List.drop_eq_getElem_cons (show i < ts.length by omega)] at h5
  obtain ⟨C, D, g1, g2, g3, g4, g5⟩ := h5
  exact ⟨by omega, A, C, D, h1, g1.trans h2, g2.trans h2, h3.mono (Sub.refl A) g1, h3.mono (Sub.refl A) g2, g3, h4, g4, g5⟩

/-- The tree at a place, another one instead. -/
theorem Forest.put (i : Nat) (bs : List Nat) (ts : List BT) (S1 S2 S3 S : Nat → Prop) (b : Nat) (t : BT) (hi : i < bs.length) (hl : bs.length = ts.length) (h1 : Forest R (bs.take i) (ts.take i) S1) (h2 : R b t S2) (h3 : Forest R (bs.drop (i + 1)) (ts.drop (i + 1)) S3)
    (s1 : Sub S1 S) (s2 : Sub S2 S) (s3 : Sub S3 S) (a12 : Apart S1 S2) (a13 : Apart S1 S3) (a23 : Apart S2 S3) : Forest R (bs.set i b) (ts.set i t) S := by
  rw [List.set_eq_take_append_cons_drop, if_pos hi, List.set_eq_take_append_cons_drop, if_pos (by omega)]
  exact Forest.append _ _ _ _ S1 (fun k => S2 k ∨ S3 k) S h1 (Forest.cons h2 h3 a23 (fun _ h => .inl h) (fun _ h => .inr h)) (fun k a h => h.elim (a12 k a) (a13 k a)) s1 (fun k h => h.elim (s2 k) (s3 k))
end

theorem Nd.chg {X : Nat → Prop} {w w' : World} {b : Nat} {vk vv vc : Value} {ks : List ByteArray} {vs : List Int} {bs : List Nat} (h : Nd w b vk vv vc ks vs bs) (hc : Chg X w w') (ha : Apart (nset b vk vv vc) X) : Nd w' b vk vv vc ks vs bs :=
  ⟨hc.heap (fun x => ha b (.inl rfl) x) h.blk, h.rk.chg hc fun k hk x => ha k (.inr (.inl hk)) x, h.rv.chg hc fun k hk x => ha k (.inr (.inr (.inl hk))) x, h.rc.chg hc fun k hk x => ha k (.inr (.inr (.inr hk))) x⟩

theorem Nd.lt {w : World} {b : Nat} {vk vv vc : Value} {ks : List ByteArray} {vs : List Int} {bs : List Nat} (h : Nd w b vk vv vc ks vs bs) : ∀ k, nset b vk vv vc k → k < w.heap.size := by
  rintro k (rfl | hk | hk | hk)
  · exact (Array.getElem?_eq_some_iff.1 h.blk).1
  · exact h.rk.lt hk
  · exact h.rv.lt hk
  · exact h.rc.lt hk

theorem Tree.mono {w : World} {h : Nat} {b : Nat} {t : BT} {S T : Nat → Prop} (ht : Tree w h b t S) (hs : Sub S T) : Tree w h b t T := by
  cases h with
  | zero => obtain ⟨vk, vv, vc, h1, h2, h3⟩ := ht; exact ⟨vk, vv, vc, h1, h2.trans hs, h3⟩
  | succ h => obtain ⟨vk, vv, vc, bs, S', h1, h2, h3, h4, h5⟩ := ht; exact ⟨vk, vv, vc, bs, S', h1, h2.trans hs, h3.trans hs, h4, h5⟩

theorem Tree.chg {X : Nat → Prop} {w w' : World} (hc : Chg X w w') : ∀ (h : Nat) (b : Nat) (t : BT) (S : Nat → Prop), Apart S X → Tree w h b t S → Tree w' h b t S
  | 0, _, _, _, ha, ⟨vk, vv, vc, h1, h2, h3⟩ => ⟨vk, vv, vc, h1.chg hc (ha.mono h2 (Sub.refl X)), h2, h3⟩
  | h + 1, _, _, _, ha, ⟨vk, vv, vc, bs, S', h1, h2, h3, h4, h5⟩ =>
    ⟨vk, vv, vc, bs, S', h1.chg hc (ha.mono h2 (Sub.refl X)), h2, h3, h4, Forest.imp (P := fun S => Apart S X) (fun _ _ hs hp => hp.mono hs (Sub.refl X)) (fun b t S hp ht => Tree.chg hc h b t S hp ht) _ _ _ (ha.mono h3 (Sub.refl X)) h5⟩

theorem Forest.chg {X : Nat → Prop} {w w' : World} (hc : Chg X w w') (h : Nat) (bs : List Nat) (ts : List BT) (S : Nat → Prop) (ha : Apart S X) (hf : Forest (Tree w h) bs ts S) : Forest (Tree w' h) bs ts S :=
  Forest.imp (P := fun S => Apart S X) (fun _ _ hs hp => hp.mono hs (Sub.refl X)) (fun b t S hp ht => Tree.chg hc h b t S hp ht) bs ts S ha hf

/-- Only blocks that are there. -/
theorem Forest.there {w : World} {h : Nat} (hR : ∀ b t S, Tree w h b t S → Tree w h b t fun k => S k ∧ k < w.heap.size) : ∀ (bs : List Nat) (ts : List BT) (S : Nat → Prop), Forest (Tree w h) bs ts S → Forest (Tree w h) bs ts fun k => S k ∧ k < w.heap.size
  | [], [], _, _ => trivial
  | [], _ :: _, _, h => h.elim
  | _ :: _, [], _, h => h.elim
  | _ :: bs, _ :: ts, _, ⟨S1, S2, h1, h2, h3, h4, h5⟩ => ⟨fun k => S1 k ∧ k < w.heap.size, fun k => S2 k ∧ k < w.heap.size, fun k hk => ⟨h1 k hk.1, hk.2⟩, fun k hk => ⟨h2 k hk.1, hk.2⟩, fun k a b => h3 k a.1 b.1, hR _ _ _ h4, Forest.there hR bs ts S2 h5⟩

theorem Tree.there {w : World} : ∀ (h : Nat) (b : Nat) (t : BT) (S : Nat → Prop), Tree w h b t S → Tree w h b t fun k => S k ∧ k < w.heap.size
  | 0, _, _, _, ⟨vk, vv, vc, h1, h2, h3⟩ => ⟨vk, vv, vc, h1, fun k hk => ⟨h2 k hk, h1.lt k hk⟩, h3⟩
  | h + 1, _, _, _, ⟨vk, vv, vc, bs, S', h1, h2, h3, h4, h5⟩ =>
    ⟨vk, vv, vc, bs, fun k => S' k ∧ k < w.heap.size, h1, fun k hk => ⟨h2 k hk, h1.lt k hk⟩, fun k hk => ⟨h3 k hk.1, hk.2⟩, fun k a b => h4 k a b.1, Forest.there (Tree.there h) bs _ S' h5⟩

/-- The root's own blocks. -/
theorem Tree.root {w : World} {h : Nat} {b : Nat} {t : BT} {S : Nat → Prop} (ht : Tree w h b t S) : ∃ vk vv vc bs S', Nd w b vk vv vc t.ks t.vs bs ∧ Sub (nset b vk vv vc) S ∧ Sub S' S ∧ Apart (nset b vk vv vc) S' ∧ bs.length = t.cs.length ∧
    (h = 0 → bs = [] ∧ t.cs = []) ∧ ∀ h', h = h' + 1 → Forest (Tree w h') bs t.cs S' := by
  cases h with
  | zero =>
    obtain ⟨vk, vv, vc, h1, h2, h3⟩ := ht
    exact ⟨vk, vv, vc, [], fun _ => False, h1, h2, fun _ h => h.elim, fun _ _ h => h, by rw [h3]; rfl, fun _ => ⟨rfl, h3⟩, fun _ h => by cases h⟩
  | succ h =>
    obtain ⟨vk, vv, vc, bs, S', h1, h2, h3, h4, h5⟩ := ht
    exact ⟨vk, vv, vc, bs, S', h1, h2, h3, h4, Forest.length _ _ _ h5, fun h => (Nat.succ_ne_zero _ h).elim, fun h' e => by cases e; exact h5⟩

/-- What the walk reads of a node. -/
theorem Nd.c0 {w : World} {b : Nat} {vk vv vc : Value} {ks : List ByteArray} {vs : List Int} {bs : List Nat} (h : Nd w b vk vv vc ks vs bs) : w.cell? ⟨b, 0, none⟩ = some vk := by rw [cell_of_row w b 0 _ _ _ h.blk]; rfl
theorem Nd.c1 {w : World} {b : Nat} {vk vv vc : Value} {ks : List ByteArray} {vs : List Int} {bs : List Nat} (h : Nd w b vk vv vc ks vs bs) : w.cell? ⟨b, 1, none⟩ = some vv := by rw [cell_of_row w b 1 _ _ _ h.blk]; rfl
theorem Nd.c2 {w : World} {b : Nat} {vk vv vc : Value} {ks : List ByteArray} {vs : List Int} {bs : List Nat} (h : Nd w b vk vv vc ks vs bs) : w.cell? ⟨b, 2, none⟩ = some vc := by rw [cell_of_row w b 2 _ _ _ h.blk]; rfl
theorem Nd.fz {w : World} {b : Nat} {vk vv vc : Value} {ks : List ByteArray} {vs : List Int} {bs : List Nat} (h : Nd w b vk vv vc ks vs bs) (i : Nat) : w.frozen? ⟨b, i, none⟩ = false := frozen_of_row w b i _ _ h.blk

theorem Nd.form {w : World} {b : Nat} {vk vv vc : Value} {ks : List ByteArray} {vs : List Int} {bs : List Nat} (h : Nd w b vk vv vc ks vs bs) :
    ∃ ak ck av cv ac cc, vk = .slice ak ks.length ck ∧ vv = .slice av vs.length cv ∧ vc = .slice ac bs.length cc := by
  obtain ⟨ak, ck, hk⟩ := h.rk.form
  obtain ⟨av, cv, hv⟩ := h.rv.form
  obtain ⟨ac, cc, hc⟩ := h.rc.form
  rw [List.length_map] at hk hv hc
  exact ⟨ak, ck, av, cv, ac, cc, hk, hv, hc⟩

theorem Nd.form' {w : World} {b : Nat} {vk vv vc : Value} {ks : List ByteArray} {vs : List Int} {bs : List Nat} (h : Nd w b vk vv vc ks vs bs) :
    ∃ ak nk ck av nv cv ac nc cc, vk = .slice ak nk ck ∧ vv = .slice av nv cv ∧ vc = .slice ac nc cc ∧ Hid (nk = ks.length) ∧ Hid (nv = vs.length) ∧ Hid (nc = bs.length) := by
  obtain ⟨ak, ck, av, cv, ac, cc, hk, hv, hc⟩ := h.form
  exact ⟨ak, _, ck, av, _, cv, ac, _, cc, hk, hv, hc, rfl, rfl, rfl⟩

/-- A row of another element type lies elsewhere. -/
theorem Row.ne {w : World} {E b : Nat} {v : Value} {xs : List Value} {cs : Array Value} {e : TypeId} {fz : Nat × Nat} (h : Row w E v xs) (hb : w.heap[b]? = some (.cells cs e fz)) (hne : e ≠ E) : ¬ own v b := by
  rcases h with ⟨rfl, _⟩ | ⟨g, cap, cur, rfl, h1, _⟩
  · exact own_none 0 0 b
  · intro hk
    rw [own_slice] at hk
    subst hk
    rw [hb] at h1
    simp only [Option.some.injEq, Obj.cells.injEq] at h1
    exact hne h1.2.1
theorem Row.own_at {w : World} {E k : Nat} {v : Value} {xs : List Value} (h : Row w E v xs) (hk : own v k) : ∃ cs, w.heap[k]? = some (.cells cs E (0, 0)) := by
  rcases h with ⟨rfl, _⟩ | ⟨g, cap, cur, rfl, h1, _⟩
  · exact (own_none 0 0 k hk).elim
  · rw [own_slice] at hk
    subst hk
    exact ⟨cur, h1⟩
theorem Row.apart {w : World} {E F : Nat} {u v : Value} {xs ys : List Value} (h : Row w E u xs) (k : Row w F v ys) (hne : E ≠ F) : Apart (own u) (own v) := fun i a b => by
  obtain ⟨cs, hc⟩ := h.own_at a
  exact k.ne hc hne b


theorem heap_setCell_at (w : World) (b i : Nat) (cur : Array Value) (e : TypeId) (fz : Nat × Nat) (u : Value) (h : w.heap[b]? = some (.cells cur e fz)) : (w.setCell ⟨b, i, none⟩ u).heap[b]? = some (.cells (cur.setIfInBounds i u) e fz) := by
  simp [World.setCell, Array.getElem?_modify, h]

theorem Row.setOther {w : World} {E b i : Nat} {v u : Value} {xs : List Value} (h : Row w E v xs) (hb : ¬ own v b) : Row (w.setCell ⟨b, i, none⟩ u) E v xs :=
  h.chg ((Chg.refl (fun k => k = b) w).setCell ⟨b, i, none⟩ (.inl rfl) u) fun k hk e => hb (e ▸ hk)

theorem Nd.mk0 {w : World} {b : Nat} {vk vv vc vk' : Value} {ks : List ByteArray} {vs : List Int} {bs : List Nat} (hb : w.heap[b]? = some (.cells #[vk, vv, vc] 54 (0, 0))) (h1 : Row w 9 vk' (ks.map sv)) (h2 : Row w 3 vv (vs.map iv)) (h3 : Row w 48 vc (bs.map pv)) :
    Nd (w.setCell ⟨b, 0, none⟩ vk') b vk' vv vc ks vs bs :=
  ⟨heap_setCell_at w b 0 _ _ _ vk' hb, h1.setOther (h1.ne hb (by decide)), h2.setOther (h2.ne hb (by decide)), h3.setOther (h3.ne hb (by decide))⟩
theorem Nd.mk1 {w : World} {b : Nat} {vk vv vc vv' : Value} {ks : List ByteArray} {vs : List Int} {bs : List Nat} (hb : w.heap[b]? = some (.cells #[vk, vv, vc] 54 (0, 0))) (h1 : Row w 9 vk (ks.map sv)) (h2 : Row w 3 vv' (vs.map iv)) (h3 : Row w 48 vc (bs.map pv)) :
    Nd (w.setCell ⟨b, 1, none⟩ vv') b vk vv' vc ks vs bs :=
  ⟨heap_setCell_at w b 1 _ _ _ vv' hb, h1.setOther (h1.ne hb (by decide)), h2.setOther (h2.ne hb (by decide)), h3.setOther (h3.ne hb (by decide))⟩
theorem Nd.mk2 {w : World} {b : Nat} {vk vv vc vc' : Value} {ks : List ByteArray} {vs : List Int} {bs : List Nat} (hb : w.heap[b]? = some (.cells #[vk, vv, vc] 54 (0, 0))) (h1 : Row w 9 vk (ks.map sv)) (h2 : Row w 3 vv (vs.map iv)) (h3 : Row w 48 vc' (bs.map pv)) :
    Nd (w.setCell ⟨b, 2, none⟩ vc') b vk vv vc' ks vs bs :=
  ⟨heap_setCell_at w b 2 _ _ _ vc' hb, h1.setOther (h1.ne hb (by decide)), h2.setOther (h2.ne hb (by decide)), h3.setOther (h3.ne hb (by decide))⟩

theorem map_sv_cell (ks : List ByteArray) : ∀ u ∈ ks.map sv, u.oneCell' = true := by intro u hu; obtain ⟨x, _, rfl⟩ := List.mem_map.1 hu; rfl
theorem map_iv_cell (vs : List Int) : ∀ u ∈ vs.map iv, u.oneCell' = true := by intro u hu; obtain ⟨x, _, rfl⟩ := List.mem_map.1 hu; rfl
theorem map_pv_cell (bs : List Nat) : ∀ u ∈ bs.map pv, u.oneCell' = true := by intro u hu; obtain ⟨x, _, rfl⟩ := List.mem_map.1 hu; rfl

theorem Row.dr {w : World} {E : TypeId} {v : Value} {xs : List Value} (h : Row w E v xs) : Row w.drew E v xs := h
theorem Row.al {w : World} {E : TypeId} {v : Value} {xs : List Value} (h : Row w E v xs) (o : Obj) : Row (w.alloc o) E v xs := h.chg ((Chg.refl NoB w).alloc o) fun _ _ h => h
theorem Row.alD {w : World} {E : TypeId} {v : Value} {xs : List Value} (h : Row w E v xs) (o : Obj) : Row (w.alloc o).drew E v xs := h.al o
theorem Row.litD (w : World) (E : TypeId) (x : Value) : Row (w.alloc (.cells #[x] E)).drew E (.slice (some ⟨w.heap.size, 0, none⟩) 1 1) [x] := Row.lit w E x

theorem Chg.of_alloc {S : Nat → Prop} {w w' : World} {o : Obj} (h : Chg S (w.alloc o) w') : Chg S w w' := ((Chg.refl S w).alloc o).trans h
theorem Chg.of_allocD {S : Nat → Prop} {w w' : World} {o : Obj} (h : Chg S (w.alloc o).drew w') : Chg S w w' := ((Chg.refl S w).alloc o).drew.trans h

section
variable {W w6 : World} {n : Nat} {vk vv vc v' : Value} {ks ks' : List ByteArray} {vs vs' : List Int} {bs bs' : List Nat}
/-- A field of a node has been given a row that was made of the old one. -/
theorem Nd.step0 (hN : Nd W n vk vv vc ks vs bs) (k : Chg (own vk) W w6) (r : Row w6 9 v' (ks'.map sv)) :
    Nd (w6.setCell ⟨n, 0, none⟩ v') n v' vv vc ks' vs bs ∧ Chg (nset n vk vv vc) W (w6.setCell ⟨n, 0, none⟩ v') :=
  ⟨Nd.mk0 (k.heap (hN.rk.ne hN.blk (by decide)) hN.blk) r (hN.rv.chg k fun j a b => hN.rv.apart hN.rk (by decide) j a b) (hN.rc.chg k fun j a b => hN.rc.apart hN.rk (by decide) j a b),
    (k.mono fun j h => .inr (.inl h)).setCell _ (.inl (.inl rfl)) _⟩
theorem Nd.step1 (hN : Nd W n vk vv vc ks vs bs) (k : Chg (own vv) W w6) (r : Row w6 3 v' (vs'.map iv)) :
    Nd (w6.setCell ⟨n, 1, none⟩ v') n vk v' vc ks vs' bs ∧ Chg (nset n vk vv vc) W (w6.setCell ⟨n, 1, none⟩ v') :=
  ⟨Nd.mk1 (k.heap (hN.rv.ne hN.blk (by decide)) hN.blk) (hN.rk.chg k fun j a b => hN.rk.apart hN.rv (by decide) j a b) r (hN.rc.chg k fun j a b => hN.rc.apart hN.rv (by decide) j a b),
    (k.mono fun j h => .inr (.inr (.inl h))).setCell _ (.inl (.inl rfl)) _⟩
theorem Nd.step2 (hN : Nd W n vk vv vc ks vs bs) (k : Chg (own vc) W w6) (r : Row w6 48 v' (bs'.map pv)) :
    Nd (w6.setCell ⟨n, 2, none⟩ v') n vk vv v' ks vs bs' ∧ Chg (nset n vk vv vc) W (w6.setCell ⟨n, 2, none⟩ v') :=
  ⟨Nd.mk2 (k.heap (hN.rc.ne hN.blk (by decide)) hN.blk) (hN.rk.chg k fun j a b => hN.rk.apart hN.rc (by decide) j a b) (hN.rv.chg k fun j a b => hN.rv.apart hN.rc (by decide) j a b) r,
    (k.mono fun j h => .inr (.inr (.inr h))).setCell _ (.inl (.inl rfl)) _⟩
theorem nset0 {S : Nat → Prop} (ho : ∀ k, own v' k → own vk k ∨ (W.heap.size ≤ k ∧ k < w6.heap.size)) (h : Sub (nset n vk vv vc) S) (hs : ∀ k, W.heap.size ≤ k → S k) : Sub (nset n v' vv vc) S := by
  rintro k (rfl | hk | hk | hk)
  · exact h _ (.inl rfl)
  · exact (ho k hk).elim (fun a => h _ (.inr (.inl a))) fun a => hs k a.1
  · exact h _ (.inr (.inr (.inl hk)))
  · exact h _ (.inr (.inr (.inr hk)))
theorem nset1 {S : Nat → Prop} (ho : ∀ k, own v' k → own vv k ∨ (W.heap.size ≤ k ∧ k < w6.heap.size)) (h : Sub (nset n vk vv vc) S) (hs : ∀ k, W.heap.size ≤ k → S k) : Sub (nset n vk v' vc) S := by
  rintro k (rfl | hk | hk | hk)
  · exact h _ (.inl rfl)
  · exact h _ (.inr (.inl hk))
  · exact (ho k hk).elim (fun a => h _ (.inr (.inr (.inl a)))) fun a => hs k a.1
  · exact h _ (.inr (.inr (.inr hk)))
theorem nset2 {S : Nat → Prop} (ho : ∀ k, own v' k → own vc k ∨ (W.heap.size ≤ k ∧ k < w6.heap.size)) (h : Sub (nset n vk vv vc) S) (hs : ∀ k, W.heap.size ≤ k → S k) : Sub (nset n vk vv v') S := by
  rintro k (rfl | hk | hk | hk)
  · exact h _ (.inl rfl)
  · exact h _ (.inr (.inl hk))
  · exact h _ (.inr (.inr (.inl hk)))
  · exact (ho k hk).elim (fun a => h _ (.inr (.inr (.inr a)))) fun a => hs k a.1
theorem apart0 {T : Nat → Prop} (ho : ∀ k, own v' k → own vk k ∨ (W.heap.size ≤ k ∧ k < w6.heap.size)) (h : Apart (nset n vk vv vc) T) (hT : ∀ k, T k → k < W.heap.size) : Apart (nset n v' vv vc) T := by
  rintro k (rfl | hk | hk | hk) t
  · exact h _ (.inl rfl) t
  · exact (ho k hk).elim (fun a => h _ (.inr (.inl a)) t) fun a => by have := hT k t; omega
  · exact h _ (.inr (.inr (.inl hk))) t
  · exact h _ (.inr (.inr (.inr hk))) t
theorem apart1 {T : Nat → Prop} (ho : ∀ k, own v' k → own vv k ∨ (W.heap.size ≤ k ∧ k < w6.heap.size)) (h : Apart (nset n vk vv vc) T) (hT : ∀ k, T k → k < W.heap.size) : Apart (nset n vk v' vc) T := by
  rintro k (rfl | hk | hk | hk) t
  · exact h _ (.inl rfl) t
  · exact h _ (.inr (.inl hk)) t
  · exact (ho k hk).elim (fun a => h _ (.inr (.inr (.inl a))) t) fun a => by have := hT k t; omega
  · exact h _ (.inr (.inr (.inr hk))) t
theorem apart2 {T : Nat → Prop} (ho : ∀ k, own v' k → own vc k ∨ (W.heap.size ≤ k ∧ k < w6.heap.size)) (h : Apart (nset n vk vv vc) T) (hT : ∀ k, T k → k < W.heap.size) : Apart (nset n vk vv v') T := by
  rintro k (rfl | hk | hk | hk) t
  · exact h _ (.inl rfl) t
  · exact h _ (.inr (.inl hk)) t
  · exact h _ (.inr (.inr (.inl hk))) t
  · exact (ho k hk).elim (fun a => h _ (.inr (.inr (.inr a))) t) fun a => by have := hT k t; omega
end

/-- Keys and values have been given new rows in one statement. -/
theorem Nd.step01 {W w6 : World} {n : Nat} {vk vv vc v1 v2 : Value} {ks ks' : List ByteArray} {vs vs' : List Int} {bs : List Nat} (hN : Nd W n vk vv vc ks vs bs) (k : Chg (fun k => own vk k ∨ own vv k) W w6) (r1 : Row w6 9 v1 (ks'.map sv)) (r2 : Row w6 3 v2 (vs'.map iv)) :
    Nd ((w6.setCell ⟨n, 0, none⟩ v1).setCell ⟨n, 1, none⟩ v2) n v1 v2 vc ks' vs' bs ∧ Chg (nset n vk vv vc) W ((w6.setCell ⟨n, 0, none⟩ v1).setCell ⟨n, 1, none⟩ v2) := by
  have hb := k.heap (k := n) (fun h => h.elim (hN.rk.ne hN.blk (by decide)) (hN.rv.ne hN.blk (by decide))) hN.blk
  have hc := hN.rc.chg k fun j a b => b.elim (fun b => hN.rc.apart hN.rk (by decide) j a b) (fun b => hN.rc.apart hN.rv (by decide) j a b)
  have h0 := heap_setCell_at w6 n 0 _ _ _ v1 hb
  exact ⟨Nd.mk1 h0 (r1.setOther (r1.ne hb (by decide))) (r2.setOther (r2.ne hb (by decide))) (hc.setOther (hc.ne hb (by decide))),
    (((k.mono fun j h => h.elim (fun a => .inr (.inl a)) (fun a => .inr (.inr (.inl a)))).setCell _ (.inl (.inl rfl)) _).setCell _ (.inl (.inl rfl)) _)⟩

/-- One key, one value of a node has been written. -/
theorem Nd.elem0 {W : World} {n g nk ck : Nat} {vv vc : Value} {ks : List ByteArray} {vs : List Int} {bs : List Nat} (hN : Nd W n (.slice (some ⟨g, 0, none⟩) nk ck) vv vc ks vs bs) (j : Nat) (x : ByteArray) :
    Nd (W.setCell ⟨g, j, none⟩ (.string x)) n (.slice (some ⟨g, 0, none⟩) nk ck) vv vc (ks.set j x) vs bs ∧ Chg (nset n (.slice (some ⟨g, 0, none⟩) nk ck) vv vc) W (W.setCell ⟨g, j, none⟩ (.string x)) := by
  have hg : own (.slice (some ⟨g, 0, none⟩) nk ck) g := (own_slice _ _ _ _ _ _).2 rfl
  have hc : Chg (fun k => k = g) W (W.setCell ⟨g, j, none⟩ (.string x)) := (Chg.refl (fun k => k = g) W).setCell ⟨g, j, none⟩ (.inl rfl) _
  have hne : ∀ k, own (.slice (some ⟨g, 0, none⟩) nk ck) k ↔ k = g := fun k => own_slice _ _ _ _ _ _
  refine ⟨⟨hc.heap (fun e => hN.rk.ne hN.blk (by decide) (by rw [e]; exact hg)) hN.blk, ?_, hN.rv.chg hc fun k a e => hN.rv.apart hN.rk (by decide) k a ((hne k).2 e), hN.rc.chg hc fun k a e => hN.rc.apart hN.rk (by decide) k a ((hne k).2 e)⟩, hc.mono fun k e => .inr (.inl ((hne k).2 e))⟩
  have := hN.rk.set j (.string x)
  rwa [show (ks.map sv).set j (.string x) = (ks.set j x).map sv by rw [List.map_set]; rfl] at this
theorem Nd.elem1 {W : World} {n g nk ck : Nat} {vk vc : Value} {ks : List ByteArray} {vs : List Int} {bs : List Nat} (hN : Nd W n vk (.slice (some ⟨g, 0, none⟩) nk ck) vc ks vs bs) (j : Nat) (x : Int) :
    Nd (W.setCell ⟨g, j, none⟩ (.int .i64 x)) n vk (.slice (some ⟨g, 0, none⟩) nk ck) vc ks (vs.set j x) bs ∧ Chg (nset n vk (.slice (some ⟨g, 0, none⟩) nk ck) vc) W (W.setCell ⟨g, j, none⟩ (.int .i64 x)) := by
  have hg : own (.slice (some ⟨g, 0, none⟩) nk ck) g := (own_slice _ _ _ _ _ _).2 rfl
  have hc : Chg (fun k => k = g) W (W.setCell ⟨g, j, none⟩ (.int .i64 x)) := (Chg.refl (fun k => k = g) W).setCell ⟨g, j, none⟩ (.inl rfl) _
  have hne : ∀ k, own (.slice (some ⟨g, 0, none⟩) nk ck) k ↔ k = g := fun k => own_slice _ _ _ _ _ _
  refine ⟨⟨hc.heap (fun e => hN.rv.ne hN.blk (by decide) (by rw [e]; exact hg)) hN.blk, hN.rk.chg hc fun k a e => hN.rk.apart hN.rv (by decide) k a ((hne k).2 e), ?_, hN.rc.chg hc fun k a e => hN.rc.apart hN.rv (by decide) k a ((hne k).2 e)⟩, hc.mono fun k e => .inr (.inr (.inl ((hne k).2 e)))⟩
  have := hN.rv.set j (.int .i64 x)
  rwa [show (vs.map iv).set j (.int .i64 x) = (vs.set j x).map iv by rw [List.map_set]; rfl] at this

/-- A row read from place m on. -/
theorem Row.tail {w : World} {E : TypeId} {a : Option Addr} {n c : Nat} {xs : List Value} (h : Row w E (.slice a n c) xs) (m : Nat) (hm : m < n) :
    ∃ g, a = some ⟨g, 0, none⟩ ∧ c ≠ m ∧ ∀ j u, (xs.drop m)[j]? = some u → w.cell? ((⟨g, m, none⟩ : Addr).add j) = some u := by
  obtain ⟨hn, hnc, _⟩ := h.cap_le
  obtain ⟨g, rfl, _, hc, _⟩ := h.at (by omega)
  refine ⟨g, rfl, by omega, fun j u hu => ?_⟩
  rw [List.getElem?_drop] at hu
  rw [Addr.add_lit]
  exact hc _ _ hu
theorem Row.head {w : World} {E : TypeId} {a : Option Addr} {n c : Nat} {xs : List Value} (h : Row w E (.slice a n c) xs) (m : Nat) (hm : m ≤ n) :
    (a = none → xs.take m = [] ∧ c = 0) ∧ ∀ ad, a = some ad → ∀ j u, (xs.take m)[j]? = some u → w.cell? (ad.add j) = some u := by
  rcases h with ⟨h, rfl⟩ | ⟨g, cap, cur, h, h1, h2, h3, h4, h5⟩
  · simp only [Value.slice.injEq] at h
    obtain ⟨rfl, rfl, rfl⟩ := h
    exact ⟨fun _ => ⟨by simp, rfl⟩, fun _ h => by cases h⟩
  · simp only [Value.slice.injEq] at h
    obtain ⟨rfl, rfl, rfl⟩ := h
    refine ⟨(fun h => by cases h), fun ad had j u hu => ?_⟩
    cases had
    rw [Addr.add_lit, Nat.zero_add, cell_of_row w g j cur E (0, 0) h1]
    rw [List.getElem?_take] at hu
    split at hu
    · rw [← h5, List.getElem?_take] at hu
      split at hu
      · simpa using hu
      · cases hu
    · cases hu

end Go.Proofs.Ytamnmoejjjaegaa
