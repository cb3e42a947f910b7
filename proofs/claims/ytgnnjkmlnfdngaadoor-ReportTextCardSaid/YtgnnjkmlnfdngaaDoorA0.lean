/- The memory of a B-tree's nodes, told without any program: which blocks of a world may have changed (Chg), and a slice that is a row of its own (Row). No conditions. -/
import Derived.WalkKit
import Derived.Deep.Draws
namespace Go.Proofs.YtgnnjkmlnfdngaaDoor
open Go Go.RowKit

/-- w' is w but for the blocks of S and new blocks. -/
structure Chg (S : Nat → Prop) (w w' : World) : Prop where
  os : w'.os = w.os
  tape : w'.tape = w.tape
  output : w'.output = w.output
  size : w.heap.size ≤ w'.heap.size
  block : ∀ k, k < w.heap.size → ¬ S k → w'.heap[k]? = w.heap[k]?

theorem Hid.mk' {p : Prop} (h : p) : Hid p := h

def NoB : Nat → Prop := fun _ => False

theorem Chg.refl (S : Nat → Prop) (w : World) : Chg S w w := ⟨rfl, rfl, rfl, Nat.le_refl _, fun _ _ _ => rfl⟩

theorem Chg.trans' {S S2 : Nat → Prop} {a b c : World} (h : Chg S a b) (k : Chg S2 b c) (hs : ∀ i, S2 i → S i ∨ a.heap.size ≤ i) : Chg S a c :=
  ⟨k.os.trans h.os, k.tape.trans h.tape, k.output.trans h.output, Nat.le_trans h.size k.size, fun i hi hn => by
    rw [k.block i (Nat.lt_of_lt_of_le hi h.size) (fun h2 => (hs i h2).elim hn (fun h3 => by omega)), h.block i hi hn]⟩

theorem Chg.trans {S : Nat → Prop} {a b c : World} (h : Chg S a b) (k : Chg S b c) : Chg S a c := h.trans' k fun _ => .inl

theorem Chg.mono {S S2 : Nat → Prop} {a b : World} (h : Chg S a b) (hs : ∀ i, S i → S2 i) : Chg S2 a b :=
  ⟨h.os, h.tape, h.output, h.size, fun i hi hn => h.block i hi fun h2 => hn (hs i h2)⟩

theorem Chg.drew {S : Nat → Prop} {a b : World} (h : Chg S a b) : Chg S a b.drew := ⟨h.os, h.tape, h.output, h.size, h.block⟩
theorem Chg.drewN {S : Nat → Prop} {a b : World} (h : Chg S a b) (n : Nat) : Chg S a (b.drewN n) := ⟨h.os, h.tape, h.output, h.size, h.block⟩
theorem Chg.undrew {S : Nat → Prop} {a b : World} (h : Chg S a.drew b) : Chg S a b := ⟨h.os, h.tape, h.output, h.size, h.block⟩

theorem Chg.alloc {S : Nat → Prop} {a b : World} (h : Chg S a b) (o : Obj) : Chg S a (b.alloc o) :=
  h.trans' (S2 := NoB) ⟨rfl, rfl, rfl, by simp, fun k hk _ => Below.heap_alloc _ _ _ hk⟩ fun _ h => h.elim

theorem Chg.setCell {S : Nat → Prop} {a b : World} (h : Chg S a b) (p : Addr) (hp : S p.block ∨ a.heap.size ≤ p.block) (u : Value) : Chg S a (b.setCell p u) :=
  h.trans' (S2 := fun k => k = p.block) ⟨rfl, rfl, rfl, by simp [World.setCell], fun k _ hk => Below.heap_setCell _ _ _ _ hk⟩ fun _ h => h ▸ hp

theorem heap_setCells (b : Nat) : ∀ (vs : List Value) (o : Nat) (w : World) (k : Nat), k ≠ b → (w.setCells b o vs).heap[k]? = w.heap[k]?
  | [], _, _, _, _ => rfl
  | v :: r, o, w, k, hk => by rw [World.setCells, heap_setCells b r (o + 1) _ k hk, Below.heap_setCell _ _ _ _ hk]
theorem size_setCells' (b : Nat) : ∀ (vs : List Value) (o : Nat) (w : World), (w.setCells b o vs).heap.size = w.heap.size
  | [], _, _ => rfl
  | v :: r, o, w => by rw [World.setCells, size_setCells' b r (o + 1)]; simp [World.setCell]
theorem os_setCells (b : Nat) : ∀ (vs : List Value) (o : Nat) (w : World), (w.setCells b o vs).os = w.os
  | [], _, _ => rfl
  | v :: r, o, w => by rw [World.setCells, os_setCells b r (o + 1)]; rfl
theorem tape_setCells (b : Nat) : ∀ (vs : List Value) (o : Nat) (w : World), (w.setCells b o vs).tape = w.tape
  | [], _, _ => rfl
  | v :: r, o, w => by rw [World.setCells, tape_setCells b r (o + 1)]; rfl
theorem output_setCells (b : Nat) : ∀ (vs : List Value) (o : Nat) (w : World), (w.setCells b o vs).output = w.output
  | [], _, _ => rfl
  | v :: r, o, w => by rw [World.setCells, output_setCells b r (o + 1)]; rfl

theorem Chg.setCells {S : Nat → Prop} {a w : World} (h : Chg S a w) (b o : Nat) (vs : List Value) (hp : S b ∨ a.heap.size ≤ b) : Chg S a (w.setCells b o vs) :=
  h.trans' (S2 := fun k => k = b) ⟨os_setCells .., tape_setCells .., output_setCells .., by rw [size_setCells']; exact Nat.le_refl _, fun k _ hk => heap_setCells b vs o w k hk⟩ fun _ h => h ▸ hp

theorem Chg.grown {S : Nat → Prop} {a b c : World} {row : Option Nat} (h : Chg S a b) (hg : b.grownBy c row) (hr : ∀ k, row = some k → S k ∨ a.heap.size ≤ k) : Chg S a c :=
  h.trans' (S2 := fun k => row = some k) ⟨hg.os, hg.tape, hg.output, hg.size, fun k hk hn => hg.block k hk (fun e => hn e.symm)⟩ fun _ h => hr _ h

theorem Chg.cell {S : Nat → Prop} {w w' : World} (h : Chg S w w') {p : Addr} {v : Value} (hp : ¬ S p.block) (hv : w.cell? p = some v) : w'.cell? p = some v := by
  rw [World.cell?_of_block (w := w) (h.block p.block (World.block_lt_of_cell? w p hv) hp)]; exact hv
theorem Chg.heap {S : Nat → Prop} {w w' : World} (h : Chg S w w') {k : Nat} {o : Obj} (hp : ¬ S k) (hv : w.heap[k]? = some o) : w'.heap[k]? = some o := by
  rw [h.block k (Array.getElem?_eq_some_iff.1 hv).1 hp]; exact hv

/-- A slice that is nil or begins at the head of a row: its elements, of one cell each, are xs. -/
def Row (w : World) (E : TypeId) (v : Value) (xs : List Value) : Prop :=
  (v = .slice none 0 0 ∧ xs = []) ∨ ∃ g cap cur, v = .slice (some ⟨g, 0, none⟩) xs.length cap ∧ w.heap[g]? = some (.cells cur E (0, 0)) ∧ xs.length ≤ cap ∧ cap ≤ maxLen ∧ cur.size = cap ∧ cur.toList.take xs.length = xs

/-- The block of a slice's row. -/
def own (v : Value) : Nat → Prop := fun k => v.ownBlock = some k

theorem Row.owns {w : World} {E : TypeId} {v : Value} {xs : List Value} (h : Row w E v xs) : w.ownsRow 0 E 1 v xs.length xs := by
  refine ⟨by omega, ?_⟩
  rcases h with ⟨rfl, rfl⟩ | ⟨g, cap, cur, rfl, h1, h2, h3, h4, h5⟩
  · exact .inl ⟨rfl, rfl⟩
  · exact .inr ⟨g, cap, cur, rfl, Nat.zero_le _, h1, h2, h3, by omega, by rw [Nat.mul_one]; exact h5⟩

theorem Row.of_owns {w : World} {base : Nat} {E : TypeId} {v : Value} {xs : List Value} {n : Nat} (h : w.ownsRow base E 1 v n xs) : Row w E v xs := by
  obtain ⟨hl, h⟩ := h
  rcases h with ⟨rfl, rfl⟩ | ⟨g, cap, cur, rfl, _, h1, h2, h3, h4, h5⟩
  · exact .inl ⟨rfl, List.eq_nil_of_length_eq_zero (by omega)⟩
  · have hn : n = xs.length := by omega
    subst hn
    exact .inr ⟨g, cap, cur, rfl, h1, h2, h3, by omega, by rw [Nat.mul_one] at h5; exact h5⟩

theorem Row.nil (w : World) (E : TypeId) : Row w E (.slice none 0 0) [] := .inl ⟨rfl, rfl⟩

theorem Row.chg {S : Nat → Prop} {w w' : World} {E : TypeId} {v : Value} {xs : List Value} (h : Row w E v xs) (hc : Chg S w w') (hs : ∀ k, own v k → ¬ S k) : Row w' E v xs := by
  rcases h with h | ⟨g, cap, cur, rfl, h1, r⟩
  · exact .inl h
  · exact .inr ⟨g, cap, cur, rfl, hc.heap (hs g rfl) h1, r⟩

theorem Row.lt {w : World} {E : TypeId} {v : Value} {xs : List Value} (h : Row w E v xs) {k : Nat} (hk : own v k) : k < w.heap.size := by
  rcases h with ⟨rfl, _⟩ | ⟨g, cap, cur, rfl, h1, _⟩
  · simp [own, Value.ownBlock] at hk
  · simp only [own, Value.ownBlock, Option.some.injEq] at hk
    subst hk; exact (Array.getElem?_eq_some_iff.1 h1).1

theorem Row.form {w : World} {E : TypeId} {v : Value} {xs : List Value} (h : Row w E v xs) : ∃ a c, v = .slice a xs.length c := by
  rcases h with ⟨rfl, rfl⟩ | ⟨g, cap, cur, rfl, _⟩
  · exact ⟨none, 0, rfl⟩
  · exact ⟨_, cap, rfl⟩

theorem Row.form' {w : World} {E : TypeId} {v : Value} {xs : List Value} (h : Row w E v xs) : ∃ a n c, v = .slice a n c ∧ Hid (n = xs.length) := by
  obtain ⟨a, c, rfl⟩ := h.form
  exact ⟨a, _, c, rfl, rfl⟩

theorem Row.cap_le {w : World} {E : TypeId} {a : Option Addr} {n c : Nat} {xs : List Value} (h : Row w E (.slice a n c) xs) : n = xs.length ∧ n ≤ c ∧ c ≤ maxLen := by
  rcases h with ⟨h, rfl⟩ | ⟨g, cap, cur, h, _, h2, h3, _⟩
  · simp only [Value.slice.injEq] at h
    obtain ⟨_, rfl, rfl⟩ := h; exact ⟨rfl, Nat.le_refl _, by simp [maxLen]⟩
  · simp only [Value.slice.injEq] at h
    obtain ⟨_, rfl, rfl⟩ := h; exact ⟨rfl, h2, h3⟩

/-- Element j: where it lies, what it is, and that it may be written. -/
theorem Row.at {w : World} {E : TypeId} {a : Option Addr} {n c : Nat} {xs : List Value} (h : Row w E (.slice a n c) xs) (hp : 0 < xs.length) :
    ∃ g, a = some ⟨g, 0, none⟩ ∧ own (.slice a n c) g ∧ (∀ j u, xs[j]? = some u → w.cell? ⟨g, j, none⟩ = some u) ∧ (∀ j, w.frozen? ⟨g, j, none⟩ = false) ∧ g < w.heap.size := by
  rcases h with ⟨h, rfl⟩ | ⟨g, cap, cur, h, h1, h2, h3, h4, h5⟩
  · simp at hp
  · simp only [Value.slice.injEq] at h
    obtain ⟨rfl, rfl, rfl⟩ := h
    refine ⟨g, rfl, rfl, fun j u hu => ?_, fun j => frozen_of_row w g j cur E h1, (Array.getElem?_eq_some_iff.1 h1).1⟩
    rw [cell_of_row w g j cur E (0, 0) h1]
    rw [← h5, List.getElem?_take] at hu
    split at hu
    · simpa using hu
    · cases hu

theorem Row.set {w : World} {E : TypeId} {g n c : Nat} {xs : List Value} (h : Row w E (.slice (some ⟨g, 0, none⟩) n c) xs) (j : Nat) (u : Value) :
    Row (w.setCell ⟨g, j, none⟩ u) E (.slice (some ⟨g, 0, none⟩) n c) (xs.set j u) := by
  rcases h with ⟨h, rfl⟩ | ⟨g', cap, cur, h, h1, h2, h3, h4, h5⟩
  · simp at h
  · simp only [Value.slice.injEq, Option.some.injEq, Addr.mk.injEq, and_true] at h
    obtain ⟨rfl, rfl, rfl⟩ := h
    refine .inr ⟨g, c, cur.setIfInBounds j u, by simp, heap_setCell_same w g j cur E u h1, by simpa using h2, h3, by simpa using h4, ?_⟩
    rw [Array.toList_setIfInBounds, List.length_set, List.take_set, h5]

/-- The row cut to its first n elements. -/
theorem Row.cut {w : World} {E : TypeId} {a : Option Addr} {n c : Nat} {xs : List Value} (h : Row w E (.slice a n c) xs) (m : Nat) (hm : m ≤ n) : Row w E (.slice a m c) (xs.take m) := by
  rcases h with ⟨h, rfl⟩ | ⟨g, cap, cur, h, h1, h2, h3, h4, h5⟩
  · simp only [Value.slice.injEq] at h
    obtain ⟨rfl, rfl, rfl⟩ := h
    obtain rfl : m = 0 := by omega
    exact .inl ⟨rfl, by simp⟩
  · simp only [Value.slice.injEq] at h
    obtain ⟨rfl, rfl, rfl⟩ := h
    have hl : (xs.take m).length = m := by rw [List.length_take]; omega
    refine .inr ⟨g, c, cur, by rw [hl], h1, by omega, h3, h4, ?_⟩
    rw [hl, ← h5, List.take_take]
    congr 1; omega

theorem take_set_drop (l : List Value) (o : Nat) (v : Value) (r : List Value) (h : o + (v :: r).length ≤ l.length) :
    (l.set o v).take (o + 1) ++ r ++ (l.set o v).drop (o + 1 + r.length) = l.take o ++ (v :: r) ++ l.drop (o + (v :: r).length) := by
  simp only [List.length_cons] at h
  have ho : o < l.length := by omega
  rw [List.take_succ_eq_append_getElem (by simpa using ho), List.getElem_set_self, List.take_set_of_le (Nat.le_refl o), List.drop_set_of_lt (by omega)]
  simp only [List.length_cons, List.append_assoc, List.singleton_append]
  congr 3
  omega

theorem heap_setCells_same (g : Nat) (E : TypeId) (fz : Nat × Nat) : ∀ (vs : List Value) (o : Nat) (w : World) (cur : Array Value), w.heap[g]? = some (.cells cur E fz) → o + vs.length ≤ cur.size →
    (w.setCells g o vs).heap[g]? = some (.cells (cur.toList.take o ++ vs ++ cur.toList.drop (o + vs.length)).toArray E fz)
  | [], o, w, cur, h, _ => by simp [World.setCells, h]
  | v :: r, o, w, cur, h, hl => by
    rw [World.setCells]
    have h1 : (w.setCell ⟨g, o, none⟩ v).heap[g]? = some (.cells (cur.setIfInBounds o v) E fz) := by
      simp [World.setCell, Array.getElem?_modify, h]
    rw [heap_setCells_same g E fz r (o + 1) _ _ h1 (by simp at hl ⊢; omega), Array.toList_setIfInBounds, take_set_drop _ _ _ _ (by simpa using hl)]

/-- A row into which some cells have been written. -/
theorem Row.setCells {w : World} {E : TypeId} {g n c : Nat} {xs : List Value} (h : Row w E (.slice (some ⟨g, 0, none⟩) n c) xs) (o : Nat) (vs : List Value) (ho : o ≤ n) (hn : n ≤ o + vs.length) (hl : o + vs.length ≤ c) :
    Row (w.setCells g o vs) E (.slice (some ⟨g, 0, none⟩) (o + vs.length) c) (xs.take o ++ vs) := by
  rcases h with ⟨h, rfl⟩ | ⟨g', cap, cur, h, h1, h2, h3, h4, h5⟩
  · simp at h
  · simp only [Value.slice.injEq, Option.some.injEq, Addr.mk.injEq, and_true] at h
    obtain ⟨rfl, rfl, rfl⟩ := h
    have hx : cur.toList.take o = xs.take o := by rw [← h5, List.take_take]; congr 1; omega
    have hlen : (xs.take o ++ vs).length = o + vs.length := by simp; omega
    refine .inr ⟨g, c, _, by rw [hlen], heap_setCells_same g E (0, 0) vs o w cur h1 (by omega), by rw [hlen]; exact hl, h3, ?_, ?_⟩
    · simp; omega
    · rw [hlen, hx]
      exact List.take_left' hlen
/-- .. some cells among its elements. -/
theorem Row.setCells_in {w : World} {E : TypeId} {g n c : Nat} {xs : List Value} (h : Row w E (.slice (some ⟨g, 0, none⟩) n c) xs) (o : Nat) (vs : List Value) (hl : o + vs.length ≤ n) :
    Row (w.setCells g o vs) E (.slice (some ⟨g, 0, none⟩) n c) (xs.take o ++ vs ++ xs.drop (o + vs.length)) := by
  rcases h with ⟨h, rfl⟩ | ⟨g', cap, cur, h, h1, h2, h3, h4, h5⟩
  · simp at h
  · simp only [Value.slice.injEq, Option.some.injEq, Addr.mk.injEq, and_true] at h
    obtain ⟨rfl, rfl, rfl⟩ := h
    have hlen : (xs.take o ++ vs ++ xs.drop (o + vs.length)).length = xs.length := by simp; omega
    refine .inr ⟨g, c, _, by rw [hlen], heap_setCells_same g E (0, 0) vs o w cur h1 (by omega), by rw [hlen]; exact h2, h3, ?_, ?_⟩
    · simp; omega
    · rw [hlen]
      show List.take xs.length (cur.toList.take o ++ vs ++ cur.toList.drop (o + vs.length)) = _
      have e1 : cur.toList.take o = xs.take o := by rw [← h5, List.take_take]; congr 1; omega
      rw [e1, List.take_append]
      have e2 : (xs.take o ++ vs).length = o + vs.length := by simp; omega
      rw [e2, List.take_of_length_le (by omega)]
      congr 1
      conv => rhs; rw [← h5]
      rw [List.drop_take]
/-- Cells behind the elements that count. -/
theorem Row.setCells_out {w : World} {E : TypeId} {g n c : Nat} {xs : List Value} (h : Row w E (.slice (some ⟨g, 0, none⟩) n c) xs) (o : Nat) (vs : List Value) (ho : n ≤ o) (hl : o + vs.length ≤ c) :
    Row (w.setCells g o vs) E (.slice (some ⟨g, 0, none⟩) n c) xs := by
  rcases h with ⟨h, rfl⟩ | ⟨g', cap, cur, h, h1, h2, h3, h4, h5⟩
  · simp at h
  · simp only [Value.slice.injEq, Option.some.injEq, Addr.mk.injEq, and_true] at h
    obtain ⟨rfl, rfl, rfl⟩ := h
    refine .inr ⟨g, c, _, rfl, heap_setCells_same g E (0, 0) vs o w cur h1 (by omega), h2, h3, ?_, ?_⟩
    · simp; omega
    · show List.take xs.length (cur.toList.take o ++ vs ++ cur.toList.drop (o + vs.length)) = _
      rw [List.append_assoc, List.take_append_of_le_length (by simp; omega), List.take_take, Nat.min_eq_left ho, h5]

/-- A new row. -/
theorem Row.made (w : World) (E : TypeId) (cs : List Value) (cap : Nat) (rest : List Value) (hl : cs.length + rest.length = cap) (hm : cap ≤ maxLen) :
    Row (w.alloc (.cells (cs ++ rest).toArray E)) E (.slice (some ⟨w.heap.size, 0, none⟩) cs.length cap) cs :=
  .inr ⟨w.heap.size, cap, (cs ++ rest).toArray, rfl, heap_alloc_new w _, by omega, hm, by simp [hl], by simp⟩

theorem own_slice (g n c : Nat) (o : Nat) (s : Option Nat) (k : Nat) : own (.slice (some ⟨g, o, s⟩) n c) k ↔ k = g := by
  simp [own, Value.ownBlock, eq_comm]
theorem own_none (n c : Nat) (k : Nat) : ¬ own (.slice none n c) k := by simp [own, Value.ownBlock]
theorem own_resize (a : Option Addr) (n c n' c' : Nat) : own (.slice a n c) = own (.slice a n' c') := by
  cases a <;> rfl

/-- What the blocks from B on hold is new. -/
def orNew (S : Nat → Prop) (w : World) : Nat → Prop := fun k => S k ∨ w.heap.size ≤ k

end Go.Proofs.YtgnnjkmlnfdngaaDoor
