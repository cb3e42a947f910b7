/- What cell and laid return. Conditions: at most 12 columns, cells and widths of at most 30. -/
import Derived.Test.YtgnnjkmlnfdngaaDoorD
set_option linter.unusedVariables false
set_option linter.unusedSimpArgs false
namespace Go.Proofs.YtgnnjkmlnfdngaaDoor
open Go Go.RowKit

/-- A string by its bytes. -/
def bsOf (l : List UInt8) : ByteArray := ⟨l.toArray⟩
def tv (l : List UInt8) : Value := .string (bsOf l)
theorem size_bsOf (l : List UInt8) : (bsOf l).size = l.length := by simp [bsOf, ByteArray.size]
theorem data_bsOf (l : List UInt8) : (bsOf l).data.toList = l := rfl
theorem bsOf_add (a b : List UInt8) : bsOf a ++ bsOf b = bsOf (a ++ b) := by
  apply ByteArray.ext; simp [bsOf, ByteArray.data_append]
theorem bsOf_data (s : ByteArray) : bsOf s.data.toList = s := by
  apply ByteArray.ext; simp [bsOf]
theorem tv_one (l : List UInt8) : (tv l).oneCell' = true := rfl

/-- A slice that can be read: its elements, of one cell each, are ys. -/
def Sl (w : World) (u : Value) (ys : List Value) : Prop :=
  (∃ a c, u = .slice a 0 c ∧ ys = []) ∨ ∃ g o c, u = .slice (some ⟨g, o, none⟩) ys.length c ∧ ys.length ≤ c ∧ ∀ j y, ys[j]? = some y → w.cell? ⟨g, o + j, none⟩ = some y
theorem Sl.chg {S : Nat → Prop} {w w' : World} {u : Value} {ys : List Value} (h : Sl w u ys) (hc : Chg S w w') (hs : ∀ k, own u k → ¬ S k) : Sl w' u ys := by
  rcases h with h | ⟨g, o, c, rfl, h1, h2⟩
  · exact .inl h
  · exact .inr ⟨g, o, c, rfl, h1, fun j y hy => hc.cell (hs _ ((own_slice ..).2 rfl)) (h2 j y hy)⟩
theorem Sl.new {w w' : World} {u : Value} {ys : List Value} (h : Sl w u ys) (hc : Chg NoB w w') : Sl w' u ys := h.chg hc fun _ _ h => h
theorem Row.sl {w : World} {E : TypeId} {v : Value} {xs : List Value} (h : Row w E v xs) : Sl w v xs := by
  rcases h with ⟨rfl, rfl⟩ | ⟨g, cap, cur, rfl, h1, h2, h3, h4, h5⟩
  · exact .inl ⟨none, 0, rfl, rfl⟩
  · refine .inr ⟨g, 0, cap, rfl, h2, fun j y hy => ?_⟩
    rw [Nat.zero_add, cell_of_row w g j cur E (0, 0) h1]
    rw [← h5, List.getElem?_take] at hy
    split at hy
    · simpa using hy
    · cases hy
theorem Sl.form' {w : World} {v : Value} {xs : List Value} (h : Sl w v xs) : ∃ a n c, v = .slice a n c ∧ Hid (n = xs.length) := by
  rcases h with ⟨a, c, rfl, rfl⟩ | ⟨g, o, c, rfl, _⟩
  · exact ⟨a, 0, c, rfl, rfl⟩
  · exact ⟨_, _, c, rfl, rfl⟩
theorem Sl.at {w : World} {a : Option Addr} {n c : Nat} {xs : List Value} (h : Sl w (.slice a n c) xs) (hp : 0 < xs.length) :
    ∃ g o, a = some ⟨g, o, none⟩ ∧ (∀ j u, xs[j]? = some u → w.cell? ⟨g, o + j, none⟩ = some u) ∧ n = xs.length ∧ n ≤ c ∧ g < w.heap.size := by
  rcases h with ⟨_, _, h, rfl⟩ | ⟨g, o, c', h, h1, h2⟩
  · simp at hp
  · simp only [Value.slice.injEq] at h
    obtain ⟨rfl, rfl, rfl⟩ := h
    refine ⟨g, o, rfl, h2, rfl, h1, ?_⟩
    have := h2 0 xs[0] (by simp [hp])
    simp only [World.cell?] at this
    by_cases hg : g < w.heap.size
    · exact hg
    · rw [Array.getElem?_eq_none (by omega)] at this
      simp at this

/-- A cell of a row. -/
def cellL (row : List (List UInt8)) (i : Nat) : List UInt8 := row[i]?.getD []

set_option maxHeartbeats 4000000 in
set_option maxRecDepth 100000 in
theorem cell33 (u : Value) (row : List (List UInt8)) (i : Nat) (w : World) (h : Sl w u (row.map tv)) :
    Calls Tryd.prog 33 #[u, .int .i64 i] w fun e w' => e = .returned (tv (cellL row i)) ∧ w = w' := by
  obtain ⟨a, n, c, rfl, hn⟩ := h.form'
  have hn2 : n = row.length := by have := hn.out; simpa using this
  clear hn
  by_cases hi : i < row.length
  · obtain ⟨g, o, rfl, hc, -⟩ := h.at (by simp; omega)
    have c1 : w.cell? ⟨g, o + i, none⟩ = some (tv (cellL row i)) := hc i _ (by simp [cellL, hi])
    obtain ⟨x, hx⟩ : ∃ x, cellL row i = x := ⟨_, rfl⟩
    rw [hx] at c1 ⊢
    have hx' := Hid.mk' hx
    have b1 : (i : Int) < (n : Int) := by omega
    have b2 : i < n := by omega
    clear h hc hx hi hn2
    unfold tv at c1 ⊢
    go_enter Tryd.func33, Tryd.ntmps33
    go_wp2
    go_ret
    exact ⟨rfl, rfl⟩
  · have hx : cellL row i = [] := by simp [cellL, List.getElem?_eq_none (by omega : row.length ≤ i)]
    rw [hx]
    have b1 : ¬ ((i : Int) < (n : Int)) := by omega
    clear h hi hn2 hx
    go_enter Tryd.func33, Tryd.ntmps33
    go_wp2
    go_ret
    exact ⟨rfl, rfl⟩
section
variable {P : Program} (w : World)
/-- append of one element, behind the literal that holds it. -/
theorem wpList_append_one {ops : Array Oper} {rest : List Oper} {o : Oper} {a : Act} {Q : Exit → Act → World → Prop} (hgd : o.guard = none) (s x : Operand) (t e : TypeId) (z : Value) (bytes : Nat)
    (ho : o.op = .call { callee := .builtin .append, args := #[s, x], argTypes := #[t, t] }) (ht : P.underlying t = some (.slice e)) (hinfo : (P.info? e).map (fun i => (i.zero, i.size, i.bytes)) = some (some z, 1, bytes)) (hz1 : z.cells = #[z])
    (v : Value) (xs : List Value) (y : Value) (hs : a.eval s = v) (hx : a.eval x = .slice (some ⟨w.heap.size, 0, none⟩) 1 1) (h : Row w e v xs) (h1 : y.oneCell' = true) (hb : (xs.length + 1) * bytes ≤ 140737488355328) (hl : xs.length + 1 ≤ 1099511627776)
    (hK : ∀ v' w', Row w' e v' (xs ++ [y]) → (∀ k, own v' k → own v k ∨ w.heap.size ≤ k) → Chg (own v) w w' → wpList P ops Q rest (a.put o.dst v') w') : wpList P ops Q (o :: rest) a (w.alloc (.cells #[y] e)) := by
  have r1 : Row (w.alloc (.cells #[y] e)) e v xs := h.chg ((Chg.refl NoB w).alloc _) fun _ _ h => h
  have lit := Row.lit w e y
  refine wpList_append_row _ hgd s x t e z bytes ho ht hinfo hz1 v _ xs [y] hs hx r1 lit (by intro y' hy; cases List.mem_singleton.1 hy; exact h1) hb hl ?_
  intro v' w' r o k
  have kW : Chg (own v) w (w.alloc (.cells #[y] e)) := (Chg.refl _ _).alloc _
  exact hK v' w' r (fun j hj => (o j hj).imp id fun h => Nat.le_trans kW.size h.1) (kW.trans k)
end
end Go.Proofs.YtgnnjkmlnfdngaaDoor
