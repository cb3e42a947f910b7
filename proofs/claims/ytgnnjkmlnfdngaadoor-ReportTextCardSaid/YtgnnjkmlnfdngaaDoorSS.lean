/- append onto a row from any cells; the row of an empty literal. No conditions beyond the lengths. -/
import Derived.Test.YtgnnjkmlnfdngaaDoorA1
set_option linter.unusedVariables false
set_option linter.unusedSimpArgs false
namespace Go.Proofs.YtgnnjkmlnfdngaaDoor
open Go Go.RowKit

/-- The row that an empty literal lays. -/
theorem Row.lit0 (w : World) (E : TypeId) : Row (w.alloc (.cells #[] E)) E (.slice (some ⟨w.heap.size, 0, none⟩) 0 0) [] :=
  .inr ⟨w.heap.size, 0, #[], rfl, heap_alloc_new w _, Nat.le_refl _, by simp [maxLen], rfl, rfl⟩

/-- A slice whose elements, of one cell each, are ys. -/
def Src (w : World) (u : Value) (ys : List Value) : Prop :=
  (u = .slice none 0 0 ∧ ys = []) ∨ ∃ ad c, u = .slice (some ad) ys.length c ∧ ys.length ≤ c ∧ ∀ j y, ys[j]? = some y → w.cell? (ad.add j) = some y
theorem Src.chg {S : Nat → Prop} {w w' : World} {u : Value} {ys : List Value} (h : Src w u ys) (hc : Chg S w w') (hs : ∀ k, own u k → ¬ S k) : Src w' u ys := by
  rcases h with h | ⟨ad, c, rfl, h1, h2⟩
  · exact .inl h
  · exact .inr ⟨ad, c, rfl, h1, fun j y hy => hc.cell (hs _ (by cases ad; exact (own_slice ..).2 (by unfold Addr.add; split <;> rfl))) (h2 j y hy)⟩
theorem Row.src {w : World} {E : TypeId} {v : Value} {xs : List Value} (h : Row w E v xs) : Src w v xs := by
  rcases h with h | ⟨g, cap, cur, rfl, h1, h2, h3, h4, h5⟩
  · exact .inl h
  · refine .inr ⟨_, cap, rfl, h2, fun j y hy => ?_⟩
    rw [Addr.add_lit, Nat.zero_add, cell_of_row w g j cur E (0, 0) h1]
    rw [← h5, List.getElem?_take] at hy
    split at hy
    · simpa using hy
    · cases hy
/-- Cells of a row from an element on. -/
theorem Row.src_from {w : World} {E : TypeId} {g n c : Nat} {xs : List Value} (h : Row w E (.slice (some ⟨g, 0, none⟩) n c) xs) (o n2 c2 : Nat) (hn : n2 = n - o) (hc : n2 ≤ c2) (o2 : Nat) (ho : n2 = 0 ∨ o2 = o) : Src w (.slice (some ⟨g, o2, none⟩) n2 c2) (xs.drop o) := by
  obtain ⟨rfl, h2, h3⟩ := h.cap_le
  have hl : (xs.drop o).length = n2 := by rw [hn, List.length_drop]
  refine .inr ⟨_, c2, by rw [hl], by omega, fun j y hy => ?_⟩
  obtain ⟨g', hg, -, hcell, -⟩ := h.at (by
    cases xs with
    | nil => simp at hy
    | cons _ _ => simp)
  cases hg
  have hj : j < (xs.drop o).length := (List.getElem?_eq_some_iff.1 hy).1
  rw [List.getElem?_drop] at hy
  rw [Addr.add_lit]
  obtain rfl : o2 = o := ho.resolve_left (by omega)
  exact hcell _ _ hy

section
variable {P : Program} (w : World)
theorem run_append_src (t ty e : TypeId) (z : Value) (bytes : Nat) (ht : P.underlying t = some (.slice e)) (hinfo : (P.info? e).map (fun i => (i.zero, i.size, i.bytes)) = some (some z, 1, bytes)) (hz1 : z.cells = #[z])
    (v u : Value) (xs ys : List Value) (h : Row w e v xs) (hu : Src w u ys) (h1 : ∀ y ∈ ys, y.oneCell' = true) (hb : (xs.length + ys.length) * bytes ≤ 140737488355328) (hl : xs.length + ys.length ≤ 1099511627776) :
    ∃ v' w', (Builtin.append_ #[t, t] ty #[v, u]).run P w = .ok v' w' ∧ Row w' e v' (xs ++ ys) ∧ (∀ k, own v' k → own v k ∨ (w.heap.size ≤ k ∧ k < w'.heap.size)) ∧ Chg (own v) w w' := by
  obtain ⟨i, hi, hz, hsize, hby⟩ := info_parts hinfo
  have hm : ∀ n, n ≤ 1099511627776 → n ≤ maxLen := fun n hn => by unfold maxLen; omega
  rcases hu with ⟨rfl, rfl⟩ | ⟨ad2, cap2, rfl, hu2, hnews⟩
  · refine ⟨v, w, run_append_owned_none w 0 t ty e i 1 ht hi v xs.length xs h.owns, by simpa using h, fun k hk => .inl hk, Chg.refl _ _⟩
  · rcases h with ⟨rfl, rfl⟩ | ⟨g, cap, cur, rfl, h1', h2', h3', h4', h5'⟩
    · obtain ⟨v', w', hr, hown, hg, _⟩ := run_append_own (P := P) w w.heap.size t ty e i z 1 bytes ht hi hz hsize hby (by rw [hz1]; rfl) (by decide) (.slice none 0 0) 0 [] (World.ownsRow_nil w _ e 1) ad2 ys.length cap2 ys (by omega) hnews h1
        (hm _ (by simpa using hl)) (by simpa using hb) (Nat.le_refl _)
      have hrow := Row.of_owns hown
      exact ⟨v', w', hr, by simpa using hrow, fun k hk => .inr ⟨(hown.lt k hk).1, hrow.lt hk⟩, (Chg.refl _ w).grown hg fun k hk => by simp [Value.ownBlock] at hk⟩
    · by_cases hroom : xs.length + ys.length ≤ cap
      · have hrow : Row w e (.slice (some ⟨g, 0, none⟩) xs.length cap) xs := .inr ⟨g, cap, cur, rfl, h1', h2', h3', h4', h5'⟩
        obtain ⟨w', hr, hown, hg⟩ := run_append_fits (P := P) w 0 t ty e i 1 ht hi hsize g xs.length cap xs hrow.owns ad2 ys.length cap2 ys (by omega) hnews h1 hroom
        exact ⟨_, w', hr, Row.of_owns hown, fun k hk => .inl hk, (Chg.refl _ w).grown hg fun k hk => .inl (by simpa [own, Value.ownBlock] using hk)⟩
      · have hr := run_append_grow (P := P) w t ty e i z ht hi hz ⟨g, 0, none⟩ xs.length cap xs (by rw [hsize]; omega) (fun j y hy => by
          rw [Addr.add_lit, Nat.zero_add, cell_of_row w g j cur e (0, 0) h1']
          rw [← h5', List.getElem?_take] at hy
          split at hy
          · simpa using hy
          · cases hy) ad2 ys.length cap2 ys (by rw [hsize]; omega) hnews (by omega) (by omega) (growslice_fits (by omega) (by rw [hby]; exact hb))
        have hge := grownCap_ge w (xs.length + ys.length) cap e
        have hle := grownCap_le_maxLen w (xs.length + ys.length) cap e (hm _ hl)
        refine ⟨_, _, hr, ?_, fun k hk => ?_, (((Chg.refl _ w).drew).alloc _)⟩
        · have := Row.made w.drew e (xs ++ ys) (grownCap w (xs.length + ys.length) cap e) (Builtin.zeroCells z.cells (grownCap w (xs.length + ys.length) cap e - (xs.length + ys.length))).toList
            (by simp [size_zeroCells, hz1]; omega) hle
          simp only [List.length_append] at this
          have e2 : (xs ++ ys ++ (Builtin.zeroCells z.cells (grownCap w (xs.length + ys.length) cap e - (xs.length + ys.length))).toList).toArray = xs.toArray ++ ys.toArray ++ Builtin.zeroCells z.cells (grownCap w (xs.length + ys.length) cap e - (xs.length + ys.length)) := by
            apply Array.ext'; simp
          rw [e2] at this
          exact this
        · simp only [own, Value.ownBlock, Option.some.injEq] at hk
          subst hk
          exact .inr ⟨Nat.le_refl _, by simp⟩
theorem wpList_append_src {ops : Array Oper} {rest : List Oper} {o : Oper} {a : Act} {Q : Exit → Act → World → Prop} (hgd : o.guard = none) (s x : Operand) (t e : TypeId) (z : Value) (bytes : Nat)
    (ho : o.op = .call { callee := .builtin .append, args := #[s, x], argTypes := #[t, t] }) (ht : P.underlying t = some (.slice e)) (hinfo : (P.info? e).map (fun i => (i.zero, i.size, i.bytes)) = some (some z, 1, bytes)) (hz1 : z.cells = #[z])
    (v u : Value) (xs ys : List Value) (hs : a.eval s = v) (hx : a.eval x = u) (h : Row w e v xs) (hu : Src w u ys) (h1 : ∀ y ∈ ys, y.oneCell' = true) (hb : (xs.length + ys.length) * bytes ≤ 140737488355328) (hl : xs.length + ys.length ≤ 1099511627776)
    (hK : ∀ v' w', Row w' e v' (xs ++ ys) → (∀ k, own v' k → own v k ∨ (w.heap.size ≤ k ∧ k < w'.heap.size)) → Chg (own v) w w' → wpList P ops Q rest (a.put o.dst v') w') : wpList P ops Q (o :: rest) a w := by
  obtain ⟨v', w', hr, h2, h3, h4⟩ := run_append_src (P := P) w t o.type e z bytes ht hinfo hz1 v u xs ys h hu h1 hb hl
  exact Lib.wpList_append_run w hgd s x t t ho v u hs hx v' w' hr (hK v' w' h2 h3 h4)
end
end Go.Proofs.YtgnnjkmlnfdngaaDoor
