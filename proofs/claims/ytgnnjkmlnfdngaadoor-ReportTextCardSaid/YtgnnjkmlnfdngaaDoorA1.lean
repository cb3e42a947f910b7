/- The builtin append at rows (YA0): onto a row of its own, from a row. No conditions beyond the lengths. -/
import Derived.Test.YtgnnjkmlnfdngaaDoorA0
import Derived.Lib.AppendZeros
import Derived.Lib.SliceRun
set_option linter.unusedVariables false
namespace Go.Proofs.YtgnnjkmlnfdngaaDoor.Lib2
open Go Go.RowKit
section
variable {P : Program}
/-- copy(d, s) where its run is known. -/
theorem wp_copy_run (w : World) {o : Oper} {a : Act} {K : Act → World → Prop} {Q : Exit → Act → World → Prop} (d s : Operand) (t t' : TypeId)
    (ho : o.op = .call { callee := .builtin .copy, args := #[d, s], argTypes := #[t, t'] }) (v u : Value) (hd : a.eval d = v) (hs : a.eval s = u) {v' : Value} {w' : World}
    (hr : (Builtin.copy_ #[t, t'] o.type #[v, u]).run P w = .ok v' w') (h : K (a.put o.dst v') w') : o.wp P a w K Q := by
  unfold Oper.wp execOp
  simp only [ho, resolve, invoke, builtin, Sem.run_bind, Sem.run_pure, Result.andThen_ok, List.map_toArray, List.map_cons, List.map_nil, hd, hs, hr]
  exact h
theorem wpList_copy_run (w : World) {ops : Array Oper} {rest : List Oper} {o : Oper} {a : Act} {Q : Exit → Act → World → Prop} (hgd : o.guard = none) (d s : Operand) (t t' : TypeId)
    (ho : o.op = .call { callee := .builtin .copy, args := #[d, s], argTypes := #[t, t'] }) (v u : Value) (hd : a.eval d = v) (hs : a.eval s = u) {v' : Value} {w' : World}
    (hr : (Builtin.copy_ #[t, t'] o.type #[v, u]).run P w = .ok v' w') (h : wpList P ops Q rest (a.put o.dst v') w') : wpList P ops Q (o :: rest) a w :=
  wpList_plain hgd fun _ hK => wp_copy_run w d s t t' ho v u hd hs hr (hK _ _ h)
theorem step_copy_run {ops : Array Oper} {o : Oper} {a : Act} {w : World} {K : Act → World → Prop} {Q : Exit → Act → World → Prop} {E : Prop}
    (hg : o.guard = none) (d x : Operand) (dT sT : TypeId) (hop : o.op = Op.call { callee := Callee.builtin Builtin.copy, args := #[d, x], argTypes := #[dT, sT] })
    (v u : Value) (hd : a.eval d = v) (hx : a.eval x = u) {v' : Value} {w' : World} (hr : (Builtin.copy_ #[dT, sT] o.type #[v, u]).run P w = .ok v' w') (hK : K (a.put o.dst v') w') :
    if Region.wanted o (yielded ops a.tmps) = true then Oper.wp P o a w K Q else E := by
  have hw : Region.wanted o (yielded ops a.tmps) = true := by simp [Region.wanted, hg]
  rw [if_pos hw]
  exact wp_copy_run w d x dT sT hop v u hd hx hr hK
end
end Go.Proofs.YtgnnjkmlnfdngaaDoor.Lib2
namespace Go.Proofs.YtgnnjkmlnfdngaaDoor
open Go Go.RowKit

theorem Row.one {w : World} {E : TypeId} {v : Value} {xs : List Value} (h : Row w E v xs) : ∀ k, own v k → k < w.heap.size := fun k hk => h.lt hk

/-- The row that a literal of one element lays. -/
theorem Row.lit (w : World) (E : TypeId) (x : Value) : Row (w.alloc (.cells #[x] E)) E (.slice (some ⟨w.heap.size, 0, none⟩) 1 1) [x] :=
  .inr ⟨w.heap.size, 1, #[x], rfl, heap_alloc_new w _, Nat.le_refl _, by simp [maxLen], rfl, rfl⟩

section
variable {P : Program} (w : World)

theorem run_append_row (t ty e : TypeId) (z : Value) (bytes : Nat) (ht : P.underlying t = some (.slice e)) (hinfo : (P.info? e).map (fun i => (i.zero, i.size, i.bytes)) = some (some z, 1, bytes)) (hz1 : z.cells = #[z])
    (v u : Value) (xs ys : List Value) (h : Row w e v xs) (hu : Row w e u ys) (h1 : ∀ y ∈ ys, y.oneCell' = true) (hb : (xs.length + ys.length) * bytes ≤ 140737488355328) (hl : xs.length + ys.length ≤ 1099511627776) :
    ∃ v' w', (Builtin.append_ #[t, t] ty #[v, u]).run P w = .ok v' w' ∧ Row w' e v' (xs ++ ys) ∧ (∀ k, own v' k → own v k ∨ (w.heap.size ≤ k ∧ k < w'.heap.size)) ∧ Chg (own v) w w' := by
  obtain ⟨i, hi, hz, hsize, hby⟩ := info_parts hinfo
  have hm : ∀ n, n ≤ 1099511627776 → n ≤ maxLen := fun n hn => by unfold maxLen; omega
  rcases hu with ⟨rfl, rfl⟩ | ⟨g2, cap2, cur2, rfl, hu1, hu2, hu3, hu4, hu5⟩
  · refine ⟨v, w, run_append_owned_none w 0 t ty e i 1 ht hi v xs.length xs h.owns, by simpa using h, fun k hk => .inl hk, Chg.refl _ _⟩
  · have hnews : ∀ j y, ys[j]? = some y → w.cell? ((⟨g2, 0, none⟩ : Addr).add j) = some y := fun j y hy => by
      rw [Addr.add_lit, Nat.zero_add, cell_of_row w g2 j cur2 e (0, 0) hu1]
      rw [← hu5, List.getElem?_take] at hy
      split at hy
      · simpa using hy
      · cases hy
    rcases h with ⟨rfl, rfl⟩ | ⟨g, cap, cur, rfl, h1', h2', h3', h4', h5'⟩
    · obtain ⟨v', w', hr, hown, hg, _⟩ := run_append_own (P := P) w w.heap.size t ty e i z 1 bytes ht hi hz hsize hby (by rw [hz1]; rfl) (by decide) (.slice none 0 0) 0 [] (World.ownsRow_nil w _ e 1) ⟨g2, 0, none⟩ ys.length cap2 ys (by omega) hnews h1
        (hm _ (by simpa using hl)) (by simpa using hb) (Nat.le_refl _)
      have hrow := Row.of_owns hown
      exact ⟨v', w', hr, by simpa using hrow, fun k hk => .inr ⟨(hown.lt k hk).1, hrow.lt hk⟩, (Chg.refl _ w).grown hg fun k hk => by simp [Value.ownBlock] at hk⟩
    · by_cases hroom : xs.length + ys.length ≤ cap
      · have hrow : Row w e (.slice (some ⟨g, 0, none⟩) xs.length cap) xs := .inr ⟨g, cap, cur, rfl, h1', h2', h3', h4', h5'⟩
        obtain ⟨w', hr, hown, hg⟩ := run_append_fits (P := P) w 0 t ty e i 1 ht hi hsize g xs.length cap xs hrow.owns ⟨g2, 0, none⟩ ys.length cap2 ys (by omega) hnews h1 hroom
        exact ⟨_, w', hr, Row.of_owns hown, fun k hk => .inl hk, (Chg.refl _ w).grown hg fun k hk => .inl (by simpa [own, Value.ownBlock] using hk)⟩
      · have hr := run_append_grow (P := P) w t ty e i z ht hi hz ⟨g, 0, none⟩ xs.length cap xs (by rw [hsize]; omega) (fun j y hy => by
          rw [Addr.add_lit, Nat.zero_add, cell_of_row w g j cur e (0, 0) h1']
          rw [← h5', List.getElem?_take] at hy
          split at hy
          · simpa using hy
          · cases hy) ⟨g2, 0, none⟩ ys.length cap2 ys (by rw [hsize]; omega) hnews (by omega) (by omega) (growslice_fits (by omega) (by rw [hby]; exact hb))
        have hge := grownCap_ge w (xs.length + ys.length) cap e
        have hle := grownCap_le_maxLen w (xs.length + ys.length) cap e (hm _ hl)
        refine ⟨_, _, hr, ?_, fun k hk => ?_, (((Chg.refl _ w).drew).alloc _)⟩
        · have := Row.made w.drew e (xs ++ ys) (grownCap w (xs.length + ys.length) cap e) (Builtin.zeroCells z.cells (grownCap w (xs.length + ys.length) cap e - (xs.length + ys.length))).toList
            (by simp [size_zeroCells, hz1]; omega) hle
          simp only [List.length_append] at this
          have e2 : (xs ++ ys ++ (Builtin.zeroCells z.cells (grownCap w (xs.length + ys.length) cap e - (xs.length + ys.length))).toList).toArray = xs.toArray ++ ys.toArray ++ Builtin.zeroCells z.cells (grownCap w (xs.length + ys.length) cap e - (xs.length + ys.length)) := by
            apply Array.ext'; simp
          rw [e2] at this
          exact this
        · simp only [own, Value.ownBlock, Option.some.injEq] at hk
          subst hk
          exact .inr ⟨Nat.le_refl _, by simp⟩

theorem wpList_append_row {ops : Array Oper} {rest : List Oper} {o : Oper} {a : Act} {Q : Exit → Act → World → Prop} (hgd : o.guard = none) (s x : Operand) (t e : TypeId) (z : Value) (bytes : Nat)
    (ho : o.op = .call { callee := .builtin .append, args := #[s, x], argTypes := #[t, t] }) (ht : P.underlying t = some (.slice e)) (hinfo : (P.info? e).map (fun i => (i.zero, i.size, i.bytes)) = some (some z, 1, bytes)) (hz1 : z.cells = #[z])
    (v u : Value) (xs ys : List Value) (hs : a.eval s = v) (hx : a.eval x = u) (h : Row w e v xs) (hu : Row w e u ys) (h1 : ∀ y ∈ ys, y.oneCell' = true) (hb : (xs.length + ys.length) * bytes ≤ 140737488355328) (hl : xs.length + ys.length ≤ 1099511627776)
    (hK : ∀ v' w', Row w' e v' (xs ++ ys) → (∀ k, own v' k → own v k ∨ (w.heap.size ≤ k ∧ k < w'.heap.size)) → Chg (own v) w w' → wpList P ops Q rest (a.put o.dst v') w') : wpList P ops Q (o :: rest) a w := by
  obtain ⟨v', w', hr, h2, h3, h4⟩ := run_append_row (P := P) w t o.type e z bytes ht hinfo hz1 v u xs ys h hu h1 hb hl
  exact Lib.wpList_append_run w hgd s x t t ho v u hs hx v' w' hr (hK v' w' h2 h3 h4)
end
end Go.Proofs.YtgnnjkmlnfdngaaDoor
