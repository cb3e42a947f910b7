/- What the methods of a sheet (a strings.Builder in a struct of its own) do. No conditions beyond the lengths. -/
import Derived.Test.YtgnnjkmlnfdngaaDoorA1
import Derived.Test.YtgnnjkmlnfdngaaDoorSS
import Derived.Test.YtgnnjkmlnfdngaaDoorShelf
import Derived.Lib.AppendStr
import Derived.Room.AppendFits
import Derived.Test.YtgnnjkmlnfdngaaDoorProg
import Derived.Deep.LoopGhost
import Derived.Deep.QuietTactic
import Derived.BigQuiet
set_option linter.unusedVariables false
set_option linter.unusedSimpArgs false
namespace Go.Proofs.YtgnnjkmlnfdngaaDoor
open Go Go.RowKit

theorem sizeB : (Tryd.prog.info? 53).map (fun i => i.size) = some 2 := by kernel_rfl
theorem liesB : liesAt Tryd.prog Tryd.prog.depth 55 (2 / Tryd.prog.cellsOf 55) 0 53 1 = true := by kernel_rfl

set_option maxHeartbeats 1000000 in
set_option maxRecDepth 100000 in
theorem copy50_used (b : Nat) (w : World) (h0 : w.cell? ⟨b, 0, none⟩ = some (.pointer (some ⟨b, 0, none⟩))) :
    Calls Tryd.prog 50 #[.pointer (some ⟨b, 0, none⟩)] w fun e w' => e = .returned (.tuple #[]) ∧ w = w' := by
  obtain ⟨j, hj, _⟩ := Option.map_eq_some_iff.1 sizeB
  go_enter Tryd.func50, Tryd.ntmps50
  go_wp2
  rw [Lib.run_neq_ptr_same w _ Tryd.underlying50 hj]
  go_wp2
  go_end0
  exact ⟨rfl, rfl⟩
set_option maxHeartbeats 1000000 in
set_option maxRecDepth 100000 in
theorem copy50_fresh (b : Nat) (w : World) (h0 : w.cell? ⟨b, 0, none⟩ = some (.pointer none)) (hsh : w.shape? b = some (55, 2)) (hfz : w.frozen? ⟨b, 0, none⟩ = false) :
    Calls Tryd.prog 50 #[.pointer (some ⟨b, 0, none⟩)] w fun e w' => e = .returned (.tuple #[]) ∧ w.setCell ⟨b, 0, none⟩ (.pointer (some ⟨b, 0, none⟩)) = w' := by
  obtain ⟨j, hj, hjs⟩ := Option.map_eq_some_iff.1 sizeB
  go_enter Tryd.func50, Tryd.ntmps50
  go_wp2
  rw [Lib.run_to_unsafe w ⟨b, 0, none⟩ Tryd.underlying50 Tryd.underlying99 hj (by rw [hjs]; decide) hsh (Nat.zero_lt_succ 1)]
  simp only [Result.andThen]
  rw [Oper.upon_value]
  go_wp2
  rw [run_callFunc_extern Tryd.func57 (by kernel_rfl) (by kernel_rfl) (by kernel_rfl) (e := Extern.AbiNoEscape.same) (by kernel_rfl)]
  rw [Lib.run_noEscape]
  simp only [Result.andThen]
  rw [Oper.upon_value]
  go_wp2
  rw [Lib.run_from_unsafe w ⟨b, 0, none⟩ Tryd.underlying99 Tryd.underlying50 hj hsh liesB]
  simp only [Result.andThen]
  rw [Oper.upon_value]
  go_wp2
  go_end0
  exact ⟨rfl, rfl⟩

theorem info5 : (Tryd.prog.info? 5).map (fun i => (i.zero, i.size, i.bytes)) = some (some (.int .u8 0), 1, 1) := by kernel_rfl

section
variable {P : Program} (w : World)
theorem run_append_str (t u ty e : TypeId) (ht : P.underlying t = some (.slice e)) (hu : P.underlying u = some .string) (hinfo : (P.info? e).map (fun i => (i.zero, i.size, i.bytes)) = some (some (.int .u8 0), 1, 1))
    (v : Value) (s : ByteArray) (xs : List Value) (h : Row w e v xs) (hl : xs.length + s.size ≤ 1099511627776) :
    ∃ v' w', (Builtin.append_ #[t, u] ty #[v, .string s]).run P w = .ok v' w' ∧ Row w' e v' (xs ++ Lib.strCells s) ∧ (∀ k, own v' k → own v k ∨ (w.heap.size ≤ k ∧ k < w'.heap.size)) ∧ Chg (own v) w w' := by
  obtain ⟨i, hi, hz, hsize, hby⟩ := info_parts hinfo
  have hm : ∀ n, n ≤ 1099511627776 → n ≤ maxLen := fun n hn => by unfold maxLen; omega
  rcases h with ⟨rfl, rfl⟩ | ⟨g, cap, cur, rfl, h1', h2', h3', h4', h5'⟩
  · obtain ⟨v', w', hr, hown, hg, _⟩ := Lib.run_append_own_string (P := P) w w.heap.size t u ty e i ht hu hi hz hsize hby (.slice none 0 0) 0 [] (World.ownsRow_nil w _ e 1) s (by simpa using hm _ (by simpa using hl)) (by simp at hl; omega) (Nat.le_refl _)
    have hrow := Row.of_owns hown
    exact ⟨v', w', hr, by simpa using hrow, fun k hk => .inr ⟨(hown.lt k hk).1, hrow.lt hk⟩, (Chg.refl _ w).grown hg fun k hk => by simp [Value.ownBlock] at hk⟩
  · by_cases hroom : xs.length + s.size ≤ cap
    · have hr := Lib.run_append_room_string (P := P) w t u ty e i ht hu hi hsize g xs.length cap cur h1' s hroom (by omega)
      refine ⟨_, _, hr, .inr ⟨g, cap, _, by simp [Lib.strCells_length], setRow_heap w g cur _ e _ h1', by simpa [Lib.strCells_length] using hroom, h3', ?_, ?_⟩, fun k hk => .inl hk, ?_⟩
      · simp [Lib.strCells_length]; omega
      · rw [h5']
        show List.take _ (xs ++ Lib.strCells s ++ _) = _
        rw [List.take_append_of_le_length (by simp), List.take_of_length_le (by simp)]
      · exact (Chg.refl _ w).grown (b := w) (c := w.setRow g _) (row := some g) ⟨rfl, rfl, rfl, by simp, fun k _ hk => setRow_other w g k _ (fun e => hk (by rw [e]))⟩ fun k hk => .inl (by cases hk; exact (own_slice _ _ _ _ _ _).2 rfl)
    · have hr := Lib.run_append_grow_string (P := P) w t u ty e i (.int .u8 0) ht hu hi hz ⟨g, 0, none⟩ xs.length cap xs (by rw [hsize]; omega) (fun j y hy => by
        rw [Addr.add_lit, Nat.zero_add, cell_of_row w g j cur e (0, 0) h1']
        rw [← h5', List.getElem?_take] at hy
        split at hy
        · simpa using hy
        · cases hy) s (by omega) (by omega) (growslice_fits (by omega) (by rw [hby]; omega))
      have hge := grownCap_ge w (xs.length + s.size) cap e
      have hle := grownCap_le_maxLen w (xs.length + s.size) cap e (hm _ hl)
      refine ⟨_, _, hr, ?_, fun k hk => ?_, (((Chg.refl _ w).drew).alloc _)⟩
      · have := Row.made w.drew e (xs ++ Lib.strCells s) (grownCap w (xs.length + s.size) cap e) (Builtin.zeroCells (Value.int .u8 0).cells (grownCap w (xs.length + s.size) cap e - (xs.length + s.size))).toList
          (by simp [size_zeroCells, Value.cells, Lib.strCells_length]; omega) hle
        simp only [List.length_append, Lib.strCells_length] at this
        have e2 : (xs ++ Lib.strCells s ++ (Builtin.zeroCells (Value.int .u8 0).cells (grownCap w (xs.length + s.size) cap e - (xs.length + s.size))).toList).toArray = xs.toArray ++ (Lib.strCells s).toArray ++ Builtin.zeroCells (Value.int .u8 0).cells (grownCap w (xs.length + s.size) cap e - (xs.length + s.size)) := by
          apply Array.ext'; simp
        rw [e2] at this
        exact this
      · simp only [own, Value.ownBlock, Option.some.injEq] at hk
        subst hk
        exact .inr ⟨Nat.le_refl _, by simp⟩
theorem wpList_append_str {ops : Array Oper} {rest : List Oper} {o : Oper} {a : Act} {Q : Exit → Act → World → Prop} (hgd : o.guard = none) (s x : Operand) (t u e : TypeId)
    (ho : o.op = .call { callee := .builtin .append, args := #[s, x], argTypes := #[t, u] }) (ht : P.underlying t = some (.slice e)) (hu : P.underlying u = some .string) (hinfo : (P.info? e).map (fun i => (i.zero, i.size, i.bytes)) = some (some (.int .u8 0), 1, 1))
    (v : Value) (b : ByteArray) (xs : List Value) (hs : a.eval s = v) (hx : a.eval x = .string b) (h : Row w e v xs) (hl : xs.length + b.size ≤ 1099511627776)
    (hK : ∀ v' w', Row w' e v' (xs ++ Lib.strCells b) → (∀ k, own v' k → own v k ∨ (w.heap.size ≤ k ∧ k < w'.heap.size)) → Chg (own v) w w' → wpList P ops Q rest (a.put o.dst v') w') : wpList P ops Q (o :: rest) a w := by
  obtain ⟨v', w', hr, h2, h3, h4⟩ := run_append_str (P := P) w t u o.type e ht hu hinfo v b xs h hl
  exact Lib.wpList_append_run w hgd s x t u ho v (.string b) hs hx v' w' hr (hK v' w' h2 h3 h4)
end
end Go.Proofs.YtgnnjkmlnfdngaaDoor
