/- append of a slice of rows; what the law ReportText reads. -/
import Derived.Test.YtgnnjkmlnfdngaaDoorAi
import Derived.Test.YtgnnjkmlnfdngaaDoorAe
import Derived.Deep.Upon
import Derived.Deep.AppendSrc
set_option linter.unusedVariables false
set_option linter.unusedSimpArgs false
namespace Go.Proofs.YtgnnjkmlnfdngaaDoor
open Go Go.RowKit Go.Sort

theorem run_append_rows (w : World) (v : Value) (n : Nat) (xs : List Value) (hown : w.ownsRow 0 22 1 v n xs) (u : Value) (ys : List Value) (hu : Sl w u ys) (h1 : ∀ y ∈ ys, y.oneCell' = true) (hn : n ≤ 1000) (hy : ys.length ≤ 1000) :
    ∃ v' w', (Builtin.append_ #[23, 23] 23 #[v, u]).run Tryd.prog w = .ok v' w' ∧ w'.ownsRow 0 22 1 v' (n + ys.length) (xs ++ ys) ∧ w.grownBy w' v.ownBlock := by
  obtain ⟨i22, hi22, hz0, hz1, hz2⟩ := info_parts info22
  have nothing : ∀ x, _root_.Go.Src Tryd.prog i22.size 23 x 0 [] w → (Builtin.append_ #[23, 23] 23 #[v, x]).run Tryd.prog w = .ok v w := fun x hx => by
    obtain ⟨_, ⟨rfl, rfl⟩ | ⟨g, cap, cur, rfl, _, _, hc, _⟩⟩ := hown
    · exact run_append_nothing w 23 23 23 22 i22 Tryd.underlying23 hi22 none 0 0 (Nat.le_refl _) x hx
    · exact run_append_nothing w 23 23 23 22 i22 Tryd.underlying23 hi22 _ _ _ hc x hx
  rcases hu with ⟨a, c, rfl, rfl⟩ | ⟨g, o, c, rfl, hl, hc⟩
  · refine ⟨v, w, nothing _ ?_, by simpa using hown, ⟨rfl, rfl, rfl, Nat.le_refl _, fun _ _ _ => rfl⟩⟩
    cases a with
    | none => exact _root_.Go.Src.ofNil w Tryd.underlying23 c
    | some a => exact _root_.Go.Src.ofSlice w Tryd.underlying23 a 0 c [] (by simp) (fun j u h => by simp at h) (fun u h => by cases h)
  · obtain ⟨v', w', hr, h2, h3, -⟩ := run_append_own (P := Tryd.prog) w 0 23 23 22 i22 (.slice none 0 0) 1 24 Tryd.underlying23 hi22 hz0 hz1 hz2 rfl (by omega) v n xs hown ⟨g, o, none⟩ ys.length c ys (by omega)
      (fun j y hj => by
        have e : (⟨g, o, none⟩ : Addr).add j = ⟨g, o + j, none⟩ := by simp only [Addr.add]; split <;> simp_all
        rw [e]; exact hc j y hj) h1 (by unfold maxLen; omega) (by omega) (Nat.zero_le _)
    exact ⟨v', w', hr, h2, h3⟩
/-- The slice [names, nil] and the rows behind it: its k-th element reads as the k-th row. -/
def AllAt (w : World) (v : Value) (names : List (List UInt8)) (rows : List (List (List UInt8))) : Prop :=
  ∃ g c, v = .slice (some ⟨g, 0, none⟩) (rows.length + 2) c ∧ ∀ (i : Nat) r, i ≠ 1 → (allC names rows)[i]? = some r → ∃ u, w.cell? ⟨g, i, none⟩ = some u ∧ Sl w u (r.map tv)
theorem AllAt.new {w w' : World} {v : Value} {names : List (List UInt8)} {rows : List (List (List UInt8))} (h : AllAt w v names rows) (k : Chg NoB w w') : AllAt w' v names rows := by
  obtain ⟨g, c, rfl, h⟩ := h
  refine ⟨g, c, rfl, fun i r hi hr => ?_⟩
  obtain ⟨u, a, b⟩ := h i r hi hr
  exact ⟨u, k.cell (fun h => h) a, b.new k⟩
theorem all_append (w : World) (nm u : Value) (names : List (List UInt8)) (rows : List (List (List UInt8))) (hn : Sl w nm (names.map tv)) (hu : Sl2 w u rows) (hr : rows.length ≤ 20) :
    ∃ v' w', (Builtin.append_ #[23, 23] 23 #[.slice (some ⟨w.heap.size, 0, none⟩) 2 2, u]).run Tryd.prog (w.alloc (.cells #[nm, .slice none 0 0] 22)) = .ok v' w' ∧ AllAt w' v' names rows ∧ Chg NoB w w' := by
  obtain ⟨us, h1, h2, h3⟩ := hu
  have k1 : Chg NoB w (w.alloc (.cells #[nm, .slice none 0 0] 22)) := (Chg.refl _ _).alloc _
  have hrow : Row (w.alloc (.cells #[nm, .slice none 0 0] 22)) 22 (.slice (some ⟨w.heap.size, 0, none⟩) 2 2) [nm, .slice none 0 0] := lit_row 22 [nm, .slice none 0 0] 2 rfl (by omega) (Chg.refl _ _)
  obtain ⟨v', w', hrun, ho, hg⟩ := run_append_rows _ _ 2 _ hrow.owns u us (h2.new k1) (fun y hy => by
    obtain ⟨k, hk, rfl⟩ := List.getElem_of_mem hy
    obtain ⟨a, n, c, hs, -⟩ := (h3 k us[k] (rows[k]'(by omega)) (List.getElem?_eq_getElem hk) (List.getElem?_eq_getElem (by omega))).form'
    rw [hs]; rfl) (by omega) (by omega)
  have kk : Chg NoB w w' := k1.trans' ((Chg.refl _ _).grown hg fun k hk => .inl hk) (S2 := own (.slice (some ⟨w.heap.size, 0, none⟩) 2 2)) fun k hk => .inr (by rw [own_slice] at hk; omega)
  refine ⟨v', w', hrun, ?_, kk⟩
  have hr2 : Row w' 22 v' ([nm, .slice none 0 0] ++ us) := Row.of_owns ho
  rcases hr2 with ⟨-, h⟩ | ⟨g, cap, cur, rfl, a1, a2, a3, a4, a5⟩
  · simp at h
  · refine ⟨g, cap, by simp; omega, fun i r hi hr => ?_⟩
    have cell : ∀ (x : Value), ([nm, .slice none 0 0] ++ us)[i]? = some x → w'.cell? ⟨g, i, none⟩ = some x := fun x hx => by
      rw [cell_of_row w' g i cur 22 (0, 0) a1]
      rw [← a5, List.getElem?_take] at hx
      split at hx
      · simpa using hx
      · cases hx
    match i, hi, hr with
    | 0, _, hr =>
      obtain rfl : names = r := by simpa [allC] using hr
      exact ⟨nm, cell _ rfl, hn.new kk⟩
    | i + 2, _, hr =>
      have hr3 : rows[i]? = some r := by simpa [allC] using hr
      have hi2 := (List.getElem?_eq_some_iff.1 hr3).1
      have hus : us[i]? = some (us[i]'(by omega)) := List.getElem?_eq_getElem (by omega)
      exact ⟨_, cell _ (by simp), (h3 i _ r hus hr3).new kk⟩
theorem good_len (names : List (List UInt8)) (l : List (List (List UInt8))) (h : GoodR names l) : l.flatten.length = l.length * names.length := by
  induction l with
  | nil => simp
  | cons r l ih =>
    rw [List.flatten_cons, List.length_append, (h r (List.mem_cons_self ..)).1, ih fun q hq => h q (List.mem_cons_of_mem _ hq), List.length_cons, Nat.succ_mul]; omega
theorem allC_len (names : List (List UInt8)) (rows : List (List (List UInt8))) : (allC names rows).length = rows.length + 2 := rfl
end Go.Proofs.YtgnnjkmlnfdngaaDoor
