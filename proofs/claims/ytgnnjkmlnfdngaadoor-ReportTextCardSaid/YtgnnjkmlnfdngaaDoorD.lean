/- What text of a sheet returns. Conditions: the sheet holds at least one byte. -/
import Derived.Test.YtgnnjkmlnfdngaaDoorC
import Derived.Lib.UnsafeStr
set_option linter.unusedVariables false
set_option linter.unusedSimpArgs false
namespace Go.Proofs.YtgnnjkmlnfdngaaDoor
open Go Go.RowKit

theorem Chg.freeze {S : Nat → Prop} {a b : World} (h : Chg S a b) (p : Addr) (hp : S p.block ∨ a.heap.size ≤ p.block) (n : Nat) : Chg S a (b.freeze p n) := by
  refine h.trans' (S2 := fun k => k = p.block) ?_ fun _ h => h ▸ hp
  unfold World.freeze
  split
  · exact Chg.refl _ b
  · exact ⟨rfl, rfl, rfl, by simp, fun k hk hn => by
      simp only [Array.getElem?_modify]
      rw [if_neg (by omega)]⟩

theorem cells5 : Tryd.prog.cellsOf 5 = 1 := by kernel_rfl

set_option maxHeartbeats 4000000 in
set_option maxRecDepth 100000 in
theorem string43 (g : Nat) (v : Value) (l : List UInt8) (w : World) (h : SheetAt w g v l) (h0 : l ≠ []) :
    Calls Tryd.prog 43 #[.pointer (some ⟨g, 0, none⟩)] w fun e w' => e = .returned (.string ⟨l.toArray⟩) ∧ Chg (own v) w w' := by
  obtain ⟨p, h1, h2, h3⟩ := h
  have hl0 : l.length ≠ 0 := by simpa using h0
  rcases h3 with ⟨_, hz⟩ | ⟨q, cap, cur, rfl, hq, hc, hm, hs, ht⟩
  · exact absurd (by simpa using hz) h0
  rw [List.length_map] at hc ht h1
  rw [List.length_map]
  have c1 : w.drew.cell? ⟨g, 1, none⟩ = some (.slice (some ⟨q, 0, none⟩) l.length cap) := by
    have : w.drew.heap[g]? = some (.cells #[p, .slice (some ⟨q, 0, none⟩) l.length cap] 55 (0, 0)) := h1
    rw [Lib.cell_of_heap this]; rfl
  have hSD : (Builtin.unsafeSliceData_ #[51] 90 #[.slice (some ⟨q, 0, none⟩) l.length cap]).run Tryd.prog w.drew = .ok (.pointer (some ⟨q, 0, none⟩)) w.drew :=
    Lib.run_unsafeSliceData_row _ _ _ _ _ _ (by omega)
  have hUS : (Builtin.unsafeString_ #[90, 3] 9 #[.pointer (some ⟨q, 0, none⟩), .int .i64 l.length]).run Tryd.prog w.drew = .ok (.string ⟨l.toArray⟩) (w.drew.freeze ⟨q, 0, none⟩ l.length) := by
    refine Lib.run_unsafeString_row w.drew 90 3 9 5 Tryd.underlying90 cells5 q cur.size (by have hg' : w.drew.heap[q]? = some (.cells cur 5 (0, 0)) := hq; simp [World.shape?, hg']) l h0 (by omega) (by unfold maxLen at hm; omega) ?_
    intro j x hx
    have hj : (l.map u8)[j]? = some (u8 x) := by simp [hx]
    have : w.drew.cell? ⟨q, j, none⟩ = some (u8 x) := by
      have hg' : w.drew.heap[q]? = some (.cells cur 5 (0, 0)) := hq
      rw [cell_of_row w.drew q j cur 5 (0, 0) hg']
      rw [← ht, List.getElem?_take] at hj
      split at hj
      · simpa using hj
      · cases hj
    have hA : (⟨q, 0, none⟩ : Addr).add j = ⟨q, j, none⟩ := by simp only [Addr.add]; split <;> simp_all
    rw [hA]; exact this
  clear h1 h2 hq hs ht
  go_enter Tryd.func43, Tryd.ntmps43
  go_wp2
  go_region
  all_goals (go_wp2; go_ret; refine ⟨rfl, ?_⟩; have kf := Chg.freeze (S := own (.slice (some ⟨q, 0, none⟩) l.length cap)) (Chg.drew (Chg.refl _ w)) ⟨q, 0, none⟩ (.inl (by rfl)) l.length; exact kf)

set_option maxHeartbeats 4000000 in
set_option maxRecDepth 100000 in
theorem text99 (g : Nat) (v : Value) (l : List UInt8) (w : World) (h : SheetAt w g v l) (h0 : l ≠ []) :
    Calls Tryd.prog 99 #[.pointer (some ⟨g, 0, none⟩)] w fun e w' => e = .returned (.string ⟨l.toArray⟩) ∧ Chg (own v) w w' := by
  have cs := Hid.mk' (string43 g v l w h h0)
  clear h h0
  go_enter Tryd.func99, Tryd.ntmps99
  go_wp2_with fail
  refine cs.out.mono ?_
  rintro e w' ⟨rfl, h⟩
  have h' := Hid.mk' h
  clear h cs
  go_wp2_with fail
  go_ret
  exact ⟨rfl, h'.out⟩
end Go.Proofs.YtgnnjkmlnfdngaaDoor
