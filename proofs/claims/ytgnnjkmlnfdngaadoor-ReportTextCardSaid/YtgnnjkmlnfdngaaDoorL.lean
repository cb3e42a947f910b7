/- What cell, times and line of the reference return. Conditions: at most 1000 columns, widths of at most 1000 that no cell passes. -/
import Derived.Test.YtgnnjkmlnfdngaaDoorG
set_option linter.unusedVariables false
set_option linter.unusedSimpArgs false
namespace Go.Proofs.YtgnnjkmlnfdngaaDoor
open Go Go.RowKit

set_option maxHeartbeats 4000000 in
set_option maxRecDepth 100000 in
theorem cell26 (u : Value) (row : List (List UInt8)) (i : Nat) (w : World) (h : Sl w u (row.map tv)) :
    Calls Tryd.prog 26 #[u, .int .i64 i] w fun e w' => e = .returned (tv (cellL row i)) ∧ w = w' := by
  obtain ⟨a, n, c, rfl, hn⟩ := h.form'
  have hn2 : n = row.length := by have := hn.out; simpa using this
  clear hn
  by_cases hi : i < row.length
  · obtain ⟨g, o, rfl, hc, -⟩ := h.at (by simp; omega)
    have c1 : w.cell? ⟨g, o + i, none⟩ = some (tv (cellL row i)) := hc i _ (by simp [cellL, hi])
    obtain ⟨x, hx⟩ : ∃ x, cellL row i = x := ⟨_, rfl⟩
    rw [hx] at c1 ⊢
    have hx' := Hid.mk' hx
    have b1 : (i : Int) < (n : Int) := by omega
    have b2 : i < n := by omega
    clear h hc hx hi hn2
    unfold tv at c1 ⊢
    go_enter Tryd.func26, Tryd.ntmps26
    go_wp2
    go_ret
    exact ⟨rfl, rfl⟩
  · have hx : cellL row i = [] := by simp [cellL, List.getElem?_eq_none (by omega : row.length ≤ i)]
    rw [hx]
    have b1 : ¬ ((i : Int) < (n : Int)) := by omega
    clear h hi hn2 hx
    go_enter Tryd.func26, Tryd.ntmps26
    go_wp2
    go_ret
    exact ⟨rfl, rfl⟩

set_option maxHeartbeats 4000000 in
set_option maxRecDepth 100000 in
theorem times27 (c : UInt8) (n : Nat) (w : World) (hn : n ≤ 1000) :
    Calls Tryd.prog 27 #[.string ⟨#[c]⟩, .int .i64 n] w fun e w' => e = .returned (tv (List.replicate n c)) ∧ w = w' := by
  have hn' := Hid.mk' hn
  clear hn
  go_enter Tryd.func27, Tryd.ntmps27
  go_wp2_with fail
  go_loopg [5, 6] n (fun gq s5 s6 wr => ∃ i B, i + gq = n ∧ s5 = .string B ∧ Hid (B = bsOf (List.replicate i c)) ∧ s6 = .int .i64 (i : Int) ∧ wr = w)
  case atStart => exact ⟨0, _, by omega, rfl, Hid.mk' rfl, rfl, rfl⟩
  case round =>
    obtain ⟨i, B, hg, rfl, hB, rfl, rfl⟩ := hrel
    by_cases hi : i < n
    · have hnn := hn'.out
      have sz : B.size = i := by rw [hB.out, size_bsOf, List.length_replicate]
      have b0 : i + 1 ≤ 9223372036854775807 := by omega
      have b1 : (i : Int) < (n : Int) := by omega
      have n1 : IntKind.i64.wrap ((i : Int) + 1) = (i : Int) + 1 := by rw [IntKind.wrap_i64]; omega
      have hB2 : Hid (B ++ (⟨#[c]⟩ : ByteArray) = bsOf (List.replicate (i + 1) c)) := by
        show _ = _
        rw [hB.out, show (⟨#[c]⟩ : ByteArray) = bsOf [c] from rfl, bsOf_add, List.replicate_succ']
      clear hnn
      go_wp2_with fail
      go_roundg (n - (i + 1))
      case measure => omega
      case rel => exact ⟨i + 1, _, by omega, rfl, hB2, by simp, rfl⟩
    · obtain rfl : i = n := by omega
      have b1 : ¬ ((i : Int) < (i : Int)) := by omega
      clear hi
      go_wp2_with fail
      go_ret
      exact ⟨by unfold tv; rw [← hB.out]; rfl, rfl⟩
end Go.Proofs.YtgnnjkmlnfdngaaDoor
