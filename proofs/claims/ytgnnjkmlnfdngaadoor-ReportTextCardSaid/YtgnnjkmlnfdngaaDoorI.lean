/- What Table returns. Conditions: at most 12 columns and 30 rows, cells of at most 100 bytes. -/
import Derived.Test.YtgnnjkmlnfdngaaDoorH
set_option linter.unusedVariables false
set_option linter.unusedSimpArgs false
namespace Go.Proofs.YtgnnjkmlnfdngaaDoor
open Go Go.RowKit

def TableL (names : List (List UInt8)) (rows : List (List (List UInt8))) : List UInt8 := if names = [] then [] else tableL names rows
theorem method_text (a : Addr) (w : World) : (method 240 49 (.pointer (some a)) "tapearchive/report.text").run Tryd.prog w = .ok (99, .pointer (some a)) w := by kernel_rfl
theorem sheet_new (w : World) : SheetAt (w.alloc (.cells #[.pointer none, .slice none 0 0] 55)) w.heap.size (.slice none 0 0) [] :=
  ⟨.pointer none, heap_alloc_new w _, .inl rfl, Row.nil _ 5⟩
theorem PH.text {wr : World} {g : Nat} {v : Value} {t : List UInt8} {w : World} (h : PH wr g v t w) (h0 : t ≠ []) : Calls Tryd.prog 99 #[.pointer (some ⟨g, 0, none⟩)] w fun e w' => e = .returned (tv t) ∧ Chg (fun k => own v k ∨ wr.heap.size ≤ k) w w' := by
  obtain ⟨v', h1, h2, h3⟩ := h
  exact (text99 g v' t w h1 h0).mono fun e w' ⟨a, b⟩ => ⟨a, b.mono h2⟩

set_option maxHeartbeats 8000000 in
set_option maxRecDepth 100000 in
theorem Table10 (nmv rwv : Value) (names : List (List UInt8)) (rows : List (List (List UInt8))) (w : World) (hnm : Sl w nmv (names.map tv)) (hrw : Sl2 w rwv rows)
    (hn : names.length ≤ 12) (hr : rows.length ≤ 30) (hb : ∀ s ∈ names, s.length ≤ 100) (hc : ∀ r ∈ rows, ∀ s ∈ r, s.length ≤ 100) :
    Calls Tryd.prog 10 #[nmv, rwv] w fun e w' => e = .returned (tv (TableL names rows)) ∧ Chg NoB w w' := by
  obtain ⟨na, nn, nc, rfl, hnn⟩ := hnm.form'
  have hnn2 : nn = names.length := by have := hnn.out; simpa using this
  by_cases h0 : names = []
  · subst h0
    obtain rfl : nn = 0 := hnn2
    have hT : TableL [] rows = [] := rfl
    rw [hT]
    clear hnm hrw hn hr hb hc hnn hT
    go_enter Tryd.func10, Tryd.ntmps10
    go_wp2
    go_ret
    exact ⟨rfl, Chg.refl _ _⟩
  · obtain ⟨T, hT⟩ : ∃ T, tableL names rows = T := ⟨_, rfl⟩
    obtain ⟨w1, hw1⟩ : ∃ w1, w.alloc (.cells #[.pointer none, .slice none 0 0] 55) = w1 := ⟨_, rfl⟩
    have k1 : Chg NoB w w1 := by rw [← hw1]; exact (Chg.refl _ _).alloc _
    have c25 := table25 w.heap.size (.slice none 0 0) (.slice na nn nc) rwv [] names rows w w1 (by rw [← hw1]; exact sheet_new w) hnm hrw k1 (Nat.le_refl _) (fun k hk => (own_none 0 0 k hk).elim) hn hr hb hc (by simp)
    rw [List.nil_append, hT] at c25
    have hT0 : Hid (T ≠ []) := by
      show _ ≠ _
      rw [← hT]
      unfold tableL lineL
      intro h
      have := congrArg List.length h
      simp at this
    have hTT : Hid (TableL names rows = T) := by show _ = _; unfold TableL; rw [if_neg h0, hT]
    rw [hTT.out]
    have c25' := Hid.mk' c25
    have hw1' := Hid.mk' hw1
    have b1 : (nn == 0) = false := by
      rw [beq_eq_false_iff_ne]
      intro h
      exact h0 (List.eq_nil_of_length_eq_zero (by omega))
    have b2 : ((nn : Int) == 0) = false := by rw [beq_eq_false_iff_ne]; have := (beq_eq_false_iff_ne.1 b1); omega
    have b3 : ¬ nn = 0 := beq_eq_false_iff_ne.1 b1
    have nl := nil_line
    have ml := method_text
    obtain ⟨B, hB⟩ : ∃ B, bsOf T = B := ⟨_, rfl⟩
    have hB' := Hid.mk' hB
    have k1' := Hid.mk' k1
    clear hnm hrw hn hr hb hc hnn hnn2 hT k1 c25 h0 hw1 hB
    go_enter Tryd.func10, Tryd.ntmps10
    go_wp2_with (first
      | (go_at_call 25; rw [hw1'.out]; refine c25'.out.mono ?_; rintro e w2 ⟨rfl, h2, k2⟩; replace h2 := Hid.mk' h2; replace k2 := Hid.mk' k2)
      | (go_at_call 99; obtain ⟨v2, s2, ov2⟩ := h2.out; refine (text99 _ _ _ _ s2 hT0.out).mono ?_; rintro e w3 ⟨rfl, k3⟩; replace k3 := Hid.mk' k3))
    go_ret
    exact ⟨rfl, k2.out.trans' k3.out fun k hk => .inr (ov2 k hk)⟩
end Go.Proofs.YtgnnjkmlnfdngaaDoor
