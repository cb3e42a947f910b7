/- What Range and HasPrefix return; the law IndexNothing. Conditions of Range: a degree of at most 32, at most 1000000 keys. -/
import Derived.Test.YtamnmoejjjaegaaI
import Derived.Lib.SliceRun
set_option linter.unusedVariables false
set_option linter.unusedSimpArgs false
namespace Go.Proofs.Ytamnmoejjjaegaa
open Go Go.RowKit

theorem range_bare (v : Value) (k : ByteArray) (most : Int) (w : World) (h : Bare w v) : Calls Try.prog 18 #[v, .string k, .int .i64 most] w fun e w' => e = .returned (.slice none 0 0) ∧ w = w' := by
  have h' := Hid.mk' (next_bare v k true w h)
  clear h
  go_enter Try.func18, Try.ntmps18
  go_wp2_with (go_at_call 16; refine h'.out.mono ?_; rintro e w' ⟨rfl, rfl⟩)
  go_loopg [7, 10] 0 (fun gq s7 s10 wr => s7 = .slice none 0 0 ∧ s10 = .bool false ∧ wr = w)
  case atStart => exact ⟨rfl, rfl, rfl⟩
  case round =>
    obtain ⟨rfl, rfl, rfl⟩ := hrel
    go_wp2_with fail
    go_ret
    exact ⟨rfl, rfl⟩

set_option maxHeartbeats 4000000 in
set_option maxRecDepth 100000 in
theorem nothing7 (made : Bool) (kind : Int) (key : ByteArray) (val : Int) (eq : Bool) (w : World) :
    Calls Try.prog 7 #[.bool made, .agg #[.int .i64 kind, .string key, .int .i64 val, .bool eq]] w fun e w' => e = .returned (.bool true) ∧ Chg NoB w w' := by
  obtain ⟨W1, hW1⟩ : ∃ W1, W1 = w.alloc (.cells #[.int .i64 kind, .string key, .int .i64 val, .bool eq] 28) := ⟨_, rfl⟩
  have k1 : Chg NoB w W1 := by rw [hW1]; exact (Chg.refl _ _).alloc _
  have hb : W1.heap[w.heap.size]? = some (.cells #[.int .i64 kind, .string key, .int .i64 val, .bool eq] 28 (0, 0)) := by rw [hW1]; exact heap_alloc_new _ _
  obtain ⟨b, hbb⟩ : ∃ b, b = w.heap.size := ⟨_, rfl⟩
  rw [← hbb] at hb
  have e1 : W1.cell? ⟨b, 1, none⟩ = some (.string key) := by rw [cell_of_row W1 b 1 _ _ _ hb]; rfl
  have e2 : W1.cell? ⟨b, 2, none⟩ = some (.int .i64 val) := by rw [cell_of_row W1 b 2 _ _ _ hb]; rfl
  have e3 : W1.cell? ⟨b, 3, none⟩ = some (.bool eq) := by rw [cell_of_row W1 b 3 _ _ _ hb]; rfl
  have lv := Hid.mk' (lives8 W1)
  have k1' := Hid.mk' k1
  have hW' := Hid.mk' hW1
  have hbb' := Hid.mk' hbb
  clear hb hW1 hbb k1
  by_cases hbig : key.size ≤ 1024
  · have c1 : ¬ ((1024 : Int) < (key.size : Int)) := by omega
    have c1' : decide ((1024 : Int) < (key.size : Int)) = false := by simp; omega
    cases made
    · go_enter Try.func7, Try.ntmps7
      go_wp2_with fail
      rw [← hW'.out, ← hbb'.out]
      refine lv.out.mono ?_
      rintro e W2 ⟨rfl, k2⟩
      have d1 := k2.cell (fun h => h) e1
      have d2 := k2.cell (fun h => h) e2
      have d3 := k2.cell (fun h => h) e3
      have k2' := Hid.mk' k2
      have bare : Hid (Bare W2 (.pointer none)) := .inl rfl
      clear e1 e2 e3 lv k2
      go_wp2_with (first
        | (go_at_call 13; refine (put_bare _ _ _ _ bare.out).mono ?_; rintro e w' ⟨rfl, rfl⟩)
        | (go_at_call 21; refine (get_bare _ _ _ bare.out).mono ?_; rintro e w' ⟨rfl, rfl⟩)
        | (go_at_call 11; refine (del_bare _ _ _ bare.out).mono ?_; rintro e w' ⟨rfl, rfl⟩)
        | (go_at_call 16; refine (next_bare _ _ _ _ bare.out).mono ?_; rintro e w' ⟨rfl, rfl⟩)
        | (go_at_call 17; refine (len_bare _ _ bare.out).mono ?_; rintro e w' ⟨rfl, rfl⟩)
        | (go_at_call 18; refine (range_bare _ _ _ _ bare.out).mono ?_; rintro e w' ⟨rfl, rfl⟩)
        | (go_at_call 12; refine (clone_bare _ _ bare.out).mono ?_; rintro e w' ⟨rfl, rfl⟩)
        | (go_at_call 14; refine (check_bare _ _ bare.out).mono ?_; rintro e w' ⟨rfl, rfl⟩))
      go_ret
      exact ⟨rfl, k1'.out.trans k2'.out⟩
    · go_enter Try.func7, Try.ntmps7
      go_wp2_with fail
      rw [← hW'.out, ← hbb'.out]
      refine lv.out.mono ?_
      rintro e W2 ⟨rfl, k2⟩
      have d1 := k2.cell (fun h => h) e1
      have d2 := k2.cell (fun h => h) e2
      have d3 := k2.cell (fun h => h) e3
      have k2' := Hid.mk' k2
      clear e1 e2 e3 lv k2
      go_upto_region 8 with (fail)
      obtain ⟨W3, hW3⟩ : ∃ W3, W3 = W2.alloc (.cells #[.pointer none, .int .i64 0, .int .i64 0] 50) := ⟨_, rfl⟩
      rw [← hW3]
      obtain ⟨p, hp⟩ : ∃ p, p = W2.heap.size := ⟨_, rfl⟩
      rw [← hp]
      have k3 : Chg NoB W2 W3 := by rw [hW3]; exact (Chg.refl _ _).alloc _
      have bare : Hid (Bare W3 (.pointer (some ⟨p, 0, none⟩))) := .inr ⟨p, rfl, by rw [hW3, hp, cell_of_row _ _ 0 _ _ _ (heap_alloc_new W2 _)]; rfl⟩
      have f1 := k3.cell (fun h => h) d1
      have f2 := k3.cell (fun h => h) d2
      have f3 := k3.cell (fun h => h) d3
      have k3' := Hid.mk' k3
      clear d1 d2 d3 hW3 hp k3
      go_wp2_with (first
        | (go_at_call 13; refine (put_bare _ _ _ _ bare.out).mono ?_; rintro e w' ⟨rfl, rfl⟩)
        | (go_at_call 21; refine (get_bare _ _ _ bare.out).mono ?_; rintro e w' ⟨rfl, rfl⟩)
        | (go_at_call 11; refine (del_bare _ _ _ bare.out).mono ?_; rintro e w' ⟨rfl, rfl⟩)
        | (go_at_call 16; refine (next_bare _ _ _ _ bare.out).mono ?_; rintro e w' ⟨rfl, rfl⟩)
        | (go_at_call 17; refine (len_bare _ _ bare.out).mono ?_; rintro e w' ⟨rfl, rfl⟩)
        | (go_at_call 18; refine (range_bare _ _ _ _ bare.out).mono ?_; rintro e w' ⟨rfl, rfl⟩)
        | (go_at_call 12; refine (clone_bare _ _ bare.out).mono ?_; rintro e w' ⟨rfl, rfl⟩)
        | (go_at_call 14; refine (check_bare _ _ bare.out).mono ?_; rintro e w' ⟨rfl, rfl⟩))
      go_ret
      exact ⟨rfl, (k1'.out.trans k2'.out).trans k3'.out⟩
  · have c1 : (1024 : Int) < (key.size : Int) := by omega
    go_enter Try.func7, Try.ntmps7
    go_wp2_with fail
    rw [← hW'.out, ← hbb'.out]
    refine lv.out.mono ?_
    rintro e W2 ⟨rfl, k2⟩
    have d1 := k2.cell (fun h => h) e1
    have k2' := Hid.mk' k2
    clear e1 e2 e3 lv k2
    go_wp2_with fail
    go_ret
    exact ⟨rfl, k1'.out.trans k2'.out⟩
end Go.Proofs.Ytamnmoejjjaegaa
