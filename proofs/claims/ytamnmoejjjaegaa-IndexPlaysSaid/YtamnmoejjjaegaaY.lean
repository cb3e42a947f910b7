/- Put, Delete, Check and Clone at a tree. Conditions: the form of a tree of a degree from 2 to 32, at most 1000000 keys. -/
import Derived.Test.YtamnmoejjjaegaaV
set_option linter.unusedVariables false
set_option linter.unusedSimpArgs false
namespace Go.Proofs.Ytamnmoejjjaegaa
open Go Go.RowKit Go.Proofs.YtamnmoejjjaegaaW.PrintLast

theorem put_bare (v : Value) (k : ByteArray) (x : Int) (w : World) (h : Bare w v) : Calls Try.prog 13 #[v, .string k, .int .i64 x] w fun e w' => e = .returned (.tuple #[.int .i64 0, .bool false]) ∧ w = w' := by
  have h' := Hid.mk' (none_bare v w h)
  clear h
  go_enter Try.func13, Try.ntmps13
  go_wp2_with (go_at_call 23; refine h'.out.mono ?_; rintro e w' ⟨rfl, rfl⟩)
  go_ret2
  exact ⟨rfl, rfl⟩
theorem del_bare (v : Value) (k : ByteArray) (w : World) (h : Bare w v) : Calls Try.prog 11 #[v, .string k] w fun e w' => e = .returned (.tuple #[.int .i64 0, .bool false]) ∧ w = w' := by
  have h' := Hid.mk' (none_bare v w h)
  clear h
  go_enter Try.func11, Try.ntmps11
  go_wp2_with (go_at_call 23; refine h'.out.mono ?_; rintro e w' ⟨rfl, rfl⟩)
  go_ret2
  exact ⟨rfl, rfl⟩
theorem clone_bare (v : Value) (w : World) (h : Bare w v) : Calls Try.prog 12 #[v] w fun e w' => e = .returned (.pointer none) ∧ w = w' := by
  have h' := Hid.mk' (none_bare v w h)
  clear h
  go_enter Try.func12, Try.ntmps12
  go_wp2_with (go_at_call 23; refine h'.out.mono ?_; rintro e w' ⟨rfl, rfl⟩)
  go_ret
  exact ⟨rfl, rfl⟩
theorem check_bare (v : Value) (w : World) (h : Bare w v) : Calls Try.prog 14 #[v] w fun e w' => e = .returned (.bool false) ∧ w = w' := by
  have h' := Hid.mk' (none_bare v w h)
  clear h
  go_enter Try.func14, Try.ntmps14
  go_wp2_with (go_at_call 23; refine h'.out.mono ?_; rintro e w' ⟨rfl, rfl⟩)
  go_ret
  exact ⟨rfl, rfl⟩

/-- What Put lays ahead of split: a new root over the old one. -/
def FullW (w : World) (p b d n r : Nat) (W : World) : Prop :=
  ∃ g, W.heap[p]? = some (.cells #[.pointer (some ⟨r, 0, none⟩), .int .i64 (d : Int), .int .i64 (n : Int)] 50 (0, 0)) ∧ Nd W r (.slice none 0 0) (.slice none 0 0) (.slice (some ⟨g, 0, none⟩) 1 1) [] [] [b] ∧ w.heap.size ≤ g ∧ w.heap.size ≤ r ∧ Chg (fun k => k = p) w W
theorem FullW.chg {w W W' : World} {p b d n r : Nat} (h : FullW w p b d n r W) (k : Chg NoB W W') : FullW w p b d n r W' := by
  obtain ⟨g, h1, h2, h3, h4, h5⟩ := h
  exact ⟨g, k.heap (fun h => h) h1, h2.chg k (fun _ _ h => h), h3, h4, h5.trans' k fun _ h => h.elim⟩
theorem FullW.mk {w w0 : World} {p b d n : Nat} (hb : w.heap[p]? = some (.cells #[.pointer (some ⟨b, 0, none⟩), .int .i64 (d : Int), .int .i64 (n : Int)] 50 (0, 0))) (k : Chg NoB w w0) :
    FullW w p b d n (w0.heap.size + 1) (((w0.alloc (.cells #[.pointer (some ⟨b, 0, none⟩)] 48)).alloc (.cells #[.slice none 0 0, .slice none 0 0, .slice (some ⟨w0.heap.size, 0, none⟩) 1 1] 54)).setCell ⟨p, 0, none⟩ (.pointer (some ⟨w0.heap.size + 1, 0, none⟩))) := by
  have hp : p < w.heap.size := (Array.getElem?_eq_some_iff.1 hb).1
  have ks := k.size
  obtain ⟨W1, hW1⟩ : ∃ W1, W1 = w0.alloc (.cells #[.pointer (some ⟨b, 0, none⟩)] 48) := ⟨_, rfl⟩
  rw [← hW1]
  have s1 : W1.heap.size = w0.heap.size + 1 := by rw [hW1]; simp
  have k1 : Chg NoB w0 W1 := by rw [hW1]; exact (Chg.refl _ _).alloc _
  have r1 : Row W1 48 (.slice (some ⟨w0.heap.size, 0, none⟩) 1 1) [pv b] := by rw [hW1]; exact Row.lit w0 48 (pv b)
  obtain ⟨W2, hW2⟩ : ∃ W2, W2 = W1.alloc (.cells #[.slice none 0 0, .slice none 0 0, .slice (some ⟨w0.heap.size, 0, none⟩) 1 1] 54) := ⟨_, rfl⟩
  rw [← hW2]
  have k2 : Chg NoB W1 W2 := by rw [hW2]; exact (Chg.refl _ _).alloc _
  have n2 : Nd W2 (w0.heap.size + 1) (.slice none 0 0) (.slice none 0 0) (.slice (some ⟨w0.heap.size, 0, none⟩) 1 1) [] [] [b] := by
    refine ⟨?_, Row.nil W2 9, Row.nil W2 3, r1.chg k2 fun _ _ h => h⟩
    have := heap_alloc_new W1 (.cells #[.slice none 0 0, .slice none 0 0, .slice (some ⟨w0.heap.size, 0, none⟩) 1 1] 54)
    rw [s1] at this
    rw [hW2]; exact this
  have k3 := (Chg.refl (fun k => k = p) W2).setCell ⟨p, 0, none⟩ (.inl rfl) (.pointer (some ⟨w0.heap.size + 1, 0, none⟩))
  have hb2 := ((k.trans k1).trans k2).heap (fun h => h) hb
  refine ⟨w0.heap.size, ?_, n2.chg k3 ?_, ks, by omega, (((k.trans k1).trans k2).mono fun _ h => h.elim).trans k3⟩
  · exact heap_setCell_at W2 p 0 _ _ _ _ hb2
  · rintro j (e | e | e | e) rfl
    · omega
    · exact own_none 0 0 _ e
    · exact own_none 0 0 _ e
    · rw [own_slice] at e; omega

set_option maxHeartbeats 8000000 in
set_option maxRecDepth 100000 in
theorem put13_small (p b d n : Nat) (ak : Option Addr) (nk ck : Nat) (k : ByteArray) (v o : Int) (f : Bool) (R : Nat → World → Prop) (w : World) (hb : w.heap[p]? = some (.cells #[.pointer (some ⟨b, 0, none⟩), .int .i64 (d : Int), .int .i64 (n : Int)] 50 (0, 0)))
    (hd : 2 ≤ d) (hd2 : d ≤ 32) (hn : n ≤ 2000000) (hbp : b ≠ p) (hq : w.cell? ⟨b, 0, none⟩ = some (.slice ak nk ck)) (hnk : nk + 1 < 2 * d)
    (hput : ∀ W, Chg NoB w W → Calls Try.prog 28 #[.pointer (some ⟨b, 0, none⟩), .string k, .int .i64 v, .int .i64 (d : Int)] W fun e w' => e = .returned (.tuple #[.int .i64 o, .bool f]) ∧ w'.heap[p]? = some (.cells #[.pointer (some ⟨b, 0, none⟩), .int .i64 (d : Int), .int .i64 (n : Int)] 50 (0, 0)) ∧ R b w')
 :
    Calls Try.prog 13 #[.pointer (some ⟨p, 0, none⟩), .string k, .int .i64 v] w fun e w' => e = .returned (.tuple #[.int .i64 o, .bool f]) ∧ ∃ r w1, R r w1 ∧ w1.heap[p]? = some (.cells #[.pointer (some ⟨r, 0, none⟩), .int .i64 (d : Int), .int .i64 (n : Int)] 50 (0, 0)) ∧ (f = true → w' = w1) ∧ (f = false → w' = w1.setCell ⟨p, 2, none⟩ (.int .i64 ((n : Int) + 1))) := by
  obtain ⟨c0, c1, c2, cf⟩ := blk_cells hb
  have h' := Hid.mk' (none_not p b w c0)
  have m2 : IntKind.i64.wrap (2 * (d : Int)) = 2 * (d : Int) := by rw [IntKind.wrap_i64]; omega
  have m3 : IntKind.i64.wrap (2 * (d : Int) - 1) = 2 * (d : Int) - 1 := by rw [IntKind.wrap_i64]; omega
  have m5 : IntKind.i64.wrap ((n : Int) + 1) = (n : Int) + 1 := by rw [IntKind.wrap_i64]; omega
  have m4 : ((nk : Int) == 2 * (d : Int) - 1) = false := by rw [beq_eq_false_iff_ne]; omega
  have hput' := Hid.mk' hput
  clear hput hnk hb
  cases f
  · go_enter Try.func13, Try.ntmps13
    go_upto_region 3 with (go_at_call 23; refine h'.out.mono ?_; rintro e w' ⟨rfl, rfl⟩)
    go_quiet (fail)
    go_upto_region 6 with (fail)
    obtain ⟨W, hW⟩ : ∃ W, W = w.drewN nq := ⟨_, rfl⟩
    rw [← hW]
    have kW : Hid (Chg NoB w W) := by show Chg _ _ _; rw [hW]; exact (Chg.refl _ _).drewN _
    have d0 := kW.out.cell (fun h => h) c0
    have d1 := kW.out.cell (fun h => h) c1
    clear hW c0 c1 c2 cf
    refine start_ (n := 16) (S := fun w' => w'.cell? ⟨p, 0, none⟩ = some (.pointer (some ⟨b, 0, none⟩)) ∧ w'.cell? ⟨p, 1, none⟩ = some (.int .i64 (d : Int))) (ds := []) #[false, false, false, false, false, false, false, false, false, false, false, false, false, false, false, false] (by kernel_rfl) rfl rfl ⟨d0, d1⟩ (fun hHeld => ?_)
    refine pure_ (i := 0) (N := some 47) (v := ?_) (a' := ?_) #[true, false, false, false, false, false, false, false, false, false, false, false, false, false, false, false] rfl rfl (by kernel_rfl) (fun _ _ _ h => h) (Or.inl ⟨by rfl, ?_⟩) ?_ ?_
    rotate_left
    · intro w'
      go_simp
      with_reducible rfl
    rotate_left
    · simp only [Act.put, List.setIfInBounds_toArray, List.set_cons_zero, List.set_cons_succ, i64_w, i32_w]
      rfl
    refine pure_ (i := 1) (N := some 48) (v := ?_) (a' := ?_) #[true, true, false, false, false, false, false, false, false, false, false, false, false, false, false, false] rfl rfl (by kernel_rfl) (fun _ _ _ h => h) (Or.inl ⟨by rfl, ?_⟩) ?_ ?_
    rotate_left
    · intro w'
      go_simp
      with_reducible rfl
    rotate_left
    · simp only [Act.put, List.setIfInBounds_toArray, List.set_cons_zero, List.set_cons_succ, i64_w, i32_w]
      rfl
    refine pure_ (i := 2) (N := some 49) (v := ?_) (a' := ?_) #[true, true, true, false, false, false, false, false, false, false, false, false, false, false, false, false] rfl rfl (by kernel_rfl) (fun _ _ _ h => h) (Or.inl ⟨by rfl, ?_⟩) ?_ ?_
    rotate_left
    · intro w'
      go_simp
      with_reducible rfl
    rotate_left
    · simp only [Act.put, List.setIfInBounds_toArray, List.set_cons_zero, List.set_cons_succ, i64_w, i32_w]
      rfl
    refine pure_ (i := 4) (N := some 51) (v := ?_) (a' := ?_) #[true, true, true, false, true, false, false, false, false, false, false, false, false, false, false, false] rfl rfl (by kernel_rfl) (fun _ _ _ h => h) (Or.inl ⟨by rfl, ?_⟩) ?_ ?_
    rotate_left
    · intro w'
      go_simp
      with_reducible rfl
    rotate_left
    · simp only [Act.put, List.setIfInBounds_toArray, List.set_cons_zero, List.set_cons_succ, i64_w, i32_w]
      rfl
    refine pure_ (i := 5) (N := some 52) (v := ?_) (a' := ?_) #[true, true, true, false, true, true, false, false, false, false, false, false, false, false, false, false] rfl rfl (by kernel_rfl) (fun _ _ _ h => h) (Or.inl ⟨by rfl, ?_⟩) ?_ ?_
    rotate_left
    · intro w'
      go_simp
      with_reducible rfl
    rotate_left
    · simp only [Act.put, List.setIfInBounds_toArray, List.set_cons_zero, List.set_cons_succ, i64_w, i32_w]
      rfl
    refine pure_ (i := 6) (N := some 53) (v := ?_) (a' := ?_) #[true, true, true, false, true, true, true, false, false, false, false, false, false, false, false, false] rfl rfl (by kernel_rfl) (fun _ _ _ h => h) (Or.inl ⟨by rfl, ?_⟩) ?_ ?_
    rotate_left
    · intro w'
      go_simp
      with_reducible rfl
    rotate_left
    · simp only [Act.put, List.setIfInBounds_toArray, List.set_cons_zero, List.set_cons_succ, i64_w, i32_w]
      rfl
    refine pure_ (i := 7) (N := some 54) (v := ?_) (a' := ?_) #[true, true, true, false, true, true, true, true, false, false, false, false, false, false, false, false] rfl rfl (by kernel_rfl) (fun _ _ _ h => h) (Or.inl ⟨by rfl, ?_⟩) ?_ ?_
    rotate_left
    · intro w'
      go_simp
      with_reducible rfl
    rotate_left
    · simp only [Act.put, List.setIfInBounds_toArray, List.set_cons_zero, List.set_cons_succ, i64_w, i32_w]
      rfl
    refine pure_ (i := 8) (N := some 55) (v := ?_) (a' := ?_) #[true, true, true, false, true, true, true, true, true, false, false, false, false, false, false, false] rfl rfl (by kernel_rfl) (fun _ _ _ h => h) (Or.inl ⟨by rfl, ?_⟩) ?_ ?_
    rotate_left
    · intro w'
      go_simp
      with_reducible rfl
    rotate_left
    · simp only [Act.put, List.setIfInBounds_toArray, List.set_cons_zero, List.set_cons_succ, i64_w, i32_w]
      rfl
    refine take_ (i := 3) (N := some 50) (v := ?_) (a' := ?_) #[true, true, true, true, true, true, true, true, true, false, false, false, false, false, false, false] rfl rfl (by kernel_rfl) (fun _ _ _ h => h) (Or.inl ⟨by rfl, ?_⟩) hHeld ?_ ?_
    rotate_left
    · rintro w' ⟨s0, s1⟩
      go_simp
      with_reducible rfl
    rotate_left
    · simp only [Act.put, List.setIfInBounds_toArray, List.set_cons_zero, List.set_cons_succ, i64_w, i32_w]
      rfl
    refine take_ (i := 9) (N := some 56) (v := ?_) (a' := ?_) #[true, true, true, true, true, true, true, true, true, true, false, false, false, false, false, false] rfl rfl (by kernel_rfl) (fun _ _ _ h => h) (Or.inl ⟨by rfl, ?_⟩) hHeld ?_ ?_
    rotate_left
    · rintro w' ⟨s0, s1⟩
      go_simp
      with_reducible rfl
    rotate_left
    · simp only [Act.put, List.setIfInBounds_toArray, List.set_cons_zero, List.set_cons_succ, i64_w, i32_w]
      rfl
    refine one_ (i := 10) (N := some 57) #[true, true, true, true, true, true, true, true, true, true, true, false, false, false, false, false] rfl rfl (by kernel_rfl) (by decide) (fun K hK => ?_)
    refine goes_ Try.func28 (by kernel_rfl) rfl #[.pointer (some ⟨b, 0, none⟩), .string k, .int .i64 v, .int .i64 (d : Int)] (by rfl) rfl rfl (by simp only [List.map_toArray, List.map_cons, List.map_nil]; rfl) ?_
    with_reducible refine (hput'.out _ (by first | exact kW.out | exact kW.out.drew)).mono ?_
    rintro e w7 ⟨rfl, b7, q7⟩
    refine ⟨_, rfl, ?_⟩
    obtain ⟨d0', d1', d2', df'⟩ := blk_cells b7
    refine hK.out _ _ ⟨d0', d1'⟩ (fun hHeld => ?_)
    clear hK K
    refine norm_ (a' := ?_) ?_ ?_
    rotate_left
    · show Act.put _ (some 57) _ = _
      simp only [Act.put, List.setIfInBounds_toArray, List.set_cons_zero, List.set_cons_succ, i64_w, i32_w]
      rfl
    refine pure_ (i := 11) (N := some 46) (v := ?_) (a' := ?_) #[true, true, true, true, true, true, true, true, true, true, true, true, false, false, false, false] rfl rfl (by kernel_rfl) (fun _ _ _ h => h) (Or.inl ⟨by rfl, ?_⟩) ?_ ?_
    rotate_left
    · intro w'
      go_simp
      with_reducible rfl
    rotate_left
    · simp only [Act.put, List.setIfInBounds_toArray, List.set_cons_zero, List.set_cons_succ, i64_w, i32_w]
      rfl
    refine pure_ (i := 12) (N := some 58) (v := ?_) (a' := ?_) #[true, true, true, true, true, true, true, true, true, true, true, true, true, false, false, false] rfl rfl (by kernel_rfl) (fun _ _ _ h => h) (Or.inl ⟨by rfl, ?_⟩) ?_ ?_
    rotate_left
    · intro w'
      go_simp
      with_reducible rfl
    rotate_left
    · simp only [Act.put, List.setIfInBounds_toArray, List.set_cons_zero, List.set_cons_succ, i64_w, i32_w]
      rfl
    refine pure_ (i := 13) (N := some 59) (v := ?_) (a' := ?_) #[true, true, true, true, true, true, true, true, true, true, true, true, true, true, false, false] rfl rfl (by kernel_rfl) (fun _ _ _ h => h) (Or.inl ⟨by rfl, ?_⟩) ?_ ?_
    rotate_left
    · intro w'
      go_simp
      with_reducible rfl
    rotate_left
    · simp only [Act.put, List.setIfInBounds_toArray, List.set_cons_zero, List.set_cons_succ, i64_w, i32_w]
      rfl
    refine pure_ (i := 14) (N := some 8) (v := ?_) (a' := ?_) #[true, true, true, true, true, true, true, true, true, true, true, true, true, true, true, false] rfl rfl (by kernel_rfl) (fun _ _ _ h => h) (Or.inl ⟨by rfl, ?_⟩) ?_ ?_
    rotate_left
    · intro w'
      go_simp
      with_reducible rfl
    rotate_left
    · simp only [Act.put, List.setIfInBounds_toArray, List.set_cons_zero, List.set_cons_succ, i64_w, i32_w]
      rfl
    refine pure_ (i := 15) (N := some 9) (v := ?_) (a' := ?_) #[true, true, true, true, true, true, true, true, true, true, true, true, true, true, true, true] rfl rfl (by kernel_rfl) (fun _ _ _ h => h) (Or.inl ⟨by rfl, ?_⟩) ?_ ?_
    rotate_left
    · intro w'
      go_simp
      with_reducible rfl
    rotate_left
    · simp only [Act.put, List.setIfInBounds_toArray, List.set_cons_zero, List.set_cons_succ, i64_w, i32_w]
      rfl
    refine done_ (by kernel_rfl) ?_
    go_wp2_with fail
    go_ret2
    exact ⟨rfl, b, w7, q7, b7, by simp, by simp⟩
  · go_enter Try.func13, Try.ntmps13
    go_upto_region 3 with (go_at_call 23; refine h'.out.mono ?_; rintro e w' ⟨rfl, rfl⟩)
    go_quiet (fail)
    go_upto_region 6 with (fail)
    obtain ⟨W, hW⟩ : ∃ W, W = w.drewN nq := ⟨_, rfl⟩
    rw [← hW]
    have kW : Hid (Chg NoB w W) := by show Chg _ _ _; rw [hW]; exact (Chg.refl _ _).drewN _
    have d0 := kW.out.cell (fun h => h) c0
    have d1 := kW.out.cell (fun h => h) c1
    clear hW c0 c1 c2 cf
    refine start_ (n := 16) (S := fun w' => w'.cell? ⟨p, 0, none⟩ = some (.pointer (some ⟨b, 0, none⟩)) ∧ w'.cell? ⟨p, 1, none⟩ = some (.int .i64 (d : Int))) (ds := []) #[false, false, false, false, false, false, false, false, false, false, false, false, false, false, false, false] (by kernel_rfl) rfl rfl ⟨d0, d1⟩ (fun hHeld => ?_)
    refine pure_ (i := 0) (N := some 47) (v := ?_) (a' := ?_) #[true, false, false, false, false, false, false, false, false, false, false, false, false, false, false, false] rfl rfl (by kernel_rfl) (fun _ _ _ h => h) (Or.inl ⟨by rfl, ?_⟩) ?_ ?_
    rotate_left
    · intro w'
      go_simp
      with_reducible rfl
    rotate_left
    · simp only [Act.put, List.setIfInBounds_toArray, List.set_cons_zero, List.set_cons_succ, i64_w, i32_w]
      rfl
    refine pure_ (i := 1) (N := some 48) (v := ?_) (a' := ?_) #[true, true, false, false, false, false, false, false, false, false, false, false, false, false, false, false] rfl rfl (by kernel_rfl) (fun _ _ _ h => h) (Or.inl ⟨by rfl, ?_⟩) ?_ ?_
    rotate_left
    · intro w'
      go_simp
      with_reducible rfl
    rotate_left
    · simp only [Act.put, List.setIfInBounds_toArray, List.set_cons_zero, List.set_cons_succ, i64_w, i32_w]
      rfl
    refine pure_ (i := 2) (N := some 49) (v := ?_) (a' := ?_) #[true, true, true, false, false, false, false, false, false, false, false, false, false, false, false, false] rfl rfl (by kernel_rfl) (fun _ _ _ h => h) (Or.inl ⟨by rfl, ?_⟩) ?_ ?_
    rotate_left
    · intro w'
      go_simp
      with_reducible rfl
    rotate_left
    · simp only [Act.put, List.setIfInBounds_toArray, List.set_cons_zero, List.set_cons_succ, i64_w, i32_w]
      rfl
    refine pure_ (i := 4) (N := some 51) (v := ?_) (a' := ?_) #[true, true, true, false, true, false, false, false, false, false, false, false, false, false, false, false] rfl rfl (by kernel_rfl) (fun _ _ _ h => h) (Or.inl ⟨by rfl, ?_⟩) ?_ ?_
    rotate_left
    · intro w'
      go_simp
      with_reducible rfl
    rotate_left
    · simp only [Act.put, List.setIfInBounds_toArray, List.set_cons_zero, List.set_cons_succ, i64_w, i32_w]
      rfl
    refine pure_ (i := 5) (N := some 52) (v := ?_) (a' := ?_) #[true, true, true, false, true, true, false, false, false, false, false, false, false, false, false, false] rfl rfl (by kernel_rfl) (fun _ _ _ h => h) (Or.inl ⟨by rfl, ?_⟩) ?_ ?_
    rotate_left
    · intro w'
      go_simp
      with_reducible rfl
    rotate_left
    · simp only [Act.put, List.setIfInBounds_toArray, List.set_cons_zero, List.set_cons_succ, i64_w, i32_w]
      rfl
    refine pure_ (i := 6) (N := some 53) (v := ?_) (a' := ?_) #[true, true, true, false, true, true, true, false, false, false, false, false, false, false, false, false] rfl rfl (by kernel_rfl) (fun _ _ _ h => h) (Or.inl ⟨by rfl, ?_⟩) ?_ ?_
    rotate_left
    · intro w'
      go_simp
      with_reducible rfl
    rotate_left
    · simp only [Act.put, List.setIfInBounds_toArray, List.set_cons_zero, List.set_cons_succ, i64_w, i32_w]
      rfl
    refine pure_ (i := 7) (N := some 54) (v := ?_) (a' := ?_) #[true, true, true, false, true, true, true, true, false, false, false, false, false, false, false, false] rfl rfl (by kernel_rfl) (fun _ _ _ h => h) (Or.inl ⟨by rfl, ?_⟩) ?_ ?_
    rotate_left
    · intro w'
      go_simp
      with_reducible rfl
    rotate_left
    · simp only [Act.put, List.setIfInBounds_toArray, List.set_cons_zero, List.set_cons_succ, i64_w, i32_w]
      rfl
    refine pure_ (i := 8) (N := some 55) (v := ?_) (a' := ?_) #[true, true, true, false, true, true, true, true, true, false, false, false, false, false, false, false] rfl rfl (by kernel_rfl) (fun _ _ _ h => h) (Or.inl ⟨by rfl, ?_⟩) ?_ ?_
    rotate_left
    · intro w'
      go_simp
      with_reducible rfl
    rotate_left
    · simp only [Act.put, List.setIfInBounds_toArray, List.set_cons_zero, List.set_cons_succ, i64_w, i32_w]
      rfl
    refine take_ (i := 3) (N := some 50) (v := ?_) (a' := ?_) #[true, true, true, true, true, true, true, true, true, false, false, false, false, false, false, false] rfl rfl (by kernel_rfl) (fun _ _ _ h => h) (Or.inl ⟨by rfl, ?_⟩) hHeld ?_ ?_
    rotate_left
    · rintro w' ⟨s0, s1⟩
      go_simp
      with_reducible rfl
    rotate_left
    · simp only [Act.put, List.setIfInBounds_toArray, List.set_cons_zero, List.set_cons_succ, i64_w, i32_w]
      rfl
    refine take_ (i := 9) (N := some 56) (v := ?_) (a' := ?_) #[true, true, true, true, true, true, true, true, true, true, false, false, false, false, false, false] rfl rfl (by kernel_rfl) (fun _ _ _ h => h) (Or.inl ⟨by rfl, ?_⟩) hHeld ?_ ?_
    rotate_left
    · rintro w' ⟨s0, s1⟩
      go_simp
      with_reducible rfl
    rotate_left
    · simp only [Act.put, List.setIfInBounds_toArray, List.set_cons_zero, List.set_cons_succ, i64_w, i32_w]
      rfl
    refine one_ (i := 10) (N := some 57) #[true, true, true, true, true, true, true, true, true, true, true, false, false, false, false, false] rfl rfl (by kernel_rfl) (by decide) (fun K hK => ?_)
    refine goes_ Try.func28 (by kernel_rfl) rfl #[.pointer (some ⟨b, 0, none⟩), .string k, .int .i64 v, .int .i64 (d : Int)] (by rfl) rfl rfl (by simp only [List.map_toArray, List.map_cons, List.map_nil]; rfl) ?_
    with_reducible refine (hput'.out _ (by first | exact kW.out | exact kW.out.drew)).mono ?_
    rintro e w7 ⟨rfl, b7, q7⟩
    refine ⟨_, rfl, ?_⟩
    obtain ⟨d0', d1', d2', df'⟩ := blk_cells b7
    refine hK.out _ _ ⟨d0', d1'⟩ (fun hHeld => ?_)
    clear hK K
    refine norm_ (a' := ?_) ?_ ?_
    rotate_left
    · show Act.put _ (some 57) _ = _
      simp only [Act.put, List.setIfInBounds_toArray, List.set_cons_zero, List.set_cons_succ, i64_w, i32_w]
      rfl
    refine pure_ (i := 11) (N := some 46) (v := ?_) (a' := ?_) #[true, true, true, true, true, true, true, true, true, true, true, true, false, false, false, false] rfl rfl (by kernel_rfl) (fun _ _ _ h => h) (Or.inl ⟨by rfl, ?_⟩) ?_ ?_
    rotate_left
    · intro w'
      go_simp
      with_reducible rfl
    rotate_left
    · simp only [Act.put, List.setIfInBounds_toArray, List.set_cons_zero, List.set_cons_succ, i64_w, i32_w]
      rfl
    refine pure_ (i := 12) (N := some 58) (v := ?_) (a' := ?_) #[true, true, true, true, true, true, true, true, true, true, true, true, true, false, false, false] rfl rfl (by kernel_rfl) (fun _ _ _ h => h) (Or.inl ⟨by rfl, ?_⟩) ?_ ?_
    rotate_left
    · intro w'
      go_simp
      with_reducible rfl
    rotate_left
    · simp only [Act.put, List.setIfInBounds_toArray, List.set_cons_zero, List.set_cons_succ, i64_w, i32_w]
      rfl
    refine pure_ (i := 13) (N := some 59) (v := ?_) (a' := ?_) #[true, true, true, true, true, true, true, true, true, true, true, true, true, true, false, false] rfl rfl (by kernel_rfl) (fun _ _ _ h => h) (Or.inl ⟨by rfl, ?_⟩) ?_ ?_
    rotate_left
    · intro w'
      go_simp
      with_reducible rfl
    rotate_left
    · simp only [Act.put, List.setIfInBounds_toArray, List.set_cons_zero, List.set_cons_succ, i64_w, i32_w]
      rfl
    refine pure_ (i := 14) (N := some 8) (v := ?_) (a' := ?_) #[true, true, true, true, true, true, true, true, true, true, true, true, true, true, true, false] rfl rfl (by kernel_rfl) (fun _ _ _ h => h) (Or.inl ⟨by rfl, ?_⟩) ?_ ?_
    rotate_left
    · intro w'
      go_simp
      with_reducible rfl
    rotate_left
    · simp only [Act.put, List.setIfInBounds_toArray, List.set_cons_zero, List.set_cons_succ, i64_w, i32_w]
      rfl
    refine pure_ (i := 15) (N := some 9) (v := ?_) (a' := ?_) #[true, true, true, true, true, true, true, true, true, true, true, true, true, true, true, true] rfl rfl (by kernel_rfl) (fun _ _ _ h => h) (Or.inl ⟨by rfl, ?_⟩) ?_ ?_
    rotate_left
    · intro w'
      go_simp
      with_reducible rfl
    rotate_left
    · simp only [Act.put, List.setIfInBounds_toArray, List.set_cons_zero, List.set_cons_succ, i64_w, i32_w]
      rfl
    refine done_ (by kernel_rfl) ?_
    go_wp2_with fail
    go_ret2
    exact ⟨rfl, b, w7, q7, b7, by simp, by simp⟩

set_option maxHeartbeats 8000000 in
set_option maxRecDepth 100000 in
theorem put13_full (p b d n : Nat) (ak : Option Addr) (nk ck : Nat) (k : ByteArray) (v o : Int) (f : Bool) (R : Nat → World → Prop) (w : World) (hb : w.heap[p]? = some (.cells #[.pointer (some ⟨b, 0, none⟩), .int .i64 (d : Int), .int .i64 (n : Int)] 50 (0, 0)))
    (hd : 2 ≤ d) (hd2 : d ≤ 32) (hn : n ≤ 2000000) (hbp : b ≠ p) (hq : w.cell? ⟨b, 0, none⟩ = some (.slice ak nk ck)) (hnk : nk + 1 = 2 * d)
    (Q1 : Nat → World → Prop)
    (hsplit : ∀ r W, FullW w p b d n r W → Calls Try.prog 27 #[.pointer (some ⟨r, 0, none⟩), .int .i64 0, .int .i64 (d : Int)] W fun e w' => e = .returned (.tuple #[]) ∧ w'.heap[p]? = some (.cells #[.pointer (some ⟨r, 0, none⟩), .int .i64 (d : Int), .int .i64 (n : Int)] 50 (0, 0)) ∧ Q1 r w')
    (hQ : ∀ r W, Q1 r W → Q1 r W.drew)
    (hput : ∀ r W, Q1 r W → Calls Try.prog 28 #[.pointer (some ⟨r, 0, none⟩), .string k, .int .i64 v, .int .i64 (d : Int)] W fun e w' => e = .returned (.tuple #[.int .i64 o, .bool f]) ∧ w'.heap[p]? = some (.cells #[.pointer (some ⟨r, 0, none⟩), .int .i64 (d : Int), .int .i64 (n : Int)] 50 (0, 0)) ∧ R r w')
 :
    Calls Try.prog 13 #[.pointer (some ⟨p, 0, none⟩), .string k, .int .i64 v] w fun e w' => e = .returned (.tuple #[.int .i64 o, .bool f]) ∧ ∃ r w1, R r w1 ∧ w1.heap[p]? = some (.cells #[.pointer (some ⟨r, 0, none⟩), .int .i64 (d : Int), .int .i64 (n : Int)] 50 (0, 0)) ∧ (f = true → w' = w1) ∧ (f = false → w' = w1.setCell ⟨p, 2, none⟩ (.int .i64 ((n : Int) + 1))) := by
  obtain ⟨c0, c1, c2, cf⟩ := blk_cells hb
  have h' := Hid.mk' (none_not p b w c0)
  have m2 : IntKind.i64.wrap (2 * (d : Int)) = 2 * (d : Int) := by rw [IntKind.wrap_i64]; omega
  have m3 : IntKind.i64.wrap (2 * (d : Int) - 1) = 2 * (d : Int) - 1 := by rw [IntKind.wrap_i64]; omega
  have m5 : IntKind.i64.wrap ((n : Int) + 1) = (n : Int) + 1 := by rw [IntKind.wrap_i64]; omega
  have m4 : ((nk : Int) == 2 * (d : Int) - 1) = true := by simp; omega
  have hput' := Hid.mk' hput
  have hsplit' := Hid.mk' hsplit
  have hb' := Hid.mk' hb
  clear hput hnk hsplit hb
  cases f
  · go_enter Try.func13, Try.ntmps13
    go_upto_region 3 with (go_at_call 23; refine h'.out.mono ?_; rintro e w' ⟨rfl, rfl⟩)
    go_quiet (fail)
    have k2 : Chg NoB w (((w.drewN nq).alloc (.cells #[.pointer (some ⟨b, 0, none⟩)] 48)).alloc (.cells #[.slice none 0 0, .slice none 0 0, .slice (some ⟨w.heap.size, 0, none⟩) 1 1] 54)) := (((Chg.refl _ _).drewN nq).alloc _).alloc _
    have f2 : (((w.drewN nq).alloc (.cells #[.pointer (some ⟨b, 0, none⟩)] 48)).alloc (.cells #[.slice none 0 0, .slice none 0 0, .slice (some ⟨w.heap.size, 0, none⟩) 1 1] 54)).frozen? ⟨p, 0, none⟩ = false := frozen_of_row _ p 0 _ _ (k2.heap (fun h => h) hb'.out)
    have e2 : (((w.drewN nq).alloc (.cells #[.pointer (some ⟨b, 0, none⟩)] 48)).alloc (.cells #[.slice none 0 0, .slice none 0 0, .slice (some ⟨w.heap.size, 0, none⟩) 1 1] 54)).cell? ⟨p, 0, none⟩ = some (.pointer (some ⟨b, 0, none⟩)) := k2.cell (fun h => h) c0
    have hF : FullW w p b d n (w.heap.size + 1) ((((w.drewN nq).alloc (.cells #[.pointer (some ⟨b, 0, none⟩)] 48)).alloc (.cells #[.slice none 0 0, .slice none 0 0, .slice (some ⟨w.heap.size, 0, none⟩) 1 1] 54)).setCell ⟨p, 0, none⟩ (.pointer (some ⟨w.heap.size + 1, 0, none⟩))) := FullW.mk hb'.out ((Chg.refl _ _).drewN nq)
    replace hF := Hid.mk' hF
    clear k2
    go_upto_region 5 with (fail)
    obtain ⟨W, hW⟩ : ∃ W, W = (((w.drewN nq).alloc (.cells #[.pointer (some ⟨b, 0, none⟩)] 48)).alloc (.cells #[.slice none 0 0, .slice none 0 0, .slice (some ⟨w.heap.size, 0, none⟩) 1 1] 54)).setCell ⟨p, 0, none⟩ (.pointer (some ⟨w.heap.size + 1, 0, none⟩)) := ⟨_, rfl⟩
    obtain ⟨r, hr⟩ : ∃ r, r = w.heap.size + 1 := ⟨_, rfl⟩
    rw [← hW]
    rw [← hr]
    replace hF : Hid (FullW w p b d n r W) := by rw [hW, hr]; exact hF
    have hFD : Hid (FullW w p b d n r W.drew) := hF.out.chg (Chg.refl NoB W).drew
    obtain ⟨d0, d1, d2, df⟩ := blk_cells (show W.heap[p]? = some (.cells #[.pointer (some ⟨r, 0, none⟩), .int .i64 (d : Int), .int .i64 (n : Int)] 50 (0, 0)) from by obtain ⟨g, h, -⟩ := hF.out; exact h)
    clear hW hr f2 e2 c0 c1 c2 cf
    refine start_ (n := 9) (S := fun w' => w'.cell? ⟨p, 0, none⟩ = some (.pointer (some ⟨r, 0, none⟩)) ∧ w'.cell? ⟨p, 1, none⟩ = some (.int .i64 (d : Int))) (ds := []) #[false, false, false, false, false, false, false, false, false] (by kernel_rfl) rfl rfl ⟨d0, d1⟩ (fun hHeld => ?_)
    refine pure_ (i := 0) (N := some 37) (v := ?_) (a' := ?_) #[true, false, false, false, false, false, false, false, false] rfl rfl (by kernel_rfl) (fun _ _ _ h => h) (Or.inl ⟨by rfl, ?_⟩) ?_ ?_
    rotate_left
    · intro w'
      go_simp
      with_reducible rfl
    rotate_left
    · simp only [Act.put, List.setIfInBounds_toArray, List.set_cons_zero, List.set_cons_succ, i64_w, i32_w]
      rfl
    refine pure_ (i := 1) (N := some 38) (v := ?_) (a' := ?_) #[true, true, false, false, false, false, false, false, false] rfl rfl (by kernel_rfl) (fun _ _ _ h => h) (Or.inl ⟨by rfl, ?_⟩) ?_ ?_
    rotate_left
    · intro w'
      go_simp
      with_reducible rfl
    rotate_left
    · simp only [Act.put, List.setIfInBounds_toArray, List.set_cons_zero, List.set_cons_succ, i64_w, i32_w]
      rfl
    refine pure_ (i := 2) (N := some 39) (v := ?_) (a' := ?_) #[true, true, true, false, false, false, false, false, false] rfl rfl (by kernel_rfl) (fun _ _ _ h => h) (Or.inl ⟨by rfl, ?_⟩) ?_ ?_
    rotate_left
    · intro w'
      go_simp
      with_reducible rfl
    rotate_left
    · simp only [Act.put, List.setIfInBounds_toArray, List.set_cons_zero, List.set_cons_succ, i64_w, i32_w]
      rfl
    refine pure_ (i := 4) (N := some 41) (v := ?_) (a' := ?_) #[true, true, true, false, true, false, false, false, false] rfl rfl (by kernel_rfl) (fun _ _ _ h => h) (Or.inl ⟨by rfl, ?_⟩) ?_ ?_
    rotate_left
    · intro w'
      go_simp
      with_reducible rfl
    rotate_left
    · simp only [Act.put, List.setIfInBounds_toArray, List.set_cons_zero, List.set_cons_succ, i64_w, i32_w]
      rfl
    refine pure_ (i := 5) (N := some 42) (v := ?_) (a' := ?_) #[true, true, true, false, true, true, false, false, false] rfl rfl (by kernel_rfl) (fun _ _ _ h => h) (Or.inl ⟨by rfl, ?_⟩) ?_ ?_
    rotate_left
    · intro w'
      go_simp
      with_reducible rfl
    rotate_left
    · simp only [Act.put, List.setIfInBounds_toArray, List.set_cons_zero, List.set_cons_succ, i64_w, i32_w]
      rfl
    refine pure_ (i := 6) (N := some 43) (v := ?_) (a' := ?_) #[true, true, true, false, true, true, true, false, false] rfl rfl (by kernel_rfl) (fun _ _ _ h => h) (Or.inl ⟨by rfl, ?_⟩) ?_ ?_
    rotate_left
    · intro w'
      go_simp
      with_reducible rfl
    rotate_left
    · simp only [Act.put, List.setIfInBounds_toArray, List.set_cons_zero, List.set_cons_succ, i64_w, i32_w]
      rfl
    refine take_ (i := 3) (N := some 40) (v := ?_) (a' := ?_) #[true, true, true, true, true, true, true, false, false] rfl rfl (by kernel_rfl) (fun _ _ _ h => h) (Or.inl ⟨by rfl, ?_⟩) hHeld ?_ ?_
    rotate_left
    · rintro w' ⟨s0, s1⟩
      go_simp
      with_reducible rfl
    rotate_left
    · simp only [Act.put, List.setIfInBounds_toArray, List.set_cons_zero, List.set_cons_succ, i64_w, i32_w]
      rfl
    refine take_ (i := 7) (N := some 44) (v := ?_) (a' := ?_) #[true, true, true, true, true, true, true, true, false] rfl rfl (by kernel_rfl) (fun _ _ _ h => h) (Or.inl ⟨by rfl, ?_⟩) hHeld ?_ ?_
    rotate_left
    · rintro w' ⟨s0, s1⟩
      go_simp
      with_reducible rfl
    rotate_left
    · simp only [Act.put, List.setIfInBounds_toArray, List.set_cons_zero, List.set_cons_succ, i64_w, i32_w]
      rfl
    refine one_ (i := 8) (N := some 45) #[true, true, true, true, true, true, true, true, true] rfl rfl (by kernel_rfl) (by decide) (fun K hK => ?_)
    refine goes_ Try.func27 (by kernel_rfl) rfl #[.pointer (some ⟨r, 0, none⟩), .int .i64 0, .int .i64 (d : Int)] (by rfl) rfl rfl (by simp only [List.map_toArray, List.map_cons, List.map_nil]; rfl) ?_
    with_reducible refine (hsplit'.out _ _ (by first | exact hF.out | exact hFD.out)).mono ?_
    rintro e w6 ⟨rfl, b6, q6⟩
    refine ⟨_, rfl, ?_⟩
    obtain ⟨g0, g1, g2, gf⟩ := blk_cells b6
    replace q6 := Hid.mk' q6
    refine hK.out _ _ ⟨g0, g1⟩ (fun hHeld => ?_)
    clear hK K
    refine norm_ (a' := ?_) ?_ ?_
    rotate_left
    · show Act.put _ (some 45) _ = _
      simp only [Act.put, List.setIfInBounds_toArray, List.set_cons_zero, List.set_cons_succ, i64_w, i32_w]
      rfl
    refine done_ (by kernel_rfl) ?_
    go_upto_region 6 with (fail)
    clear d0 d1 d2 df hF hFD
    refine start_ (n := 16) (S := fun w' => w'.cell? ⟨p, 0, none⟩ = some (.pointer (some ⟨r, 0, none⟩)) ∧ w'.cell? ⟨p, 1, none⟩ = some (.int .i64 (d : Int))) (ds := []) #[false, false, false, false, false, false, false, false, false, false, false, false, false, false, false, false] (by kernel_rfl) rfl rfl ⟨g0, g1⟩ (fun hHeld => ?_)
    refine pure_ (i := 0) (N := some 47) (v := ?_) (a' := ?_) #[true, false, false, false, false, false, false, false, false, false, false, false, false, false, false, false] rfl rfl (by kernel_rfl) (fun _ _ _ h => h) (Or.inl ⟨by rfl, ?_⟩) ?_ ?_
    rotate_left
    · intro w'
      go_simp
      with_reducible rfl
    rotate_left
    · simp only [Act.put, List.setIfInBounds_toArray, List.set_cons_zero, List.set_cons_succ, i64_w, i32_w]
      rfl
    refine pure_ (i := 1) (N := some 48) (v := ?_) (a' := ?_) #[true, true, false, false, false, false, false, false, false, false, false, false, false, false, false, false] rfl rfl (by kernel_rfl) (fun _ _ _ h => h) (Or.inl ⟨by rfl, ?_⟩) ?_ ?_
    rotate_left
    · intro w'
      go_simp
      with_reducible rfl
    rotate_left
    · simp only [Act.put, List.setIfInBounds_toArray, List.set_cons_zero, List.set_cons_succ, i64_w, i32_w]
      rfl
    refine pure_ (i := 2) (N := some 49) (v := ?_) (a' := ?_) #[true, true, true, false, false, false, false, false, false, false, false, false, false, false, false, false] rfl rfl (by kernel_rfl) (fun _ _ _ h => h) (Or.inl ⟨by rfl, ?_⟩) ?_ ?_
    rotate_left
    · intro w'
      go_simp
      with_reducible rfl
    rotate_left
    · simp only [Act.put, List.setIfInBounds_toArray, List.set_cons_zero, List.set_cons_succ, i64_w, i32_w]
      rfl
    refine pure_ (i := 4) (N := some 51) (v := ?_) (a' := ?_) #[true, true, true, false, true, false, false, false, false, false, false, false, false, false, false, false] rfl rfl (by kernel_rfl) (fun _ _ _ h => h) (Or.inl ⟨by rfl, ?_⟩) ?_ ?_
    rotate_left
    · intro w'
      go_simp
      with_reducible rfl
    rotate_left
    · simp only [Act.put, List.setIfInBounds_toArray, List.set_cons_zero, List.set_cons_succ, i64_w, i32_w]
      rfl
    refine pure_ (i := 5) (N := some 52) (v := ?_) (a' := ?_) #[true, true, true, false, true, true, false, false, false, false, false, false, false, false, false, false] rfl rfl (by kernel_rfl) (fun _ _ _ h => h) (Or.inl ⟨by rfl, ?_⟩) ?_ ?_
    rotate_left
    · intro w'
      go_simp
      with_reducible rfl
    rotate_left
    · simp only [Act.put, List.setIfInBounds_toArray, List.set_cons_zero, List.set_cons_succ, i64_w, i32_w]
      rfl
    refine pure_ (i := 6) (N := some 53) (v := ?_) (a' := ?_) #[true, true, true, false, true, true, true, false, false, false, false, false, false, false, false, false] rfl rfl (by kernel_rfl) (fun _ _ _ h => h) (Or.inl ⟨by rfl, ?_⟩) ?_ ?_
    rotate_left
    · intro w'
      go_simp
      with_reducible rfl
    rotate_left
    · simp only [Act.put, List.setIfInBounds_toArray, List.set_cons_zero, List.set_cons_succ, i64_w, i32_w]
      rfl
    refine pure_ (i := 7) (N := some 54) (v := ?_) (a' := ?_) #[true, true, true, false, true, true, true, true, false, false, false, false, false, false, false, false] rfl rfl (by kernel_rfl) (fun _ _ _ h => h) (Or.inl ⟨by rfl, ?_⟩) ?_ ?_
    rotate_left
    · intro w'
      go_simp
      with_reducible rfl
    rotate_left
    · simp only [Act.put, List.setIfInBounds_toArray, List.set_cons_zero, List.set_cons_succ, i64_w, i32_w]
      rfl
    refine pure_ (i := 8) (N := some 55) (v := ?_) (a' := ?_) #[true, true, true, false, true, true, true, true, true, false, false, false, false, false, false, false] rfl rfl (by kernel_rfl) (fun _ _ _ h => h) (Or.inl ⟨by rfl, ?_⟩) ?_ ?_
    rotate_left
    · intro w'
      go_simp
      with_reducible rfl
    rotate_left
    · simp only [Act.put, List.setIfInBounds_toArray, List.set_cons_zero, List.set_cons_succ, i64_w, i32_w]
      rfl
    refine take_ (i := 3) (N := some 50) (v := ?_) (a' := ?_) #[true, true, true, true, true, true, true, true, true, false, false, false, false, false, false, false] rfl rfl (by kernel_rfl) (fun _ _ _ h => h) (Or.inl ⟨by rfl, ?_⟩) hHeld ?_ ?_
    rotate_left
    · rintro w' ⟨s0, s1⟩
      go_simp
      with_reducible rfl
    rotate_left
    · simp only [Act.put, List.setIfInBounds_toArray, List.set_cons_zero, List.set_cons_succ, i64_w, i32_w]
      rfl
    refine take_ (i := 9) (N := some 56) (v := ?_) (a' := ?_) #[true, true, true, true, true, true, true, true, true, true, false, false, false, false, false, false] rfl rfl (by kernel_rfl) (fun _ _ _ h => h) (Or.inl ⟨by rfl, ?_⟩) hHeld ?_ ?_
    rotate_left
    · rintro w' ⟨s0, s1⟩
      go_simp
      with_reducible rfl
    rotate_left
    · simp only [Act.put, List.setIfInBounds_toArray, List.set_cons_zero, List.set_cons_succ, i64_w, i32_w]
      rfl
    refine one_ (i := 10) (N := some 57) #[true, true, true, true, true, true, true, true, true, true, true, false, false, false, false, false] rfl rfl (by kernel_rfl) (by decide) (fun K hK => ?_)
    refine goes_ Try.func28 (by kernel_rfl) rfl #[.pointer (some ⟨r, 0, none⟩), .string k, .int .i64 v, .int .i64 (d : Int)] (by rfl) rfl rfl (by simp only [List.map_toArray, List.map_cons, List.map_nil]; rfl) ?_
    with_reducible refine (hput'.out _ _ (by first | exact q6.out | exact hQ _ _ q6.out)).mono ?_
    rintro e w7 ⟨rfl, b7, q7⟩
    refine ⟨_, rfl, ?_⟩
    obtain ⟨d0', d1', d2', df'⟩ := blk_cells b7
    refine hK.out _ _ ⟨d0', d1'⟩ (fun hHeld => ?_)
    clear hK K
    refine norm_ (a' := ?_) ?_ ?_
    rotate_left
    · show Act.put _ (some 57) _ = _
      simp only [Act.put, List.setIfInBounds_toArray, List.set_cons_zero, List.set_cons_succ, i64_w, i32_w]
      rfl
    refine pure_ (i := 11) (N := some 46) (v := ?_) (a' := ?_) #[true, true, true, true, true, true, true, true, true, true, true, true, false, false, false, false] rfl rfl (by kernel_rfl) (fun _ _ _ h => h) (Or.inl ⟨by rfl, ?_⟩) ?_ ?_
    rotate_left
    · intro w'
      go_simp
      with_reducible rfl
    rotate_left
    · simp only [Act.put, List.setIfInBounds_toArray, List.set_cons_zero, List.set_cons_succ, i64_w, i32_w]
      rfl
    refine pure_ (i := 12) (N := some 58) (v := ?_) (a' := ?_) #[true, true, true, true, true, true, true, true, true, true, true, true, true, false, false, false] rfl rfl (by kernel_rfl) (fun _ _ _ h => h) (Or.inl ⟨by rfl, ?_⟩) ?_ ?_
    rotate_left
    · intro w'
      go_simp
      with_reducible rfl
    rotate_left
    · simp only [Act.put, List.setIfInBounds_toArray, List.set_cons_zero, List.set_cons_succ, i64_w, i32_w]
      rfl
    refine pure_ (i := 13) (N := some 59) (v := ?_) (a' := ?_) #[true, true, true, true, true, true, true, true, true, true, true, true, true, true, false, false] rfl rfl (by kernel_rfl) (fun _ _ _ h => h) (Or.inl ⟨by rfl, ?_⟩) ?_ ?_
    rotate_left
    · intro w'
      go_simp
      with_reducible rfl
    rotate_left
    · simp only [Act.put, List.setIfInBounds_toArray, List.set_cons_zero, List.set_cons_succ, i64_w, i32_w]
      rfl
    refine pure_ (i := 14) (N := some 8) (v := ?_) (a' := ?_) #[true, true, true, true, true, true, true, true, true, true, true, true, true, true, true, false] rfl rfl (by kernel_rfl) (fun _ _ _ h => h) (Or.inl ⟨by rfl, ?_⟩) ?_ ?_
    rotate_left
    · intro w'
      go_simp
      with_reducible rfl
    rotate_left
    · simp only [Act.put, List.setIfInBounds_toArray, List.set_cons_zero, List.set_cons_succ, i64_w, i32_w]
      rfl
    refine pure_ (i := 15) (N := some 9) (v := ?_) (a' := ?_) #[true, true, true, true, true, true, true, true, true, true, true, true, true, true, true, true] rfl rfl (by kernel_rfl) (fun _ _ _ h => h) (Or.inl ⟨by rfl, ?_⟩) ?_ ?_
    rotate_left
    · intro w'
      go_simp
      with_reducible rfl
    rotate_left
    · simp only [Act.put, List.setIfInBounds_toArray, List.set_cons_zero, List.set_cons_succ, i64_w, i32_w]
      rfl
    refine done_ (by kernel_rfl) ?_
    go_wp2_with fail
    go_ret2
    exact ⟨rfl, r, w7, q7, b7, by simp, by simp⟩
  · go_enter Try.func13, Try.ntmps13
    go_upto_region 3 with (go_at_call 23; refine h'.out.mono ?_; rintro e w' ⟨rfl, rfl⟩)
    go_quiet (fail)
    have k2 : Chg NoB w (((w.drewN nq).alloc (.cells #[.pointer (some ⟨b, 0, none⟩)] 48)).alloc (.cells #[.slice none 0 0, .slice none 0 0, .slice (some ⟨w.heap.size, 0, none⟩) 1 1] 54)) := (((Chg.refl _ _).drewN nq).alloc _).alloc _
    have f2 : (((w.drewN nq).alloc (.cells #[.pointer (some ⟨b, 0, none⟩)] 48)).alloc (.cells #[.slice none 0 0, .slice none 0 0, .slice (some ⟨w.heap.size, 0, none⟩) 1 1] 54)).frozen? ⟨p, 0, none⟩ = false := frozen_of_row _ p 0 _ _ (k2.heap (fun h => h) hb'.out)
    have e2 : (((w.drewN nq).alloc (.cells #[.pointer (some ⟨b, 0, none⟩)] 48)).alloc (.cells #[.slice none 0 0, .slice none 0 0, .slice (some ⟨w.heap.size, 0, none⟩) 1 1] 54)).cell? ⟨p, 0, none⟩ = some (.pointer (some ⟨b, 0, none⟩)) := k2.cell (fun h => h) c0
    have hF : FullW w p b d n (w.heap.size + 1) ((((w.drewN nq).alloc (.cells #[.pointer (some ⟨b, 0, none⟩)] 48)).alloc (.cells #[.slice none 0 0, .slice none 0 0, .slice (some ⟨w.heap.size, 0, none⟩) 1 1] 54)).setCell ⟨p, 0, none⟩ (.pointer (some ⟨w.heap.size + 1, 0, none⟩))) := FullW.mk hb'.out ((Chg.refl _ _).drewN nq)
    replace hF := Hid.mk' hF
    clear k2
    go_upto_region 5 with (fail)
    obtain ⟨W, hW⟩ : ∃ W, W = (((w.drewN nq).alloc (.cells #[.pointer (some ⟨b, 0, none⟩)] 48)).alloc (.cells #[.slice none 0 0, .slice none 0 0, .slice (some ⟨w.heap.size, 0, none⟩) 1 1] 54)).setCell ⟨p, 0, none⟩ (.pointer (some ⟨w.heap.size + 1, 0, none⟩)) := ⟨_, rfl⟩
    obtain ⟨r, hr⟩ : ∃ r, r = w.heap.size + 1 := ⟨_, rfl⟩
    rw [← hW]
    rw [← hr]
    replace hF : Hid (FullW w p b d n r W) := by rw [hW, hr]; exact hF
    have hFD : Hid (FullW w p b d n r W.drew) := hF.out.chg (Chg.refl NoB W).drew
    obtain ⟨d0, d1, d2, df⟩ := blk_cells (show W.heap[p]? = some (.cells #[.pointer (some ⟨r, 0, none⟩), .int .i64 (d : Int), .int .i64 (n : Int)] 50 (0, 0)) from by obtain ⟨g, h, -⟩ := hF.out; exact h)
    clear hW hr f2 e2 c0 c1 c2 cf
    refine start_ (n := 9) (S := fun w' => w'.cell? ⟨p, 0, none⟩ = some (.pointer (some ⟨r, 0, none⟩)) ∧ w'.cell? ⟨p, 1, none⟩ = some (.int .i64 (d : Int))) (ds := []) #[false, false, false, false, false, false, false, false, false] (by kernel_rfl) rfl rfl ⟨d0, d1⟩ (fun hHeld => ?_)
    refine pure_ (i := 0) (N := some 37) (v := ?_) (a' := ?_) #[true, false, false, false, false, false, false, false, false] rfl rfl (by kernel_rfl) (fun _ _ _ h => h) (Or.inl ⟨by rfl, ?_⟩) ?_ ?_
    rotate_left
    · intro w'
      go_simp
      with_reducible rfl
    rotate_left
    · simp only [Act.put, List.setIfInBounds_toArray, List.set_cons_zero, List.set_cons_succ, i64_w, i32_w]
      rfl
    refine pure_ (i := 1) (N := some 38) (v := ?_) (a' := ?_) #[true, true, false, false, false, false, false, false, false] rfl rfl (by kernel_rfl) (fun _ _ _ h => h) (Or.inl ⟨by rfl, ?_⟩) ?_ ?_
    rotate_left
    · intro w'
      go_simp
      with_reducible rfl
    rotate_left
    · simp only [Act.put, List.setIfInBounds_toArray, List.set_cons_zero, List.set_cons_succ, i64_w, i32_w]
      rfl
    refine pure_ (i := 2) (N := some 39) (v := ?_) (a' := ?_) #[true, true, true, false, false, false, false, false, false] rfl rfl (by kernel_rfl) (fun _ _ _ h => h) (Or.inl ⟨by rfl, ?_⟩) ?_ ?_
    rotate_left
    · intro w'
      go_simp
      with_reducible rfl
    rotate_left
    · simp only [Act.put, List.setIfInBounds_toArray, List.set_cons_zero, List.set_cons_succ, i64_w, i32_w]
      rfl
    refine pure_ (i := 4) (N := some 41) (v := ?_) (a' := ?_) #[true, true, true, false, true, false, false, false, false] rfl rfl (by kernel_rfl) (fun _ _ _ h => h) (Or.inl ⟨by rfl, ?_⟩) ?_ ?_
    rotate_left
    · intro w'
      go_simp
      with_reducible rfl
    rotate_left
    · simp only [Act.put, List.setIfInBounds_toArray, List.set_cons_zero, List.set_cons_succ, i64_w, i32_w]
      rfl
    refine pure_ (i := 5) (N := some 42) (v := ?_) (a' := ?_) #[true, true, true, false, true, true, false, false, false] rfl rfl (by kernel_rfl) (fun _ _ _ h => h) (Or.inl ⟨by rfl, ?_⟩) ?_ ?_
    rotate_left
    · intro w'
      go_simp
      with_reducible rfl
    rotate_left
    · simp only [Act.put, List.setIfInBounds_toArray, List.set_cons_zero, List.set_cons_succ, i64_w, i32_w]
      rfl
    refine pure_ (i := 6) (N := some 43) (v := ?_) (a' := ?_) #[true, true, true, false, true, true, true, false, false] rfl rfl (by kernel_rfl) (fun _ _ _ h => h) (Or.inl ⟨by rfl, ?_⟩) ?_ ?_
    rotate_left
    · intro w'
      go_simp
      with_reducible rfl
    rotate_left
    · simp only [Act.put, List.setIfInBounds_toArray, List.set_cons_zero, List.set_cons_succ, i64_w, i32_w]
      rfl
    refine take_ (i := 3) (N := some 40) (v := ?_) (a' := ?_) #[true, true, true, true, true, true, true, false, false] rfl rfl (by kernel_rfl) (fun _ _ _ h => h) (Or.inl ⟨by rfl, ?_⟩) hHeld ?_ ?_
    rotate_left
    · rintro w' ⟨s0, s1⟩
      go_simp
      with_reducible rfl
    rotate_left
    · simp only [Act.put, List.setIfInBounds_toArray, List.set_cons_zero, List.set_cons_succ, i64_w, i32_w]
      rfl
    refine take_ (i := 7) (N := some 44) (v := ?_) (a' := ?_) #[true, true, true, true, true, true, true, true, false] rfl rfl (by kernel_rfl) (fun _ _ _ h => h) (Or.inl ⟨by rfl, ?_⟩) hHeld ?_ ?_
    rotate_left
    · rintro w' ⟨s0, s1⟩
      go_simp
      with_reducible rfl
    rotate_left
    · simp only [Act.put, List.setIfInBounds_toArray, List.set_cons_zero, List.set_cons_succ, i64_w, i32_w]
      rfl
    refine one_ (i := 8) (N := some 45) #[true, true, true, true, true, true, true, true, true] rfl rfl (by kernel_rfl) (by decide) (fun K hK => ?_)
    refine goes_ Try.func27 (by kernel_rfl) rfl #[.pointer (some ⟨r, 0, none⟩), .int .i64 0, .int .i64 (d : Int)] (by rfl) rfl rfl (by simp only [List.map_toArray, List.map_cons, List.map_nil]; rfl) ?_
    with_reducible refine (hsplit'.out _ _ (by first | exact hF.out | exact hFD.out)).mono ?_
    rintro e w6 ⟨rfl, b6, q6⟩
    refine ⟨_, rfl, ?_⟩
    obtain ⟨g0, g1, g2, gf⟩ := blk_cells b6
    replace q6 := Hid.mk' q6
    refine hK.out _ _ ⟨g0, g1⟩ (fun hHeld => ?_)
    clear hK K
    refine norm_ (a' := ?_) ?_ ?_
    rotate_left
    · show Act.put _ (some 45) _ = _
      simp only [Act.put, List.setIfInBounds_toArray, List.set_cons_zero, List.set_cons_succ, i64_w, i32_w]
      rfl
    refine done_ (by kernel_rfl) ?_
    go_upto_region 6 with (fail)
    clear d0 d1 d2 df hF hFD
    refine start_ (n := 16) (S := fun w' => w'.cell? ⟨p, 0, none⟩ = some (.pointer (some ⟨r, 0, none⟩)) ∧ w'.cell? ⟨p, 1, none⟩ = some (.int .i64 (d : Int))) (ds := []) #[false, false, false, false, false, false, false, false, false, false, false, false, false, false, false, false] (by kernel_rfl) rfl rfl ⟨g0, g1⟩ (fun hHeld => ?_)
    refine pure_ (i := 0) (N := some 47) (v := ?_) (a' := ?_) #[true, false, false, false, false, false, false, false, false, false, false, false, false, false, false, false] rfl rfl (by kernel_rfl) (fun _ _ _ h => h) (Or.inl ⟨by rfl, ?_⟩) ?_ ?_
    rotate_left
    · intro w'
      go_simp
      with_reducible rfl
    rotate_left
    · simp only [Act.put, List.setIfInBounds_toArray, List.set_cons_zero, List.set_cons_succ, i64_w, i32_w]
      rfl
    refine pure_ (i := 1) (N := some 48) (v := ?_) (a' := ?_) #[true, true, false, false, false, false, false, false, false, false, false, false, false, false, false, false] rfl rfl (by kernel_rfl) (fun _ _ _ h => h) (Or.inl ⟨by rfl, ?_⟩) ?_ ?_
    rotate_left
    · intro w'
      go_simp
      with_reducible rfl
    rotate_left
    · simp only [Act.put, List.setIfInBounds_toArray, List.set_cons_zero, List.set_cons_succ, i64_w, i32_w]
      rfl
    refine pure_ (i := 2) (N := some 49) (v := ?_) (a' := ?_) #[true, true, true, false, false, false, false, false, false, false, false, false, false, false, false, false] rfl rfl (by kernel_rfl) (fun _ _ _ h => h) (Or.inl ⟨by rfl, ?_⟩) ?_ ?_
    rotate_left
    · intro w'
      go_simp
      with_reducible rfl
    rotate_left
    · simp only [Act.put, List.setIfInBounds_toArray, List.set_cons_zero, List.set_cons_succ, i64_w, i32_w]
      rfl
    refine pure_ (i := 4) (N := some 51) (v := ?_) (a' := ?_) #[true, true, true, false, true, false, false, false, false, false, false, false, false, false, false, false] rfl rfl (by kernel_rfl) (fun _ _ _ h => h) (Or.inl ⟨by rfl, ?_⟩) ?_ ?_
    rotate_left
    · intro w'
      go_simp
      with_reducible rfl
    rotate_left
    · simp only [Act.put, List.setIfInBounds_toArray, List.set_cons_zero, List.set_cons_succ, i64_w, i32_w]
      rfl
    refine pure_ (i := 5) (N := some 52) (v := ?_) (a' := ?_) #[true, true, true, false, true, true, false, false, false, false, false, false, false, false, false, false] rfl rfl (by kernel_rfl) (fun _ _ _ h => h) (Or.inl ⟨by rfl, ?_⟩) ?_ ?_
    rotate_left
    · intro w'
      go_simp
      with_reducible rfl
    rotate_left
    · simp only [Act.put, List.setIfInBounds_toArray, List.set_cons_zero, List.set_cons_succ, i64_w, i32_w]
      rfl
    refine pure_ (i := 6) (N := some 53) (v := ?_) (a' := ?_) #[true, true, true, false, true, true, true, false, false, false, false, false, false, false, false, false] rfl rfl (by kernel_rfl) (fun _ _ _ h => h) (Or.inl ⟨by rfl, ?_⟩) ?_ ?_
    rotate_left
    · intro w'
      go_simp
      with_reducible rfl
    rotate_left
    · simp only [Act.put, List.setIfInBounds_toArray, List.set_cons_zero, List.set_cons_succ, i64_w, i32_w]
      rfl
    refine pure_ (i := 7) (N := some 54) (v := ?_) (a' := ?_) #[true, true, true, false, true, true, true, true, false, false, false, false, false, false, false, false] rfl rfl (by kernel_rfl) (fun _ _ _ h => h) (Or.inl ⟨by rfl, ?_⟩) ?_ ?_
    rotate_left
    · intro w'
      go_simp
      with_reducible rfl
    rotate_left
    · simp only [Act.put, List.setIfInBounds_toArray, List.set_cons_zero, List.set_cons_succ, i64_w, i32_w]
      rfl
    refine pure_ (i := 8) (N := some 55) (v := ?_) (a' := ?_) #[true, true, true, false, true, true, true, true, true, false, false, false, false, false, false, false] rfl rfl (by kernel_rfl) (fun _ _ _ h => h) (Or.inl ⟨by rfl, ?_⟩) ?_ ?_
    rotate_left
    · intro w'
      go_simp
      with_reducible rfl
    rotate_left
    · simp only [Act.put, List.setIfInBounds_toArray, List.set_cons_zero, List.set_cons_succ, i64_w, i32_w]
      rfl
    refine take_ (i := 3) (N := some 50) (v := ?_) (a' := ?_) #[true, true, true, true, true, true, true, true, true, false, false, false, false, false, false, false] rfl rfl (by kernel_rfl) (fun _ _ _ h => h) (Or.inl ⟨by rfl, ?_⟩) hHeld ?_ ?_
    rotate_left
    · rintro w' ⟨s0, s1⟩
      go_simp
      with_reducible rfl
    rotate_left
    · simp only [Act.put, List.setIfInBounds_toArray, List.set_cons_zero, List.set_cons_succ, i64_w, i32_w]
      rfl
    refine take_ (i := 9) (N := some 56) (v := ?_) (a' := ?_) #[true, true, true, true, true, true, true, true, true, true, false, false, false, false, false, false] rfl rfl (by kernel_rfl) (fun _ _ _ h => h) (Or.inl ⟨by rfl, ?_⟩) hHeld ?_ ?_
    rotate_left
    · rintro w' ⟨s0, s1⟩
      go_simp
      with_reducible rfl
    rotate_left
    · simp only [Act.put, List.setIfInBounds_toArray, List.set_cons_zero, List.set_cons_succ, i64_w, i32_w]
      rfl
    refine one_ (i := 10) (N := some 57) #[true, true, true, true, true, true, true, true, true, true, true, false, false, false, false, false] rfl rfl (by kernel_rfl) (by decide) (fun K hK => ?_)
    refine goes_ Try.func28 (by kernel_rfl) rfl #[.pointer (some ⟨r, 0, none⟩), .string k, .int .i64 v, .int .i64 (d : Int)] (by rfl) rfl rfl (by simp only [List.map_toArray, List.map_cons, List.map_nil]; rfl) ?_
    with_reducible refine (hput'.out _ _ (by first | exact q6.out | exact hQ _ _ q6.out)).mono ?_
    rintro e w7 ⟨rfl, b7, q7⟩
    refine ⟨_, rfl, ?_⟩
    obtain ⟨d0', d1', d2', df'⟩ := blk_cells b7
    refine hK.out _ _ ⟨d0', d1'⟩ (fun hHeld => ?_)
    clear hK K
    refine norm_ (a' := ?_) ?_ ?_
    rotate_left
    · show Act.put _ (some 57) _ = _
      simp only [Act.put, List.setIfInBounds_toArray, List.set_cons_zero, List.set_cons_succ, i64_w, i32_w]
      rfl
    refine pure_ (i := 11) (N := some 46) (v := ?_) (a' := ?_) #[true, true, true, true, true, true, true, true, true, true, true, true, false, false, false, false] rfl rfl (by kernel_rfl) (fun _ _ _ h => h) (Or.inl ⟨by rfl, ?_⟩) ?_ ?_
    rotate_left
    · intro w'
      go_simp
      with_reducible rfl
    rotate_left
    · simp only [Act.put, List.setIfInBounds_toArray, List.set_cons_zero, List.set_cons_succ, i64_w, i32_w]
      rfl
    refine pure_ (i := 12) (N := some 58) (v := ?_) (a' := ?_) #[true, true, true, true, true, true, true, true, true, true, true, true, true, false, false, false] rfl rfl (by kernel_rfl) (fun _ _ _ h => h) (Or.inl ⟨by rfl, ?_⟩) ?_ ?_
    rotate_left
    · intro w'
      go_simp
      with_reducible rfl
    rotate_left
    · simp only [Act.put, List.setIfInBounds_toArray, List.set_cons_zero, List.set_cons_succ, i64_w, i32_w]
      rfl
    refine pure_ (i := 13) (N := some 59) (v := ?_) (a' := ?_) #[true, true, true, true, true, true, true, true, true, true, true, true, true, true, false, false] rfl rfl (by kernel_rfl) (fun _ _ _ h => h) (Or.inl ⟨by rfl, ?_⟩) ?_ ?_
    rotate_left
    · intro w'
      go_simp
      with_reducible rfl
    rotate_left
    · simp only [Act.put, List.setIfInBounds_toArray, List.set_cons_zero, List.set_cons_succ, i64_w, i32_w]
      rfl
    refine pure_ (i := 14) (N := some 8) (v := ?_) (a' := ?_) #[true, true, true, true, true, true, true, true, true, true, true, true, true, true, true, false] rfl rfl (by kernel_rfl) (fun _ _ _ h => h) (Or.inl ⟨by rfl, ?_⟩) ?_ ?_
    rotate_left
    · intro w'
      go_simp
      with_reducible rfl
    rotate_left
    · simp only [Act.put, List.setIfInBounds_toArray, List.set_cons_zero, List.set_cons_succ, i64_w, i32_w]
      rfl
    refine pure_ (i := 15) (N := some 9) (v := ?_) (a' := ?_) #[true, true, true, true, true, true, true, true, true, true, true, true, true, true, true, true] rfl rfl (by kernel_rfl) (fun _ _ _ h => h) (Or.inl ⟨by rfl, ?_⟩) ?_ ?_
    rotate_left
    · intro w'
      go_simp
      with_reducible rfl
    rotate_left
    · simp only [Act.put, List.setIfInBounds_toArray, List.set_cons_zero, List.set_cons_succ, i64_w, i32_w]
      rfl
    refine done_ (by kernel_rfl) ?_
    go_wp2_with fail
    go_ret2
    exact ⟨rfl, r, w7, q7, b7, by simp, by simp⟩

theorem insM_len (k : ByteArray) (v : Int) : ∀ l : List E, Asc l → (insM k v l).length = if (getM k l).isSome then l.length else l.length + 1
  | [], _ => rfl
  | e :: l, h => by
    have h2 := List.pairwise_cons.1 h
    have ih := insM_len k v l h2.2
    rw [insM]
    split
    · rename_i hk
      have : getM k (e :: l) = getM k l := getM_lt (A := [e]) (by simpa using hk) l
      rw [this, List.length_cons, ih]
      split <;> simp
    · rename_i hk
      split
      · rename_i he
        subst he
        have : getM e.1 (e :: l) = some e.2 := getM_hit e.1 e.2 l
        rw [this]; simp
      · rename_i he
        have hke : kl k e.1 = true := by
          cases hkx : kl k e.1
          · exact (he (kl_tri (by simpa using hk) hkx)).elim
          · rfl
        have : getM k (e :: l) = none := getM_gt (B := e :: l) (by
          intro x hx
          rcases List.mem_cons.1 hx with rfl | hx
          · exact hke
          · exact kl_trans hke (h2.1 x hx)) []
        rw [this]; simp
theorem delM_len (k : ByteArray) : ∀ l : List E, Asc l → (delM k l).length = if (getM k l).isSome then l.length - 1 else l.length
  | [], _ => rfl
  | e :: l, h => by
    have h2 := List.pairwise_cons.1 h
    by_cases he : e.1 = k
    · subst he
      have h1 : getM e.1 (e :: l) = some e.2 := getM_hit e.1 e.2 l
      have h3 : delM e.1 (e :: l) = l := delM_hit e.1 e.2 h2.1
      rw [h1, h3]; simp
    · have ih := delM_len k l h2.2
      have h1 : getM k (e :: l) = getM k l := by simp [getM, he]
      have h3 : delM k (e :: l) = e :: delM k l := by simp [delM, he]
      rw [h1, h3, List.length_cons, ih]
      cases hg : getM k l with
      | none => simp
      | some y =>
        have : 0 < l.length := by
          cases l with
          | nil => simp [getM] at hg
          | cons _ _ => simp
        simp; omega

/-- A full node, parted at its middle key. -/
theorem cut_full {d h : Nat} {c : BT} (hd : 2 ≤ d) (hs : Shape d h c) (hlen : c.ks.length + 1 = 2 * d) : ∃ A1 x A2 E1 y E2 D1 D2, c = .node (A1 ++ x :: A2) (E1 ++ y :: E2) (D1 ++ D2) ∧ A1.length + 1 = d ∧ A2.length + 1 = d ∧ E1.length + 1 = d ∧ E2.length + 1 = d ∧
    ((D1 = [] ∧ D2 = []) ∨ (D1.length = d ∧ D2.length = d)) ∧ Shape d h (.node A1 E1 D1) ∧ Shape d h (.node A2 E2 D2) ∧ flat h c = flat h (.node A1 E1 D1) ++ (x, y) :: flat h (.node A2 E2 D2) := by
  obtain ⟨q1, q2, q3⟩ := (shape_iff d h c).1 hs
  obtain ⟨cks, cvs, ccs⟩ := c
  simp only [BT.ks_node, BT.vs_node, BT.cs_node] at hlen q1 q2 q3
  obtain ⟨A1, x, A2, rfl, m1⟩ := cut1 cks (d - 1) (by omega)
  obtain ⟨E1, y, E2, rfl, m2⟩ := cut1 cvs (d - 1) (by omega)
  simp only [List.length_append, List.length_cons] at hlen q1
  have hD : ∃ D1 D2, ccs = D1 ++ D2 ∧ ((h = 0 ∧ D1 = [] ∧ D2 = []) ∨ (0 < h ∧ D1.length = d ∧ D2.length = d)) := by
    cases h with
    | zero => exact ⟨[], [], q3, .inl ⟨rfl, rfl, rfl⟩⟩
    | succ h =>
      obtain ⟨q3, -⟩ := q3
      obtain ⟨D1, D2, rfl, hD⟩ := cut ccs d (by simp at q3; omega)
      exact ⟨D1, D2, rfl, .inr ⟨by omega, hD, by simp at q3; omega⟩⟩
  obtain ⟨D1, D2, rfl, hD⟩ := hD
  have hfj := flat_join h A1 A2 E1 E2 D1 D2 x y (by omega) (by
    rcases hD with ⟨h, _⟩ | ⟨_, h1, h2⟩
    · exact .inl h
    · exact .inr ⟨by omega, by intro h; rw [h] at h2; simp at h2; omega⟩)
  refine ⟨A1, x, A2, E1, y, E2, D1, D2, rfl, by omega, by omega, by omega, by omega, hD.imp (fun h => h.2) (fun h => h.2), ?_, ?_, hfj⟩
  · rw [shape_iff]
    refine ⟨by simp; omega, by simp; omega, ?_⟩
    rcases hD with ⟨rfl, rfl, rfl⟩ | ⟨h0, h1, h2⟩
    · rfl
    · obtain ⟨h', rfl⟩ : ∃ h', h = h' + 1 := ⟨h - 1, by omega⟩
      exact ⟨by simp; omega, fun x hx => q3.2 x (by simp only [BT.cs_node] at hx; simp [hx])⟩
  · rw [shape_iff]
    refine ⟨by simp; omega, by simp; omega, ?_⟩
    rcases hD with ⟨rfl, rfl, rfl⟩ | ⟨h0, h1, h2⟩
    · rfl
    · obtain ⟨h', rfl⟩ : ∃ h', h = h' + 1 := ⟨h - 1, by omega⟩
      exact ⟨by simp; omega, fun x hx => q3.2 x (by simp only [BT.cs_node] at hx; simp [hx])⟩

/-- What Put leaves behind: ahead of the count. -/
def PutR (d p : Nat) (k : ByteArray) (v : Int) (l : List E) (S : Nat → Prop) (w : World) (r : Nat) (w1 : World) : Prop :=
  ∃ h t, Tree w1 h r t (fun j => S j ∨ w.heap.size ≤ j) ∧ Chg (fun j => S j ∨ j = p) w w1 ∧ Shape d h t ∧ flat h t = insM k v l ∧ (0 < h → 1 ≤ t.ks.length)

theorem put13 (p d : Nat) (l : List E) (k : ByteArray) (v : Int) (S : Nat → Prop) (w : World) (hd : 2 ≤ d) (hd2 : d ≤ 32) (hl : l.length ≤ 1000000) (ht : TreeAt w p d l S) :
    Calls Try.prog 13 #[.pointer (some ⟨p, 0, none⟩), .string k, .int .i64 v] w fun e w' => e = .returned (.tuple #[.int .i64 ((getM k l).getD 0), .bool (getM k l).isSome]) ∧
      TreeAt w' p d (insM k v l) (fun j => S j ∨ w.heap.size ≤ j) ∧ Chg S w w' := by
  obtain ⟨b, h, t, S0, hb, hT0, hs, rfl, ha, h1, h7, h8, h9⟩ := ht
  have hT := Tree.there _ _ _ _ hT0
  obtain ⟨S', hS'⟩ : ∃ S' : Nat → Prop, S' = fun j => S0 j ∧ j < w.heap.size := ⟨_, rfl⟩
  rw [← hS'] at hT
  have s8 : Sub S' S := fun j hj => by rw [hS'] at hj; exact h8 j hj.1
  have s9 : ¬ S' p := fun hj => by rw [hS'] at hj; exact h9 hj.1
  have slt : ∀ j, S' j → j < w.heap.size := fun j hj => by rw [hS'] at hj; exact hj.2
  clear hT0 h8 h9 hS'
  have hp : p < w.heap.size := (Array.getElem?_eq_some_iff.1 hb).1
  obtain ⟨uk, uv, uc, kb, SK, n1, u1, -, -, -⟩ := hT.open
  obtain ⟨aq, nq, cq, a2, n2, c2, a3, n3, c3, rfl, rfl, rfl, lq, -, -⟩ := n1.form'
  have hbp : b ≠ p := fun e => s9 (u1 p (.inl e.symm))
  have hlen := insM_len k v _ ha
  have fin : ∀ (e : Ending) (w' : World), (e = .returned (.tuple #[.int .i64 ((getM k (flat h t)).getD 0), .bool (getM k (flat h t)).isSome]) ∧ ∃ r w1, PutR d p k v (flat h t) S' w r w1 ∧ w1.heap[p]? = some (.cells #[.pointer (some ⟨r, 0, none⟩), .int .i64 (d : Int), .int .i64 ((flat h t).length : Int)] 50 (0, 0)) ∧
      ((getM k (flat h t)).isSome = true → w' = w1) ∧ ((getM k (flat h t)).isSome = false → w' = w1.setCell ⟨p, 2, none⟩ (.int .i64 (((flat h t).length : Int) + 1)))) →
      (e = .returned (.tuple #[.int .i64 ((getM k (flat h t)).getD 0), .bool (getM k (flat h t)).isSome]) ∧ TreeAt w' p d (insM k v (flat h t)) (fun j => S j ∨ w.heap.size ≤ j) ∧ Chg S w w') := by
    rintro e w' ⟨rfl, r, w1, ⟨h', t', z1, z2, z3, z4, z5⟩, hb1, y1, y2⟩
    refine ⟨rfl, ?_⟩
    have kS : Chg S w w1 := z2.mono fun j hj => hj.elim (s8 j) fun e => by rw [e]; exact h7
    have np : ¬ (S' p ∨ w.heap.size ≤ p) := fun hj => hj.elim s9 fun h => by omega
    cases hf : (getM k (flat h t)).isSome
    · have e2 := y2 hf
      subst e2
      have hsz : ((insM k v (flat h t)).length : Int) = ((flat h t).length : Int) + 1 := by rw [hlen, hf]; simp
      have k2 : Chg (fun j => j = p) w1 (w1.setCell ⟨p, 2, none⟩ (.int .i64 (((flat h t).length : Int) + 1))) := (Chg.refl (fun j => j = p) w1).setCell ⟨p, 2, none⟩ (.inl rfl) _
      refine ⟨⟨r, h', t', _, ?_, z1.chg k2 _ _ _ _ (fun j a e => np (e ▸ a)), z3, z4, (insM_asc k v _ ha).1, z5, .inl h7, fun j hj => hj.imp (s8 j) id, np⟩, kS.trans (k2.mono fun j e => by rw [e]; exact h7)⟩
      rw [heap_setCell_at w1 p 2 _ _ _ _ hb1, hsz]; rfl
    · have e2 := y1 hf
      subst e2
      have hsz : (insM k v (flat h t)).length = (flat h t).length := by rw [hlen, hf]; simp
      exact ⟨⟨r, h', t', _, by rw [hsz]; exact hb1, z1, z3, z4, (insM_asc k v _ ha).1, z5, .inl h7, fun j hj => hj.imp (s8 j) id, np⟩, kS⟩
  have hmax := ((shape_iff d h t).1 hs).2.1
  by_cases hfull : t.ks.length + 1 < 2 * d
  · refine (put13_small p b d (flat h t).length aq nq cq k v _ _ (PutR d p k v (flat h t) S' w) w hb hd hd2 (by omega) hbp n1.c0 (by have := lq.out; omega) (fun W hW => ?_)).mono fin
    refine (put28 d d v k hd hd2 rfl h b t S' W (hT.chg hW _ _ _ _ fun _ _ h => h) hs ha hfull).mono ?_
    rintro e w' ⟨rfl, t', z1, z2, z3, z4, z5⟩
    refine ⟨rfl, z2.heap s9 (hW.heap (fun h => h) hb), h, t', z1.mono fun j hj => hj.imp id fun hj => Nat.le_trans hW.size hj, ((hW.mono fun _ h => h.elim).trans z2).mono fun j hj => .inl hj, z3, z4, fun h0 => by have := h1 h0; omega⟩
  · have hlen2 : t.ks.length + 1 = 2 * d := by omega
    obtain ⟨A1, x, A2, E1, y, E2, D1, D2, rfl, m1, m2, m3, m4, mD, sA, sB, hfl⟩ := cut_full hd hs hlen2
    refine (put13_full p b d (flat h (.node (A1 ++ x :: A2) (E1 ++ y :: E2) (D1 ++ D2))).length aq nq cq k v _ _ (PutR d p k v (flat h (.node (A1 ++ x :: A2) (E1 ++ y :: E2) (D1 ++ D2))) S' w) w hb hd hd2 (by omega) hbp n1.c0 (by have := lq.out; omega)
      (fun r W => W.heap[p]? = some (.cells #[.pointer (some ⟨r, 0, none⟩), .int .i64 (d : Int), .int .i64 ((flat h (.node (A1 ++ x :: A2) (E1 ++ y :: E2) (D1 ++ D2))).length : Int)] 50 (0, 0)) ∧ Tree W (h + 1) r (.node ([] ++ [x]) ([] ++ [y]) ([] ++ [.node A1 E1 D1, .node A2 E2 D2])) (fun j => S' j ∨ w.heap.size ≤ j) ∧ Chg (fun j => S' j ∨ j = p) w W) ?_ ?_ ?_).mono fin
    · rintro r W ⟨g, b1, nr, gg, gr, kW⟩
      have sW := kW.size
      have tW : Tree W (h + 1) r (.node ([] ++ []) ([] ++ []) ([] ++ [.node (A1 ++ x :: A2) (E1 ++ y :: E2) (D1 ++ D2)])) (fun j => S' j ∨ w.heap.size ≤ j) := by
        have big : ∀ j, nset r (.slice none 0 0) (.slice none 0 0) (.slice (some ⟨g, 0, none⟩) 1 1) j → w.heap.size ≤ j := by
          rintro j (e | e | e | e)
          · omega
          · exact (own_none 0 0 _ e).elim
          · exact (own_none 0 0 _ e).elim
          · rw [own_slice] at e; omega
        refine Tree.close (S' := S') nr (fun j hj => .inr (big j hj)) (fun j hj => .inl hj) (fun j hj hs => ?_) (show Forest (Tree W h) [b] [_] S' from Forest.single (hT.chg kW _ _ _ _ fun j a e => s9 (e ▸ a)))
        have := big j hj; have := slt j hs; omega
      refine (splitT d h r 0 d [] [] A1 A2 [] [] E1 E2 [] [] D1 D2 x y _ W hd hd2 rfl rfl tW rfl rfl rfl rfl (by simp) m1 m2 m3 m4 mD).mono ?_
      rintro e w' ⟨rfl, z1, z2⟩
      have b2 := z2.heap (fun hj => hj.elim s9 fun h => by omega) b1
      refine ⟨rfl, b2, b2, z1.mono fun j hj => ?_, (kW.mono fun j e => .inr e).trans' z2 fun j hj => hj.imp (fun h => .inl h) id⟩
      rcases hj with hj | hj
      · exact hj
      · exact .inr (Nat.le_trans sW hj)
    · rintro r W ⟨z1, z2, z3⟩
      exact ⟨(Chg.refl NoB W).drew.heap (fun h => h) z1, z2.chg (Chg.refl NoB W).drew _ _ _ _ (fun _ _ h => h), z3.drew⟩
    · rintro r W ⟨b1, tW, kW⟩
      have sW := kW.size
      have hfl2 : flat (h + 1) (.node ([] ++ [x]) ([] ++ [y]) ([] ++ [.node A1 E1 D1, .node A2 E2 D2])) = flat h (.node (A1 ++ x :: A2) (E1 ++ y :: E2) (D1 ++ D2)) := by
        have := flat_two h [] [] [] [] [] [] (.node A1 E1 D1) (.node A2 E2 D2) x y rfl rfl
        rw [this, hfl, Lf_nil, Rt_nil]; simp
      have hs2 : Shape d (h + 1) (.node ([] ++ [x]) ([] ++ [y]) ([] ++ [.node A1 E1 D1, .node A2 E2 D2])) := by
        refine ⟨rfl, by simp; omega, rfl, fun z hz => ?_⟩
        simp only [List.nil_append, BT.cs_node, List.mem_cons, List.not_mem_nil, or_false] at hz
        rcases hz with rfl | rfl
        · exact ⟨by simp; omega, sA⟩
        · exact ⟨by simp; omega, sB⟩
      refine (put28 d d v k hd hd2 rfl (h + 1) r _ _ W tW hs2 (by rw [hfl2]; exact ha) (by simp; omega)).mono ?_
      rintro e w' ⟨rfl, t', z1, z2, z3, z4, z5⟩
      rw [hfl2] at z4 ⊢
      refine ⟨rfl, z2.heap (fun hj => hj.elim s9 fun h => by omega) b1, h + 1, t', z1.mono fun j hj => ?_, kW.trans' z2 fun j hj => hj.imp (fun h => .inl h) id, z3, z4, fun _ => by simp at z5; omega⟩
      rcases hj with hj | hj
      · exact hj
      · exact .inr (Nat.le_trans sW hj)
end Go.Proofs.Ytamnmoejjjaegaa
