/- Delete, Check and Clone at a tree. Conditions: the form of a tree of a degree from 2 to 32, at most 1000000 keys. -/
import Derived.Test.YtamnmoejjjaegaaY
set_option linter.unusedVariables false
set_option linter.unusedSimpArgs false
namespace Go.Proofs.Ytamnmoejjjaegaa
open Go Go.RowKit Go.Proofs.YtamnmoejjjaegaaW.PrintLast

/-- What the root is behind remove: nothing to do, or an only child that takes its place. -/
def RootIs (w1 : World) (p b : Nat) (w2 : World) : Prop :=
  ∃ ak nk ck ac nc cc, w1.cell? ⟨b, 0, none⟩ = some (.slice ak nk ck) ∧ w1.cell? ⟨b, 2, none⟩ = some (.slice ac nc cc) ∧
    ((nc = 0 ∧ w2 = w1) ∨ (0 < nk ∧ 0 < nc ∧ w2 = w1) ∨ (nk = 0 ∧ 0 < nc ∧ ∃ g q, ac = some ⟨g, 0, none⟩ ∧ w1.cell? ⟨g, 0, none⟩ = some (.pointer (some ⟨q, 0, none⟩)) ∧ w2 = w1.setCell ⟨p, 0, none⟩ (.pointer (some ⟨q, 0, none⟩))))

set_option maxHeartbeats 8000000 in
set_option maxRecDepth 100000 in
theorem del11_walk (p b d n : Nat) (k : ByteArray) (o : Int) (f : Bool) (R : World → Prop) (w : World) (hb : w.heap[p]? = some (.cells #[.pointer (some ⟨b, 0, none⟩), .int .i64 (d : Int), .int .i64 (n : Int)] 50 (0, 0)))
    (hn : n ≤ 2000000) (hn0 : f = true → 1 ≤ n)
    (hrem : ∀ W, Chg NoB w W → Calls Try.prog 24 #[.pointer (some ⟨b, 0, none⟩), .string k, .int .i64 (d : Int)] W fun e w' => e = .returned (.tuple #[.int .i64 o, .bool f]) ∧ w'.heap[p]? = some (.cells #[.pointer (some ⟨b, 0, none⟩), .int .i64 (d : Int), .int .i64 (n : Int)] 50 (0, 0)) ∧ R w')
    (hR : ∀ w1, R w1 → ∃ w2, RootIs w1 p b w2) :
    Calls Try.prog 11 #[.pointer (some ⟨p, 0, none⟩), .string k] w fun e w' => e = .returned (.tuple #[.int .i64 o, .bool f]) ∧ ∃ w1 w2, R w1 ∧ w1.heap[p]? = some (.cells #[.pointer (some ⟨b, 0, none⟩), .int .i64 (d : Int), .int .i64 (n : Int)] 50 (0, 0)) ∧ RootIs w1 p b w2 ∧ (f = false → w' = w2) ∧ (f = true → w' = w2.setCell ⟨p, 2, none⟩ (.int .i64 ((n : Int) - 1))) := by
  obtain ⟨c0, c1, c2, cf⟩ := blk_cells hb
  have h' := Hid.mk' (none_not p b w c0)
  have hrem' := Hid.mk' hrem
  have hR' := Hid.mk' hR
  have kW0 := Hid.mk' (Chg.refl NoB w)
  clear hrem hR hb
  cases f
  · go_enter Try.func11, Try.ntmps11
    go_upto_region 3 with (go_at_call 23; refine h'.out.mono ?_; rintro e w' ⟨rfl, rfl⟩)
    refine start_ (n := 15) (S := fun w' => w'.cell? ⟨p, 0, none⟩ = some (.pointer (some ⟨b, 0, none⟩)) ∧ w'.cell? ⟨p, 1, none⟩ = some (.int .i64 (d : Int))) (ds := []) #[false, false, false, false, false, false, false, false, false, false, false, false, false, false, false] (by kernel_rfl) rfl rfl ⟨c0, c1⟩ (fun hHeld => ?_)
    refine pure_ (i := 0) (N := some 11) (v := ?_) (a' := ?_) #[true, false, false, false, false, false, false, false, false, false, false, false, false, false, false] rfl rfl (by kernel_rfl) (fun _ _ _ h => h) (Or.inl ⟨by rfl, ?_⟩) ?_ ?_
    rotate_left
    · intro w'
      go_simp
      with_reducible rfl
    rotate_left
    · simp only [Act.put, List.setIfInBounds_toArray, List.set_cons_zero, List.set_cons_succ, i64_w, i32_w]
      rfl
    refine pure_ (i := 1) (N := some 12) (v := ?_) (a' := ?_) #[true, true, false, false, false, false, false, false, false, false, false, false, false, false, false] rfl rfl (by kernel_rfl) (fun _ _ _ h => h) (Or.inl ⟨by rfl, ?_⟩) ?_ ?_
    rotate_left
    · intro w'
      go_simp
      with_reducible rfl
    rotate_left
    · simp only [Act.put, List.setIfInBounds_toArray, List.set_cons_zero, List.set_cons_succ, i64_w, i32_w]
      rfl
    refine pure_ (i := 2) (N := some 13) (v := ?_) (a' := ?_) #[true, true, true, false, false, false, false, false, false, false, false, false, false, false, false] rfl rfl (by kernel_rfl) (fun _ _ _ h => h) (Or.inl ⟨by rfl, ?_⟩) ?_ ?_
    rotate_left
    · intro w'
      go_simp
      with_reducible rfl
    rotate_left
    · simp only [Act.put, List.setIfInBounds_toArray, List.set_cons_zero, List.set_cons_succ, i64_w, i32_w]
      rfl
    refine pure_ (i := 4) (N := some 15) (v := ?_) (a' := ?_) #[true, true, true, false, true, false, false, false, false, false, false, false, false, false, false] rfl rfl (by kernel_rfl) (fun _ _ _ h => h) (Or.inl ⟨by rfl, ?_⟩) ?_ ?_
    rotate_left
    · intro w'
      go_simp
      with_reducible rfl
    rotate_left
    · simp only [Act.put, List.setIfInBounds_toArray, List.set_cons_zero, List.set_cons_succ, i64_w, i32_w]
      rfl
    refine pure_ (i := 5) (N := some 16) (v := ?_) (a' := ?_) #[true, true, true, false, true, true, false, false, false, false, false, false, false, false, false] rfl rfl (by kernel_rfl) (fun _ _ _ h => h) (Or.inl ⟨by rfl, ?_⟩) ?_ ?_
    rotate_left
    · intro w'
      go_simp
      with_reducible rfl
    rotate_left
    · simp only [Act.put, List.setIfInBounds_toArray, List.set_cons_zero, List.set_cons_succ, i64_w, i32_w]
      rfl
    refine pure_ (i := 6) (N := some 17) (v := ?_) (a' := ?_) #[true, true, true, false, true, true, true, false, false, false, false, false, false, false, false] rfl rfl (by kernel_rfl) (fun _ _ _ h => h) (Or.inl ⟨by rfl, ?_⟩) ?_ ?_
    rotate_left
    · intro w'
      go_simp
      with_reducible rfl
    rotate_left
    · simp only [Act.put, List.setIfInBounds_toArray, List.set_cons_zero, List.set_cons_succ, i64_w, i32_w]
      rfl
    refine pure_ (i := 7) (N := some 18) (v := ?_) (a' := ?_) #[true, true, true, false, true, true, true, true, false, false, false, false, false, false, false] rfl rfl (by kernel_rfl) (fun _ _ _ h => h) (Or.inl ⟨by rfl, ?_⟩) ?_ ?_
    rotate_left
    · intro w'
      go_simp
      with_reducible rfl
    rotate_left
    · simp only [Act.put, List.setIfInBounds_toArray, List.set_cons_zero, List.set_cons_succ, i64_w, i32_w]
      rfl
    refine take_ (i := 3) (N := some 14) (v := ?_) (a' := ?_) #[true, true, true, true, true, true, true, true, false, false, false, false, false, false, false] rfl rfl (by kernel_rfl) (fun _ _ _ h => h) (Or.inl ⟨by rfl, ?_⟩) hHeld ?_ ?_
    rotate_left
    · rintro w' ⟨s0, s1⟩
      go_simp
      with_reducible rfl
    rotate_left
    · simp only [Act.put, List.setIfInBounds_toArray, List.set_cons_zero, List.set_cons_succ, i64_w, i32_w]
      rfl
    refine take_ (i := 8) (N := some 19) (v := ?_) (a' := ?_) #[true, true, true, true, true, true, true, true, true, false, false, false, false, false, false] rfl rfl (by kernel_rfl) (fun _ _ _ h => h) (Or.inl ⟨by rfl, ?_⟩) hHeld ?_ ?_
    rotate_left
    · rintro w' ⟨s0, s1⟩
      go_simp
      with_reducible rfl
    rotate_left
    · simp only [Act.put, List.setIfInBounds_toArray, List.set_cons_zero, List.set_cons_succ, i64_w, i32_w]
      rfl
    refine one_ (i := 9) (N := some 20) #[true, true, true, true, true, true, true, true, true, true, false, false, false, false, false] rfl rfl (by kernel_rfl) (by decide) (fun K hK => ?_)
    refine goes_ Try.func24 (by kernel_rfl) rfl #[.pointer (some ⟨b, 0, none⟩), .string k, .int .i64 (d : Int)] (by rfl) rfl rfl (by simp only [List.map_toArray, List.map_cons, List.map_nil]; rfl) ?_
    with_reducible refine (hrem'.out _ (by first | exact kW0.out | exact kW0.out.drew)).mono ?_
    rintro e w7 ⟨rfl, b7, q7⟩
    refine ⟨_, rfl, ?_⟩
    obtain ⟨d0', d1', d2', df'⟩ := blk_cells b7
    refine hK.out _ _ ⟨d0', d1'⟩ (fun hHeld => ?_)
    clear hK K
    refine norm_ (a' := ?_) ?_ ?_
    rotate_left
    · show Act.put _ (some 20) _ = _
      simp only [Act.put, List.setIfInBounds_toArray, List.set_cons_zero, List.set_cons_succ, i64_w, i32_w]
      rfl
    refine pure_ (i := 10) (N := some 10) (v := ?_) (a' := ?_) #[true, true, true, true, true, true, true, true, true, true, true, false, false, false, false] rfl rfl (by kernel_rfl) (fun _ _ _ h => h) (Or.inl ⟨by rfl, ?_⟩) ?_ ?_
    rotate_left
    · intro w'
      go_simp
      with_reducible rfl
    rotate_left
    · simp only [Act.put, List.setIfInBounds_toArray, List.set_cons_zero, List.set_cons_succ, i64_w, i32_w]
      rfl
    refine pure_ (i := 11) (N := some 21) (v := ?_) (a' := ?_) #[true, true, true, true, true, true, true, true, true, true, true, true, false, false, false] rfl rfl (by kernel_rfl) (fun _ _ _ h => h) (Or.inl ⟨by rfl, ?_⟩) ?_ ?_
    rotate_left
    · intro w'
      go_simp
      with_reducible rfl
    rotate_left
    · simp only [Act.put, List.setIfInBounds_toArray, List.set_cons_zero, List.set_cons_succ, i64_w, i32_w]
      rfl
    refine pure_ (i := 12) (N := some 22) (v := ?_) (a' := ?_) #[true, true, true, true, true, true, true, true, true, true, true, true, true, false, false] rfl rfl (by kernel_rfl) (fun _ _ _ h => h) (Or.inl ⟨by rfl, ?_⟩) ?_ ?_
    rotate_left
    · intro w'
      go_simp
      with_reducible rfl
    rotate_left
    · simp only [Act.put, List.setIfInBounds_toArray, List.set_cons_zero, List.set_cons_succ, i64_w, i32_w]
      rfl
    refine pure_ (i := 13) (N := some 6) (v := ?_) (a' := ?_) #[true, true, true, true, true, true, true, true, true, true, true, true, true, true, false] rfl rfl (by kernel_rfl) (fun _ _ _ h => h) (Or.inl ⟨by rfl, ?_⟩) ?_ ?_
    rotate_left
    · intro w'
      go_simp
      with_reducible rfl
    rotate_left
    · simp only [Act.put, List.setIfInBounds_toArray, List.set_cons_zero, List.set_cons_succ, i64_w, i32_w]
      rfl
    refine pure_ (i := 14) (N := some 7) (v := ?_) (a' := ?_) #[true, true, true, true, true, true, true, true, true, true, true, true, true, true, true] rfl rfl (by kernel_rfl) (fun _ _ _ h => h) (Or.inl ⟨by rfl, ?_⟩) ?_ ?_
    rotate_left
    · intro w'
      go_simp
      with_reducible rfl
    rotate_left
    · simp only [Act.put, List.setIfInBounds_toArray, List.set_cons_zero, List.set_cons_succ, i64_w, i32_w]
      rfl
    refine done_ (by kernel_rfl) ?_
    go_upto_region 4 with (fail)
    obtain ⟨w2, ak, nk, ck, ac, nc, cc, e0, e2, hcase⟩ := hR'.out _ q7
    have q7' := Hid.mk' q7
    have b7' := Hid.mk' b7
    have fz0 := df' 0
    have fz2 := df' 2
    clear c0 c1 c2 cf q7 b7
    rcases hcase with ⟨rfl, rfl⟩ | ⟨h0, h1, rfl⟩ | ⟨rfl, h1, g, q, rfl, hq, rfl⟩
    · skip
      go_wp2_with (go_at_call 25; refine (leaf_yes b _ _ _ e2).mono ?_; rintro e w' ⟨rfl, rfl⟩)
      all_goals go_ret2
      all_goals exact ⟨rfl, _, _, q7'.out, b7'.out, ⟨_, _, _, _, _, _, e0, e2, .inl ⟨rfl, rfl⟩⟩, by simp, by simp⟩
    · skip
      have hne : ((nk : Int) == 0) = false := by rw [beq_eq_false_iff_ne]; omega
      go_wp2_with (go_at_call 25; refine (leaf_no b _ _ _ _ e2 h1).mono ?_; rintro e w' ⟨rfl, rfl⟩)
      all_goals go_ret2
      all_goals exact ⟨rfl, _, _, q7'.out, b7'.out, ⟨_, _, _, _, _, _, e0, e2, .inr (.inl ⟨h0, h1, rfl⟩)⟩, by simp, by simp⟩
    · skip
      have h1' : (0 : Int) < (nc : Int) := by omega
      have g2 : (w7.setCell ⟨p, 0, none⟩ (.pointer (some ⟨q, 0, none⟩))).cell? ⟨p, 2, none⟩ = some (.int .i64 (n : Int)) := by rw [cell_of_row _ p 2 _ _ _ (heap_setCell_at w7 p 0 _ _ _ _ b7'.out)]; rfl
      have g3 : (w7.setCell ⟨p, 0, none⟩ (.pointer (some ⟨q, 0, none⟩))).frozen? ⟨p, 2, none⟩ = false := frozen_of_row _ p 2 _ _ (heap_setCell_at w7 p 0 _ _ _ _ b7'.out)
      go_wp2_with (go_at_call 25; refine (leaf_no b _ _ _ _ e2 h1).mono ?_; rintro e w' ⟨rfl, rfl⟩)
      all_goals go_ret2
      all_goals exact ⟨rfl, _, _, q7'.out, b7'.out, ⟨_, _, _, _, _, _, e0, e2, .inr (.inr ⟨rfl, h1, g, q, rfl, hq, rfl⟩)⟩, by simp, by simp⟩
  · have m5 : IntKind.i64.wrap ((n : Int) - 1) = (n : Int) - 1 := by have := hn0 rfl; rw [IntKind.wrap_i64]; omega
    go_enter Try.func11, Try.ntmps11
    go_upto_region 3 with (go_at_call 23; refine h'.out.mono ?_; rintro e w' ⟨rfl, rfl⟩)
    refine start_ (n := 15) (S := fun w' => w'.cell? ⟨p, 0, none⟩ = some (.pointer (some ⟨b, 0, none⟩)) ∧ w'.cell? ⟨p, 1, none⟩ = some (.int .i64 (d : Int))) (ds := []) #[false, false, false, false, false, false, false, false, false, false, false, false, false, false, false] (by kernel_rfl) rfl rfl ⟨c0, c1⟩ (fun hHeld => ?_)
    refine pure_ (i := 0) (N := some 11) (v := ?_) (a' := ?_) #[true, false, false, false, false, false, false, false, false, false, false, false, false, false, false] rfl rfl (by kernel_rfl) (fun _ _ _ h => h) (Or.inl ⟨by rfl, ?_⟩) ?_ ?_
    rotate_left
    · intro w'
      go_simp
      with_reducible rfl
    rotate_left
    · simp only [Act.put, List.setIfInBounds_toArray, List.set_cons_zero, List.set_cons_succ, i64_w, i32_w]
      rfl
    refine pure_ (i := 1) (N := some 12) (v := ?_) (a' := ?_) #[true, true, false, false, false, false, false, false, false, false, false, false, false, false, false] rfl rfl (by kernel_rfl) (fun _ _ _ h => h) (Or.inl ⟨by rfl, ?_⟩) ?_ ?_
    rotate_left
    · intro w'
      go_simp
      with_reducible rfl
    rotate_left
    · simp only [Act.put, List.setIfInBounds_toArray, List.set_cons_zero, List.set_cons_succ, i64_w, i32_w]
      rfl
    refine pure_ (i := 2) (N := some 13) (v := ?_) (a' := ?_) #[true, true, true, false, false, false, false, false, false, false, false, false, false, false, false] rfl rfl (by kernel_rfl) (fun _ _ _ h => h) (Or.inl ⟨by rfl, ?_⟩) ?_ ?_
    rotate_left
    · intro w'
      go_simp
      with_reducible rfl
    rotate_left
    · simp only [Act.put, List.setIfInBounds_toArray, List.set_cons_zero, List.set_cons_succ, i64_w, i32_w]
      rfl
    refine pure_ (i := 4) (N := some 15) (v := ?_) (a' := ?_) #[true, true, true, false, true, false, false, false, false, false, false, false, false, false, false] rfl rfl (by kernel_rfl) (fun _ _ _ h => h) (Or.inl ⟨by rfl, ?_⟩) ?_ ?_
    rotate_left
    · intro w'
      go_simp
      with_reducible rfl
    rotate_left
    · simp only [Act.put, List.setIfInBounds_toArray, List.set_cons_zero, List.set_cons_succ, i64_w, i32_w]
      rfl
    refine pure_ (i := 5) (N := some 16) (v := ?_) (a' := ?_) #[true, true, true, false, true, true, false, false, false, false, false, false, false, false, false] rfl rfl (by kernel_rfl) (fun _ _ _ h => h) (Or.inl ⟨by rfl, ?_⟩) ?_ ?_
    rotate_left
    · intro w'
      go_simp
      with_reducible rfl
    rotate_left
    · simp only [Act.put, List.setIfInBounds_toArray, List.set_cons_zero, List.set_cons_succ, i64_w, i32_w]
      rfl
    refine pure_ (i := 6) (N := some 17) (v := ?_) (a' := ?_) #[true, true, true, false, true, true, true, false, false, false, false, false, false, false, false] rfl rfl (by kernel_rfl) (fun _ _ _ h => h) (Or.inl ⟨by rfl, ?_⟩) ?_ ?_
    rotate_left
    · intro w'
      go_simp
      with_reducible rfl
    rotate_left
    · simp only [Act.put, List.setIfInBounds_toArray, List.set_cons_zero, List.set_cons_succ, i64_w, i32_w]
      rfl
    refine pure_ (i := 7) (N := some 18) (v := ?_) (a' := ?_) #[true, true, true, false, true, true, true, true, false, false, false, false, false, false, false] rfl rfl (by kernel_rfl) (fun _ _ _ h => h) (Or.inl ⟨by rfl, ?_⟩) ?_ ?_
    rotate_left
    · intro w'
      go_simp
      with_reducible rfl
    rotate_left
    · simp only [Act.put, List.setIfInBounds_toArray, List.set_cons_zero, List.set_cons_succ, i64_w, i32_w]
      rfl
    refine take_ (i := 3) (N := some 14) (v := ?_) (a' := ?_) #[true, true, true, true, true, true, true, true, false, false, false, false, false, false, false] rfl rfl (by kernel_rfl) (fun _ _ _ h => h) (Or.inl ⟨by rfl, ?_⟩) hHeld ?_ ?_
    rotate_left
    · rintro w' ⟨s0, s1⟩
      go_simp
      with_reducible rfl
    rotate_left
    · simp only [Act.put, List.setIfInBounds_toArray, List.set_cons_zero, List.set_cons_succ, i64_w, i32_w]
      rfl
    refine take_ (i := 8) (N := some 19) (v := ?_) (a' := ?_) #[true, true, true, true, true, true, true, true, true, false, false, false, false, false, false] rfl rfl (by kernel_rfl) (fun _ _ _ h => h) (Or.inl ⟨by rfl, ?_⟩) hHeld ?_ ?_
    rotate_left
    · rintro w' ⟨s0, s1⟩
      go_simp
      with_reducible rfl
    rotate_left
    · simp only [Act.put, List.setIfInBounds_toArray, List.set_cons_zero, List.set_cons_succ, i64_w, i32_w]
      rfl
    refine one_ (i := 9) (N := some 20) #[true, true, true, true, true, true, true, true, true, true, false, false, false, false, false] rfl rfl (by kernel_rfl) (by decide) (fun K hK => ?_)
    refine goes_ Try.func24 (by kernel_rfl) rfl #[.pointer (some ⟨b, 0, none⟩), .string k, .int .i64 (d : Int)] (by rfl) rfl rfl (by simp only [List.map_toArray, List.map_cons, List.map_nil]; rfl) ?_
    with_reducible refine (hrem'.out _ (by first | exact kW0.out | exact kW0.out.drew)).mono ?_
    rintro e w7 ⟨rfl, b7, q7⟩
    refine ⟨_, rfl, ?_⟩
    obtain ⟨d0', d1', d2', df'⟩ := blk_cells b7
    refine hK.out _ _ ⟨d0', d1'⟩ (fun hHeld => ?_)
    clear hK K
    refine norm_ (a' := ?_) ?_ ?_
    rotate_left
    · show Act.put _ (some 20) _ = _
      simp only [Act.put, List.setIfInBounds_toArray, List.set_cons_zero, List.set_cons_succ, i64_w, i32_w]
      rfl
    refine pure_ (i := 10) (N := some 10) (v := ?_) (a' := ?_) #[true, true, true, true, true, true, true, true, true, true, true, false, false, false, false] rfl rfl (by kernel_rfl) (fun _ _ _ h => h) (Or.inl ⟨by rfl, ?_⟩) ?_ ?_
    rotate_left
    · intro w'
      go_simp
      with_reducible rfl
    rotate_left
    · simp only [Act.put, List.setIfInBounds_toArray, List.set_cons_zero, List.set_cons_succ, i64_w, i32_w]
      rfl
    refine pure_ (i := 11) (N := some 21) (v := ?_) (a' := ?_) #[true, true, true, true, true, true, true, true, true, true, true, true, false, false, false] rfl rfl (by kernel_rfl) (fun _ _ _ h => h) (Or.inl ⟨by rfl, ?_⟩) ?_ ?_
    rotate_left
    · intro w'
      go_simp
      with_reducible rfl
    rotate_left
    · simp only [Act.put, List.setIfInBounds_toArray, List.set_cons_zero, List.set_cons_succ, i64_w, i32_w]
      rfl
    refine pure_ (i := 12) (N := some 22) (v := ?_) (a' := ?_) #[true, true, true, true, true, true, true, true, true, true, true, true, true, false, false] rfl rfl (by kernel_rfl) (fun _ _ _ h => h) (Or.inl ⟨by rfl, ?_⟩) ?_ ?_
    rotate_left
    · intro w'
      go_simp
      with_reducible rfl
    rotate_left
    · simp only [Act.put, List.setIfInBounds_toArray, List.set_cons_zero, List.set_cons_succ, i64_w, i32_w]
      rfl
    refine pure_ (i := 13) (N := some 6) (v := ?_) (a' := ?_) #[true, true, true, true, true, true, true, true, true, true, true, true, true, true, false] rfl rfl (by kernel_rfl) (fun _ _ _ h => h) (Or.inl ⟨by rfl, ?_⟩) ?_ ?_
    rotate_left
    · intro w'
      go_simp
      with_reducible rfl
    rotate_left
    · simp only [Act.put, List.setIfInBounds_toArray, List.set_cons_zero, List.set_cons_succ, i64_w, i32_w]
      rfl
    refine pure_ (i := 14) (N := some 7) (v := ?_) (a' := ?_) #[true, true, true, true, true, true, true, true, true, true, true, true, true, true, true] rfl rfl (by kernel_rfl) (fun _ _ _ h => h) (Or.inl ⟨by rfl, ?_⟩) ?_ ?_
    rotate_left
    · intro w'
      go_simp
      with_reducible rfl
    rotate_left
    · simp only [Act.put, List.setIfInBounds_toArray, List.set_cons_zero, List.set_cons_succ, i64_w, i32_w]
      rfl
    refine done_ (by kernel_rfl) ?_
    go_upto_region 4 with (fail)
    obtain ⟨w2, ak, nk, ck, ac, nc, cc, e0, e2, hcase⟩ := hR'.out _ q7
    have q7' := Hid.mk' q7
    have b7' := Hid.mk' b7
    have fz0 := df' 0
    have fz2 := df' 2
    clear c0 c1 c2 cf q7 b7
    rcases hcase with ⟨rfl, rfl⟩ | ⟨h0, h1, rfl⟩ | ⟨rfl, h1, g, q, rfl, hq, rfl⟩
    · skip
      go_wp2_with (go_at_call 25; refine (leaf_yes b _ _ _ e2).mono ?_; rintro e w' ⟨rfl, rfl⟩)
      all_goals go_ret2
      all_goals exact ⟨rfl, _, _, q7'.out, b7'.out, ⟨_, _, _, _, _, _, e0, e2, .inl ⟨rfl, rfl⟩⟩, by simp, by simp⟩
    · skip
      have hne : ((nk : Int) == 0) = false := by rw [beq_eq_false_iff_ne]; omega
      go_wp2_with (go_at_call 25; refine (leaf_no b _ _ _ _ e2 h1).mono ?_; rintro e w' ⟨rfl, rfl⟩)
      all_goals go_ret2
      all_goals exact ⟨rfl, _, _, q7'.out, b7'.out, ⟨_, _, _, _, _, _, e0, e2, .inr (.inl ⟨h0, h1, rfl⟩)⟩, by simp, by simp⟩
    · skip
      have h1' : (0 : Int) < (nc : Int) := by omega
      have g2 : (w7.setCell ⟨p, 0, none⟩ (.pointer (some ⟨q, 0, none⟩))).cell? ⟨p, 2, none⟩ = some (.int .i64 (n : Int)) := by rw [cell_of_row _ p 2 _ _ _ (heap_setCell_at w7 p 0 _ _ _ _ b7'.out)]; rfl
      have g3 : (w7.setCell ⟨p, 0, none⟩ (.pointer (some ⟨q, 0, none⟩))).frozen? ⟨p, 2, none⟩ = false := frozen_of_row _ p 2 _ _ (heap_setCell_at w7 p 0 _ _ _ _ b7'.out)
      go_wp2_with (go_at_call 25; refine (leaf_no b _ _ _ _ e2 h1).mono ?_; rintro e w' ⟨rfl, rfl⟩)
      all_goals go_ret2
      all_goals exact ⟨rfl, _, _, q7'.out, b7'.out, ⟨_, _, _, _, _, _, e0, e2, .inr (.inr ⟨rfl, h1, g, q, rfl, hq, rfl⟩)⟩, by simp, by simp⟩

theorem check_walk (p b d n : Nat) (h : Int) (x : ByteArray) (y : Bool) (w : World) (hb : w.heap[p]? = some (.cells #[.pointer (some ⟨b, 0, none⟩), .int .i64 (d : Int), .int .i64 (n : Int)] 50 (0, 0)))
    (h1 : ∀ W, Chg NoB w W → Calls Try.prog 29 #[.pointer (some ⟨b, 0, none⟩), .int .i64 (d : Int), .bool true] W fun e w' => e = .returned (.tuple #[.int .i64 (n : Int), .int .i64 h, .bool true]) ∧ W = w')
    (h2 : ∀ W, Chg NoB w W → Calls Try.prog 30 #[.pointer (some ⟨b, 0, none⟩), .string ⟨#[]⟩, .bool false] W fun e w' => e = .returned (.tuple #[.string x, .bool y, .bool true]) ∧ W = w') :
    Calls Try.prog 14 #[.pointer (some ⟨p, 0, none⟩)] w fun e w' => e = .returned (.bool true) ∧ Chg NoB w w' := by
  obtain ⟨c0, c1, c2, cf⟩ := blk_cells hb
  have h' := Hid.mk' (none_not p b w c0)
  have h1' := Hid.mk' h1
  have h2' := Hid.mk' h2
  have kW0 := Hid.mk' (Chg.refl NoB w)
  clear h1 h2 hb
  go_enter Try.func14, Try.ntmps14
  go_upto_region 3 with (go_at_call 23; refine h'.out.mono ?_; rintro e w' ⟨rfl, rfl⟩)
  refine start_ (n := 16) (S := fun w' => w'.cell? ⟨p, 0, none⟩ = some (.pointer (some ⟨b, 0, none⟩)) ∧ w'.cell? ⟨p, 1, none⟩ = some (.int .i64 (d : Int))) (ds := []) #[false, false, false, false, false, false, false, false, false, false, false, false, false, false, false, false] (by kernel_rfl) rfl rfl ⟨c0, c1⟩ (fun hHeld => ?_)
  refine pure_ (i := 0) (N := some 12) (v := ?_) (a' := ?_) #[true, false, false, false, false, false, false, false, false, false, false, false, false, false, false, false] rfl rfl (by kernel_rfl) (fun _ _ _ h => h) (Or.inl ⟨by rfl, ?_⟩) ?_ ?_
  rotate_left
  · intro w'
    go_simp
    with_reducible rfl
  rotate_left
  · simp only [Act.put, List.setIfInBounds_toArray, List.set_cons_zero, List.set_cons_succ, i64_w, i32_w]
    rfl
  refine pure_ (i := 1) (N := some 13) (v := ?_) (a' := ?_) #[true, true, false, false, false, false, false, false, false, false, false, false, false, false, false, false] rfl rfl (by kernel_rfl) (fun _ _ _ h => h) (Or.inl ⟨by rfl, ?_⟩) ?_ ?_
  rotate_left
  · intro w'
    go_simp
    with_reducible rfl
  rotate_left
  · simp only [Act.put, List.setIfInBounds_toArray, List.set_cons_zero, List.set_cons_succ, i64_w, i32_w]
    rfl
  refine pure_ (i := 2) (N := some 14) (v := ?_) (a' := ?_) #[true, true, true, false, false, false, false, false, false, false, false, false, false, false, false, false] rfl rfl (by kernel_rfl) (fun _ _ _ h => h) (Or.inl ⟨by rfl, ?_⟩) ?_ ?_
  rotate_left
  · intro w'
    go_simp
    with_reducible rfl
  rotate_left
  · simp only [Act.put, List.setIfInBounds_toArray, List.set_cons_zero, List.set_cons_succ, i64_w, i32_w]
    rfl
  refine pure_ (i := 4) (N := some 16) (v := ?_) (a' := ?_) #[true, true, true, false, true, false, false, false, false, false, false, false, false, false, false, false] rfl rfl (by kernel_rfl) (fun _ _ _ h => h) (Or.inl ⟨by rfl, ?_⟩) ?_ ?_
  rotate_left
  · intro w'
    go_simp
    with_reducible rfl
  rotate_left
  · simp only [Act.put, List.setIfInBounds_toArray, List.set_cons_zero, List.set_cons_succ, i64_w, i32_w]
    rfl
  refine pure_ (i := 5) (N := some 17) (v := ?_) (a' := ?_) #[true, true, true, false, true, true, false, false, false, false, false, false, false, false, false, false] rfl rfl (by kernel_rfl) (fun _ _ _ h => h) (Or.inl ⟨by rfl, ?_⟩) ?_ ?_
  rotate_left
  · intro w'
    go_simp
    with_reducible rfl
  rotate_left
  · simp only [Act.put, List.setIfInBounds_toArray, List.set_cons_zero, List.set_cons_succ, i64_w, i32_w]
    rfl
  refine pure_ (i := 6) (N := some 18) (v := ?_) (a' := ?_) #[true, true, true, false, true, true, true, false, false, false, false, false, false, false, false, false] rfl rfl (by kernel_rfl) (fun _ _ _ h => h) (Or.inl ⟨by rfl, ?_⟩) ?_ ?_
  rotate_left
  · intro w'
    go_simp
    with_reducible rfl
  rotate_left
  · simp only [Act.put, List.setIfInBounds_toArray, List.set_cons_zero, List.set_cons_succ, i64_w, i32_w]
    rfl
  refine take_ (i := 3) (N := some 15) (v := ?_) (a' := ?_) #[true, true, true, true, true, true, true, false, false, false, false, false, false, false, false, false] rfl rfl (by kernel_rfl) (fun _ _ _ h => h) (Or.inl ⟨by rfl, ?_⟩) hHeld ?_ ?_
  rotate_left
  · rintro w' ⟨s0, s1⟩
    go_simp
    with_reducible rfl
  rotate_left
  · simp only [Act.put, List.setIfInBounds_toArray, List.set_cons_zero, List.set_cons_succ, i64_w, i32_w]
    rfl
  refine take_ (i := 7) (N := some 19) (v := ?_) (a' := ?_) #[true, true, true, true, true, true, true, true, false, false, false, false, false, false, false, false] rfl rfl (by kernel_rfl) (fun _ _ _ h => h) (Or.inl ⟨by rfl, ?_⟩) hHeld ?_ ?_
  rotate_left
  · rintro w' ⟨s0, s1⟩
    go_simp
    with_reducible rfl
  rotate_left
  · simp only [Act.put, List.setIfInBounds_toArray, List.set_cons_zero, List.set_cons_succ, i64_w, i32_w]
    rfl
  refine one_ (i := 8) (N := some 20) #[true, true, true, true, true, true, true, true, true, false, false, false, false, false, false, false] rfl rfl (by kernel_rfl) (by decide) (fun K hK => ?_)
  refine goes_ Try.func29 (by kernel_rfl) rfl #[.pointer (some ⟨b, 0, none⟩), .int .i64 (d : Int), .bool true] (by rfl) rfl rfl (by simp only [List.map_toArray, List.map_cons, List.map_nil]; rfl) ?_
  with_reducible refine (h1'.out _ (by first | exact kW0.out | exact kW0.out.drew)).mono ?_
  rintro e w7 ⟨rfl, k7⟩
  refine ⟨_, rfl, ?_⟩
  have kW7 : Hid (Chg NoB w w7) := by show Chg _ _ _; rw [← k7]; first | exact kW0.out | exact kW0.out.drew
  clear k7
  refine hK.out _ _ ⟨(kW7.out.cell (fun h => h) c0), (kW7.out.cell (fun h => h) c1)⟩ (fun hHeld => ?_)
  clear hK K
  refine norm_ (a' := ?_) ?_ ?_
  rotate_left
  · show Act.put _ (some 20) _ = _
    simp only [Act.put, List.setIfInBounds_toArray, List.set_cons_zero, List.set_cons_succ, i64_w, i32_w]
    rfl
  refine pure_ (i := 9) (N := some 11) (v := ?_) (a' := ?_) #[true, true, true, true, true, true, true, true, true, true, false, false, false, false, false, false] rfl rfl (by kernel_rfl) (fun _ _ _ h => h) (Or.inl ⟨by rfl, ?_⟩) ?_ ?_
  rotate_left
  · intro w'
    go_simp
    with_reducible rfl
  rotate_left
  · simp only [Act.put, List.setIfInBounds_toArray, List.set_cons_zero, List.set_cons_succ, i64_w, i32_w]
    rfl
  refine pure_ (i := 10) (N := some 21) (v := ?_) (a' := ?_) #[true, true, true, true, true, true, true, true, true, true, true, false, false, false, false, false] rfl rfl (by kernel_rfl) (fun _ _ _ h => h) (Or.inl ⟨by rfl, ?_⟩) ?_ ?_
  rotate_left
  · intro w'
    go_simp
    with_reducible rfl
  rotate_left
  · simp only [Act.put, List.setIfInBounds_toArray, List.set_cons_zero, List.set_cons_succ, i64_w, i32_w]
    rfl
  refine pure_ (i := 11) (N := some 22) (v := ?_) (a' := ?_) #[true, true, true, true, true, true, true, true, true, true, true, true, false, false, false, false] rfl rfl (by kernel_rfl) (fun _ _ _ h => h) (Or.inl ⟨by rfl, ?_⟩) ?_ ?_
  rotate_left
  · intro w'
    go_simp
    with_reducible rfl
  rotate_left
  · simp only [Act.put, List.setIfInBounds_toArray, List.set_cons_zero, List.set_cons_succ, i64_w, i32_w]
    rfl
  refine pure_ (i := 12) (N := some 23) (v := ?_) (a' := ?_) #[true, true, true, true, true, true, true, true, true, true, true, true, true, false, false, false] rfl rfl (by kernel_rfl) (fun _ _ _ h => h) (Or.inl ⟨by rfl, ?_⟩) ?_ ?_
  rotate_left
  · intro w'
    go_simp
    with_reducible rfl
  rotate_left
  · simp only [Act.put, List.setIfInBounds_toArray, List.set_cons_zero, List.set_cons_succ, i64_w, i32_w]
    rfl
  refine pure_ (i := 13) (N := some 3) (v := ?_) (a' := ?_) #[true, true, true, true, true, true, true, true, true, true, true, true, true, true, false, false] rfl rfl (by kernel_rfl) (fun _ _ _ h => h) (Or.inl ⟨by rfl, ?_⟩) ?_ ?_
  rotate_left
  · intro w'
    go_simp
    with_reducible rfl
  rotate_left
  · simp only [Act.put, List.setIfInBounds_toArray, List.set_cons_zero, List.set_cons_succ, i64_w, i32_w]
    rfl
  refine pure_ (i := 14) (N := some 4) (v := ?_) (a' := ?_) #[true, true, true, true, true, true, true, true, true, true, true, true, true, true, true, false] rfl rfl (by kernel_rfl) (fun _ _ _ h => h) (Or.inl ⟨by rfl, ?_⟩) ?_ ?_
  rotate_left
  · intro w'
    go_simp
    with_reducible rfl
  rotate_left
  · simp only [Act.put, List.setIfInBounds_toArray, List.set_cons_zero, List.set_cons_succ, i64_w, i32_w]
    rfl
  refine pure_ (i := 15) (N := some 5) (v := ?_) (a' := ?_) #[true, true, true, true, true, true, true, true, true, true, true, true, true, true, true, true] rfl rfl (by kernel_rfl) (fun _ _ _ h => h) (Or.inl ⟨by rfl, ?_⟩) ?_ ?_
  rotate_left
  · intro w'
    go_simp
    with_reducible rfl
  rotate_left
  · simp only [Act.put, List.setIfInBounds_toArray, List.set_cons_zero, List.set_cons_succ, i64_w, i32_w]
    rfl
  refine done_ (by kernel_rfl) ?_
  have d0 := kW7.out.cell (fun h => h) c0
  have d2 := kW7.out.cell (fun h => h) c2
  go_wp2_with (go_at_call 30; refine (h2'.out _ kW7.out).mono ?_; rintro e w' ⟨rfl, rfl⟩)
  go_ret
  exact ⟨rfl, kW7.out⟩

theorem clone_walk12 (p b d n : Nat) (R : Nat → World → Prop) (w : World) (hb : w.heap[p]? = some (.cells #[.pointer (some ⟨b, 0, none⟩), .int .i64 (d : Int), .int .i64 (n : Int)] 50 (0, 0)))
    (h1 : ∀ W, Chg NoB w W → Calls Try.prog 26 #[.pointer (some ⟨b, 0, none⟩)] W fun e w' => ∃ r, e = .returned (.pointer (some ⟨r, 0, none⟩)) ∧ Chg NoB W w' ∧ R r w') :
    Calls Try.prog 12 #[.pointer (some ⟨p, 0, none⟩)] w fun e w' => ∃ r w1 w2, e = .returned (.pointer (some ⟨w2.heap.size, 0, none⟩)) ∧ R r w1 ∧ Chg NoB w w1 ∧ (w2 = w1 ∨ w2 = w1.drew) ∧ w' = w2.alloc (.cells #[.pointer (some ⟨r, 0, none⟩), .int .i64 (d : Int), .int .i64 (n : Int)] 50) := by
  obtain ⟨c0, c1, c2, cf⟩ := blk_cells hb
  have h' := Hid.mk' (none_not p b w c0)
  have h1' := Hid.mk' h1
  have kW0 := Hid.mk' (Chg.refl NoB w)
  clear h1 hb
  go_enter Try.func12, Try.ntmps12
  go_upto_region 3 with (go_at_call 23; refine h'.out.mono ?_; rintro e w' ⟨rfl, rfl⟩)
  refine start_ (n := 16) (S := fun w' => w'.cell? ⟨p, 0, none⟩ = some (.pointer (some ⟨b, 0, none⟩)) ∧ w'.cell? ⟨p, 1, none⟩ = some (.int .i64 (d : Int)) ∧ w'.cell? ⟨p, 2, none⟩ = some (.int .i64 (n : Int))) (ds := []) #[false, false, false, false, false, false, false, false, false, false, false, false, false, false, false, false] (by kernel_rfl) rfl rfl ⟨c0, c1, c2⟩ (fun hHeld => ?_)
  refine pure_ (i := 0) (N := some 5) (v := ?_) (a' := ?_) #[true, false, false, false, false, false, false, false, false, false, false, false, false, false, false, false] rfl rfl (by kernel_rfl) (fun _ _ _ h => h) (Or.inl ⟨by rfl, ?_⟩) ?_ ?_
  rotate_left
  · intro w'
    go_simp
    with_reducible rfl
  rotate_left
  · simp only [Act.put, List.setIfInBounds_toArray, List.set_cons_zero, List.set_cons_succ, i64_w, i32_w]
    rfl
  refine pure_ (i := 1) (N := some 6) (v := ?_) (a' := ?_) #[true, true, false, false, false, false, false, false, false, false, false, false, false, false, false, false] rfl rfl (by kernel_rfl) (fun _ _ _ h => h) (Or.inl ⟨by rfl, ?_⟩) ?_ ?_
  rotate_left
  · intro w'
    go_simp
    with_reducible rfl
  rotate_left
  · simp only [Act.put, List.setIfInBounds_toArray, List.set_cons_zero, List.set_cons_succ, i64_w, i32_w]
    rfl
  refine pure_ (i := 2) (N := some 7) (v := ?_) (a' := ?_) #[true, true, true, false, false, false, false, false, false, false, false, false, false, false, false, false] rfl rfl (by kernel_rfl) (fun _ _ _ h => h) (Or.inl ⟨by rfl, ?_⟩) ?_ ?_
  rotate_left
  · intro w'
    go_simp
    with_reducible rfl
  rotate_left
  · simp only [Act.put, List.setIfInBounds_toArray, List.set_cons_zero, List.set_cons_succ, i64_w, i32_w]
    rfl
  refine pure_ (i := 5) (N := some 10) (v := ?_) (a' := ?_) #[true, true, true, false, false, true, false, false, false, false, false, false, false, false, false, false] rfl rfl (by kernel_rfl) (fun _ _ _ h => h) (Or.inl ⟨by rfl, ?_⟩) ?_ ?_
  rotate_left
  · intro w'
    go_simp
    with_reducible rfl
  rotate_left
  · simp only [Act.put, List.setIfInBounds_toArray, List.set_cons_zero, List.set_cons_succ, i64_w, i32_w]
    rfl
  refine pure_ (i := 6) (N := some 11) (v := ?_) (a' := ?_) #[true, true, true, false, false, true, true, false, false, false, false, false, false, false, false, false] rfl rfl (by kernel_rfl) (fun _ _ _ h => h) (Or.inl ⟨by rfl, ?_⟩) ?_ ?_
  rotate_left
  · intro w'
    go_simp
    with_reducible rfl
  rotate_left
  · simp only [Act.put, List.setIfInBounds_toArray, List.set_cons_zero, List.set_cons_succ, i64_w, i32_w]
    rfl
  refine pure_ (i := 7) (N := some 12) (v := ?_) (a' := ?_) #[true, true, true, false, false, true, true, true, false, false, false, false, false, false, false, false] rfl rfl (by kernel_rfl) (fun _ _ _ h => h) (Or.inl ⟨by rfl, ?_⟩) ?_ ?_
  rotate_left
  · intro w'
    go_simp
    with_reducible rfl
  rotate_left
  · simp only [Act.put, List.setIfInBounds_toArray, List.set_cons_zero, List.set_cons_succ, i64_w, i32_w]
    rfl
  refine pure_ (i := 9) (N := some 14) (v := ?_) (a' := ?_) #[true, true, true, false, false, true, true, true, false, true, false, false, false, false, false, false] rfl rfl (by kernel_rfl) (fun _ _ _ h => h) (Or.inl ⟨by rfl, ?_⟩) ?_ ?_
  rotate_left
  · intro w'
    go_simp
    with_reducible rfl
  rotate_left
  · simp only [Act.put, List.setIfInBounds_toArray, List.set_cons_zero, List.set_cons_succ, i64_w, i32_w]
    rfl
  refine pure_ (i := 10) (N := some 15) (v := ?_) (a' := ?_) #[true, true, true, false, false, true, true, true, false, true, true, false, false, false, false, false] rfl rfl (by kernel_rfl) (fun _ _ _ h => h) (Or.inl ⟨by rfl, ?_⟩) ?_ ?_
  rotate_left
  · intro w'
    go_simp
    with_reducible rfl
  rotate_left
  · simp only [Act.put, List.setIfInBounds_toArray, List.set_cons_zero, List.set_cons_succ, i64_w, i32_w]
    rfl
  refine pure_ (i := 11) (N := some 16) (v := ?_) (a' := ?_) #[true, true, true, false, false, true, true, true, false, true, true, true, false, false, false, false] rfl rfl (by kernel_rfl) (fun _ _ _ h => h) (Or.inl ⟨by rfl, ?_⟩) ?_ ?_
  rotate_left
  · intro w'
    go_simp
    with_reducible rfl
  rotate_left
  · simp only [Act.put, List.setIfInBounds_toArray, List.set_cons_zero, List.set_cons_succ, i64_w, i32_w]
    rfl
  refine take_ (i := 3) (N := some 8) (v := ?_) (a' := ?_) #[true, true, true, true, false, true, true, true, false, true, true, true, false, false, false, false] rfl rfl (by kernel_rfl) (fun _ _ _ h => h) (Or.inl ⟨by rfl, ?_⟩) hHeld ?_ ?_
  rotate_left
  · rintro w' ⟨s0, s1, s2⟩
    go_simp
    with_reducible rfl
  rotate_left
  · simp only [Act.put, List.setIfInBounds_toArray, List.set_cons_zero, List.set_cons_succ, i64_w, i32_w]
    rfl
  refine take_ (i := 8) (N := some 13) (v := ?_) (a' := ?_) #[true, true, true, true, false, true, true, true, true, true, true, true, false, false, false, false] rfl rfl (by kernel_rfl) (fun _ _ _ h => h) (Or.inl ⟨by rfl, ?_⟩) hHeld ?_ ?_
  rotate_left
  · rintro w' ⟨s0, s1, s2⟩
    go_simp
    with_reducible rfl
  rotate_left
  · simp only [Act.put, List.setIfInBounds_toArray, List.set_cons_zero, List.set_cons_succ, i64_w, i32_w]
    rfl
  refine take_ (i := 12) (N := some 17) (v := ?_) (a' := ?_) #[true, true, true, true, false, true, true, true, true, true, true, true, true, false, false, false] rfl rfl (by kernel_rfl) (fun _ _ _ h => h) (Or.inl ⟨by rfl, ?_⟩) hHeld ?_ ?_
  rotate_left
  · rintro w' ⟨s0, s1, s2⟩
    go_simp
    with_reducible rfl
  rotate_left
  · simp only [Act.put, List.setIfInBounds_toArray, List.set_cons_zero, List.set_cons_succ, i64_w, i32_w]
    rfl
  refine one_ (i := 4) (N := some 9) #[true, true, true, true, true, true, true, true, true, true, true, true, true, false, false, false] rfl rfl (by kernel_rfl) (by decide) (fun K hK => ?_)
  refine goes_ Try.func26 (by kernel_rfl) rfl #[.pointer (some ⟨b, 0, none⟩)] (by rfl) rfl rfl (by simp only [List.map_toArray, List.map_cons, List.map_nil]; rfl) ?_
  with_reducible refine (h1'.out _ (by first | exact kW0.out | exact kW0.out.drew)).mono ?_
  rintro e w7 ⟨r, rfl, k7, q7⟩
  refine ⟨_, rfl, ?_⟩
  have kW7 : Hid (Chg NoB w w7) := by first | exact kW0.out.trans k7 | exact kW0.out.drew.trans k7
  clear k7
  replace q7 := Hid.mk' q7
  refine hK.out _ _ ⟨(kW7.out.cell (fun h => h) c0), (kW7.out.cell (fun h => h) c1), (kW7.out.cell (fun h => h) c2)⟩ (fun hHeld => ?_)
  clear hK K
  refine norm_ (a' := ?_) ?_ ?_
  rotate_left
  · show Act.put _ (some 9) _ = _
    simp only [Act.put, List.setIfInBounds_toArray, List.set_cons_zero, List.set_cons_succ, i64_w, i32_w]
    rfl
  refine pure_ (i := 13) (N := some 18) (v := ?_) (a' := ?_) #[true, true, true, true, true, true, true, true, true, true, true, true, true, true, false, false] rfl rfl (by kernel_rfl) (fun _ _ _ h => h) (Or.inl ⟨by rfl, ?_⟩) ?_ ?_
  rotate_left
  · intro w'
    go_simp
    with_reducible rfl
  rotate_left
  · simp only [Act.put, List.setIfInBounds_toArray, List.set_cons_zero, List.set_cons_succ, i64_w, i32_w]
    rfl
  refine one_ (i := 14) (N := some 19) #[true, true, true, true, true, true, true, true, true, true, true, true, true, true, true, false] rfl rfl (by kernel_rfl) (by decide) (fun K hK => ?_)
  refine value_ (w1 := ?_) (v := ?_) (by rfl) rfl ?_ ?_
  rotate_left 2
  · go_simp
    constructor
    · rfl
    · rfl
  refine hK.out _ _ ⟨(Lib.cell?_alloc_some _ (kW7.out.cell (fun h => h) c0)), (Lib.cell?_alloc_some _ (kW7.out.cell (fun h => h) c1)), (Lib.cell?_alloc_some _ (kW7.out.cell (fun h => h) c2))⟩ (fun hHeld => ?_)
  clear hK K
  refine norm_ (a' := ?_) ?_ ?_
  rotate_left
  · show Act.put _ (some 19) _ = _
    simp only [Act.put, List.setIfInBounds_toArray, List.set_cons_zero, List.set_cons_succ, i64_w, i32_w]
    rfl
  refine pure_ (i := 15) (N := some 2) (v := ?_) (a' := ?_) #[true, true, true, true, true, true, true, true, true, true, true, true, true, true, true, true] rfl rfl (by kernel_rfl) (fun _ _ _ h => h) (Or.inl ⟨by rfl, ?_⟩) ?_ ?_
  rotate_left
  · intro w'
    go_simp
    with_reducible rfl
  rotate_left
  · simp only [Act.put, List.setIfInBounds_toArray, List.set_cons_zero, List.set_cons_succ, i64_w, i32_w]
    rfl
  refine done_ (by kernel_rfl) ?_
  go_wp2_with fail
  go_ret
  first
    | exact ⟨r, w7, w7, rfl, q7.out, kW7.out, .inl rfl, rfl⟩
    | exact ⟨r, w7, w7.drew, rfl, q7.out, kW7.out, .inr rfl, rfl⟩

theorem delete11 (p d : Nat) (l : List E) (k : ByteArray) (S : Nat → Prop) (w : World) (hd : 2 ≤ d) (hd2 : d ≤ 32) (hl : l.length ≤ 1000000) (ht : TreeAt w p d l S) :
    Calls Try.prog 11 #[.pointer (some ⟨p, 0, none⟩), .string k] w fun e w' => e = .returned (.tuple #[.int .i64 ((getM k l).getD 0), .bool (getM k l).isSome]) ∧
      TreeAt w' p d (delM k l) (fun j => S j ∨ w.heap.size ≤ j) ∧ Chg S w w' := by
  obtain ⟨b, h, t, S0, hb, hT0, hs, rfl, ha, h1, h7, h8, h9⟩ := ht
  have hT := Tree.there _ _ _ _ hT0
  obtain ⟨S', hS'⟩ : ∃ S' : Nat → Prop, S' = fun j => S0 j ∧ j < w.heap.size := ⟨_, rfl⟩
  rw [← hS'] at hT
  have s8 : Sub S' S := fun j hj => by rw [hS'] at hj; exact h8 j hj.1
  have s9 : ¬ S' p := fun hj => by rw [hS'] at hj; exact h9 hj.1
  clear hT0 h8 h9 hS'
  have hp : p < w.heap.size := (Array.getElem?_eq_some_iff.1 hb).1
  have hlen := delM_len k _ ha
  have np : ¬ (S' p ∨ w.heap.size ≤ p) := fun hj => hj.elim s9 fun h => by omega
  have hn0 : (getM k (flat h t)).isSome = true → 1 ≤ (flat h t).length := fun hf => by
    cases hl : flat h t with
    | nil => rw [hl] at hf; simp [getM] at hf
    | cons _ _ => simp
  refine (del11_walk p b d (flat h t).length k ((getM k (flat h t)).getD 0) _ (fun w1 => ∃ t', Tree w1 h b t' (fun j => S' j ∨ w.heap.size ≤ j) ∧ Chg S' w w1 ∧ Shape d h t' ∧ flat h t' = delM k (flat h t)) w hb (by omega) hn0 (fun W hW => ?_) ?_).mono ?_
  · refine (remove24 d d hd hd2 rfl h k b t S' W (hT.chg hW _ _ _ _ fun _ _ h => h) hs ha h1).mono ?_
    rintro e w' ⟨rfl, t', z1, z2, z3, z4, z5⟩
    exact ⟨rfl, z2.heap s9 (hW.heap (fun h => h) hb), t', z1.mono fun j hj => hj.imp id fun hj => Nat.le_trans hW.size hj, (hW.mono fun _ h => h.elim).trans z2, z3, z4⟩
  · rintro w1 ⟨t', z1, z2, z3, z4⟩
    obtain ⟨vk, vv, vc, bs, SK, hN, s1, s2, s3, hK⟩ := z1.open
    obtain ⟨ak, nk, ck, av, nv, cv, ac, nc, cc, rfl, rfl, rfl, lk0, lv0, lc0⟩ := hN.form'
    by_cases hc0 : nc = 0
    · exact ⟨w1, ak, nk, ck, ac, nc, cc, hN.c0, hN.c2, .inl ⟨hc0, rfl⟩⟩
    · by_cases hk0 : nk = 0
      · have hbl : 0 < bs.length := by have := lc0.out; omega
        obtain ⟨g, rfl, -, hc, -⟩ := hN.rc.at (by simp; omega)
        exact ⟨_, _, nk, ck, _, nc, cc, hN.c0, hN.c2, .inr (.inr ⟨hk0, by omega, g, bs[0], rfl, hc 0 _ (by rw [List.getElem?_map, List.getElem?_eq_getElem hbl]; rfl), rfl⟩)⟩
      · exact ⟨w1, ak, nk, ck, ac, nc, cc, hN.c0, hN.c2, .inr (.inl ⟨by omega, by omega, rfl⟩)⟩
  · rintro e w' ⟨rfl, w1, w2, ⟨t', z1, z2, z3, z4⟩, hb1, hr, y1, y2⟩
    refine ⟨rfl, ?_⟩
    have kS : Chg S w w1 := z2.mono s8
    -- the tree behind the root's change
    have step : ∃ b' h' t2 S2, w2.heap[p]? = some (.cells #[.pointer (some ⟨b', 0, none⟩), .int .i64 (d : Int), .int .i64 ((flat h t).length : Int)] 50 (0, 0)) ∧ Tree w2 h' b' t2 S2 ∧ Sub S2 (fun j => S' j ∨ w.heap.size ≤ j) ∧ Shape d h' t2 ∧ flat h' t2 = delM k (flat h t) ∧ (0 < h' → 1 ≤ t2.ks.length) ∧ Chg S w w2 := by
      obtain ⟨ak, nk, ck, ac, nc, cc, e0, e2, hcase⟩ := hr
      obtain ⟨vk, vv, vc, bs, SK, hN, s1, s2, s3, hK⟩ := z1.open
      obtain rfl : vk = .slice ak nk ck := by have := hN.c0; rw [e0] at this; exact (Option.some.inj this).symm
      obtain rfl : vc = .slice ac nc cc := by have := hN.c2; rw [e2] at this; exact (Option.some.inj this).symm
      have lk : nk = t'.ks.length := by have := hN.rk.cap_le.1; simpa using this
      have lc : nc = bs.length := by have := hN.rc.cap_le.1; simpa using this
      have hbl := hK.length
      rcases hcase with ⟨h0, rfl⟩ | ⟨h0, h1', rfl⟩ | ⟨h0, h1', g, q, rfl, hq, rfl⟩
      · refine ⟨b, h, t', _, hb1, z1, Sub.refl _, z3, z4, fun hh => ?_, kS⟩
        obtain ⟨h', rfl⟩ : ∃ h', h = h' + 1 := ⟨h - 1, by omega⟩
        have := z3.2.2.1
        omega
      · exact ⟨b, h, t', _, hb1, z1, Sub.refl _, z3, z4, fun hh => by omega, kS⟩
      · cases h with
        | zero =>
          have := hK.1
          rw [this] at lc; simp at lc; omega
        | succ h' =>
          obtain ⟨e1, e2', e3, e4⟩ := z3
          have hb0 : 0 < bs.length := by omega
          obtain ⟨hj', -, S2, -, -, q2, -, -, -, -, -, hT', -⟩ := Forest.pick 0 bs t'.cs SK hK hb0
          obtain ⟨gg, hgg, -, hcell, -⟩ := hN.rc.at (by simp; omega)
          cases hgg
          have hqq : bs[0] = q := by
            have := hcell 0 _ (by rw [List.getElem?_map, List.getElem?_eq_getElem hb0]; rfl)
            rw [hq] at this
            simpa [pv] using this.symm
          rw [hqq] at hT'
          have k2 : Chg (fun j => j = p) w1 (w1.setCell ⟨p, 0, none⟩ (.pointer (some ⟨q, 0, none⟩))) := (Chg.refl (fun j => j = p) w1).setCell ⟨p, 0, none⟩ (.inl rfl) _
          have sub : Sub S2 (fun j => S' j ∨ w.heap.size ≤ j) := fun j hj => s2 j (q2 j hj)
          have hkid := e4 _ (List.getElem_mem hj')
          have ef : flat h' t'.cs[0] = flat (h' + 1) t' := by
            obtain ⟨ks, vs, cs⟩ := t'
            simp only [BT.ks_node, BT.vs_node, BT.cs_node] at *
            obtain rfl : ks = [] := List.length_eq_zero_iff.1 (by omega)
            obtain rfl : vs = [] := List.length_eq_zero_iff.1 (by simpa using e1)
            rcases cs with _ | ⟨c, cs⟩
            · simp at e3
            · obtain rfl : cs = [] := List.length_eq_zero_iff.1 (by simpa using e3)
              simp [flat, weave, tl]
          refine ⟨q, h', _, S2, heap_setCell_at w1 p 0 _ _ _ _ hb1, hT'.chg k2 _ _ _ _ (fun j a e => np (e ▸ sub j a)), sub, hkid.2, by rw [ef, z4], fun _ => by omega, kS.trans (k2.mono fun j e => by rw [e]; exact h7)⟩
    obtain ⟨b', h', t2, S2, x1, x2, x3, x4, x5, x6, x7⟩ := step
    cases hf : (getM k (flat h t)).isSome
    · have e2 := y1 hf
      subst e2
      have hsz : (delM k (flat h t)).length = (flat h t).length := by rw [hlen, hf]; rfl
      exact ⟨⟨b', h', t2, S2, by rw [hsz]; exact x1, x2, x4, x5, delM_asc k _ ha, x6, .inl h7, fun j hj => (x3 j hj).imp (s8 j) id, fun hj => np (x3 p hj)⟩, x7⟩
    · have e2 := y2 hf
      subst e2
      have hsz : ((delM k (flat h t)).length : Int) = ((flat h t).length : Int) - 1 := by
        rw [hlen, hf]; have := hn0 hf
        simp; omega
      have k2 : Chg (fun j => j = p) w2 (w2.setCell ⟨p, 2, none⟩ (.int .i64 (((flat h t).length : Int) - 1))) := (Chg.refl (fun j => j = p) w2).setCell ⟨p, 2, none⟩ (.inl rfl) _
      refine ⟨⟨b', h', t2, S2, ?_, x2.chg k2 _ _ _ _ (fun j a e => np (e ▸ x3 j a)), x4, x5, delM_asc k _ ha, x6, .inl h7, fun j hj => (x3 j hj).imp (s8 j) id, fun hj => np (x3 p hj)⟩, x7.trans (k2.mono fun j e => by rw [e]; exact h7)⟩
      rw [heap_setCell_at w2 p 2 _ _ _ _ x1, hsz]; rfl

theorem height_le {d : Nat} (hd : 2 ≤ d) : ∀ (h : Nat) (t : BT), Shape d h t → (0 < h → 1 ≤ t.ks.length) → h ≤ (flat h t).length
  | 0, _, _, _ => Nat.zero_le _
  | h + 1, t, hs, h1 => by
    rw [flat_len hs]
    obtain ⟨e1, e2, e3, e4⟩ := hs
    have hk := h1 (by omega)
    have hj : 0 < t.cs.length := by omega
    have hc := e4 _ (List.getElem_mem hj)
    have ih := height_le hd h t.cs[0] hc.2 (fun _ => by omega)
    have := lens_take h t.cs 0 hj
    have := lens_le h t.cs (0 + 1)
    omega

theorem check14 (p d : Nat) (l : List E) (S : Nat → Prop) (w : World) (hd : 2 ≤ d) (hd2 : d ≤ 32) (hl : l.length ≤ 1000000) (ht : TreeAt w p d l S) :
    Calls Try.prog 14 #[.pointer (some ⟨p, 0, none⟩)] w fun e w' => e = .returned (.bool true) ∧ Chg NoB w w' := by
  obtain ⟨b, h, t, S', hb, hT, hs, rfl, ha, h1, h7, h8, h9⟩ := ht
  refine check_walk p b d (flat h t).length h (st (flat h t) (⟨#[]⟩, false)).1 (st (flat h t) (⟨#[]⟩, false)).2 w hb (fun W hW => ?_) (fun W hW => ?_)
  · exact count29 d d hd hd2 rfl h b t S' true W (hT.chg hW _ _ _ _ fun _ _ h => h) hs (.inl ⟨rfl, h1⟩) hl (Nat.le_trans (height_le hd h t hs h1) hl)
  · exact sort30 d hd2 h b t S' (⟨#[]⟩, false) W (hT.chg hW _ _ _ _ fun _ _ h => h) hs (SF_asc _ _ ha fun h => by simp at h)

theorem clone12 (p d : Nat) (l : List E) (S : Nat → Prop) (w : World) (hd2 : d ≤ 32) (ht : TreeAt w p d l S) :
    Calls Try.prog 12 #[.pointer (some ⟨p, 0, none⟩)] w fun e w' => ∃ r, e = .returned (.pointer (some ⟨r, 0, none⟩)) ∧ TreeAt w' r d l (fun j => w.heap.size ≤ j) ∧ Chg NoB w w' := by
  obtain ⟨b, h, t, S', hb, hT, hs, rfl, ha, h1, h7, h8, h9⟩ := ht
  refine (clone_walk12 p b d (flat h t).length (fun r w1 => Tree w1 h r t (fun j => w.heap.size ≤ j)) w hb (fun W hW => ?_)).mono ?_
  · refine (clone26 d hd2 h b t S' W (hT.chg hW _ _ _ _ fun _ _ h => h) hs).mono ?_
    rintro e w' ⟨r, rfl, z1, z2⟩
    exact ⟨r, rfl, z2, z1.mono fun j hj => Nat.le_trans hW.size hj⟩
  · rintro e w' ⟨r, w1, w2, rfl, hR, k1, hw, rfl⟩
    have k2 : Chg NoB w1 w2 := by
      rcases hw with rfl | rfl
      · exact Chg.refl _ _
      · exact (Chg.refl _ _).drew
    have k3 := (Chg.refl NoB w2).alloc (.cells #[.pointer (some ⟨r, 0, none⟩), .int .i64 (d : Int), .int .i64 ((flat h t).length : Int)] 50)
    have t2 := Tree.there _ _ _ _ (hR.chg k2 _ _ _ _ fun _ _ h => h)
    have sz := (k1.trans k2).size
    exact ⟨_, rfl, ⟨r, h, t, _, heap_alloc_new w2 _, t2.chg k3 _ _ _ _ (fun _ _ h => h), hs, rfl, ha, h1, sz, fun j hj => hj.1, fun hj => by have := hj.2; omega⟩, (k1.trans k2).trans k3⟩
end Go.Proofs.Ytamnmoejjjaegaa
