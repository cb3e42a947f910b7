/- The document's map: what Put returns. Conditions: at most 1000000 keys. -/
import Derived.Test.YtamnmoejjjaegaaMC
set_option linter.unusedVariables false
set_option linter.unusedSimpArgs false
namespace Go.Proofs.Ytamnmoejjjaegaa
open Go Go.RowKit Go.Proofs.YtamnmoejjjaegaaW.PrintLast

set_option maxHeartbeats 8000000 in
set_option maxRecDepth 100000 in
theorem put33_bad (ak : Option Addr) (nk ck : Nat) (av : Option Addr) (nv cv : Nat) (key : ByteArray) (val : Int) (w : World) :
    Calls Try.prog 33 #[.agg #[.bool true, .slice ak nk ck, .slice av nv cv], .string key, .int .i64 val] w fun e w' => e = .returned (.tuple #[.agg #[.bool true, .slice ak nk ck, .slice av nv cv], .int .i64 0, .bool false]) ∧ Chg NoB w w' := by
  obtain ⟨W1, hW1⟩ : ∃ W1, W1 = w.alloc (.cells #[.bool true, .slice ak nk ck, .slice av nv cv] 42) := ⟨_, rfl⟩
  have k1 : Chg NoB w W1 := by rw [hW1]; exact (Chg.refl _ _).alloc _
  have hb : W1.heap[w.heap.size]? = some (.cells #[.bool true, .slice ak nk ck, .slice av nv cv] 42 (0, 0)) := by rw [hW1]; exact heap_alloc_new _ _
  obtain ⟨b, hbb⟩ : ∃ b, b = w.heap.size := ⟨_, rfl⟩
  rw [← hbb] at hb
  have hsz : W1.heap.size = b + 1 := by rw [hW1, hbb]; simp
  have e0 : W1.cell? ⟨b, 0, none⟩ = some (.bool true) := by rw [cell_of_row W1 b 0 _ _ _ hb]; rfl
  have e1 : W1.cell? ⟨b, 1, none⟩ = some (.slice ak nk ck) := by rw [cell_of_row W1 b 1 _ _ _ hb]; rfl
  have e2 : W1.cell? ⟨b, 2, none⟩ = some (.slice av nv cv) := by rw [cell_of_row W1 b 2 _ _ _ hb]; rfl
  have hW1' := Hid.mk' hW1
  have hbb' := Hid.mk' hbb
  have k1' := Hid.mk' k1
  have hsz' := Hid.mk' hsz
  clear hb hW1 hbb k1 hsz
  go_enter Try.func33, Try.ntmps33
  go_wp2_with fail
  rw [← hW1'.out, ← hbb'.out]
  refine bodyPost_ret (ret_ctt rfl _ _ (b + 1) 42 #[.bool true, .slice ak nk ck, .slice av nv cv] _ rfl (by rw [← hsz'.out]; exact heap_alloc_new _ _) Try.underlying42 rfl (by kernel_rfl)) rfl ?_
  exact ⟨rfl, k1'.out.alloc _⟩

set_option maxHeartbeats 8000000 in
set_option maxRecDepth 100000 in
theorem put33_nil (key : ByteArray) (val : Int) (w : World) :
    Calls Try.prog 33 #[.agg #[.bool false, .slice none 0 0, .slice none 0 0], .string key, .int .i64 val] w fun e w' => ∃ v, e = .returned (.tuple #[v, .int .i64 0, .bool false]) ∧ MapV w' v false (insM key val []) ∧ (∀ j, mown v j → w.heap.size ≤ j) ∧ Chg NoB w w' := by
  have ha : Asc [] := List.Pairwise.nil
  have hk : Row w 9 (.slice none 0 0) ((([] : List E).map Prod.fst).map Value.string) := Row.nil w 9
  have hv : Row w 3 (.slice none 0 0) ((([] : List E).map Prod.snd).map (Value.int .i64)) := Row.nil w 3
  have hl : ([] : List E).length ≤ 1000000 := by simp
  have hia : Asc (insM key val []) := (insM_asc key val [] ha).1
  obtain ⟨W1, hW1⟩ : ∃ W1, W1 = w.alloc (.cells #[.bool false, .slice none 0 0, .slice none 0 0] 42) := ⟨_, rfl⟩
  have k1 : Chg NoB w W1 := by rw [hW1]; exact (Chg.refl _ _).alloc _
  have hb : W1.heap[w.heap.size]? = some (.cells #[.bool false, .slice none 0 0, .slice none 0 0] 42 (0, 0)) := by rw [hW1]; exact heap_alloc_new _ _
  obtain ⟨b, hbb⟩ : ∃ b, b = w.heap.size := ⟨_, rfl⟩
  rw [← hbb] at hb
  have hsz : W1.heap.size = b + 1 := by rw [hW1, hbb]; simp
  obtain ⟨W2, hW2⟩ : ∃ W2, W2 = W1.alloc (.cells #[.bool false, .slice none 0 0, .slice none 0 0] 42) := ⟨_, rfl⟩
  have k2 : Chg NoB W1 W2 := by rw [hW2]; exact (Chg.refl _ _).alloc _
  have hc : W2.heap[b + 1]? = some (.cells #[.bool false, .slice none 0 0, .slice none 0 0] 42 (0, 0)) := by rw [hW2, ← hsz]; exact heap_alloc_new _ _
  replace hb := k2.heap (fun h => h) hb
  have e0 : W2.cell? ⟨b, 0, none⟩ = some (.bool false) := by rw [cell_of_row W2 b 0 _ _ _ hb]; rfl
  have e1 : W2.cell? ⟨b, 1, none⟩ = some (.slice none 0 0) := by rw [cell_of_row W2 b 1 _ _ _ hb]; rfl
  have e2 : W2.cell? ⟨b, 2, none⟩ = some (.slice none 0 0) := by rw [cell_of_row W2 b 2 _ _ _ hb]; rfl
  have k12 := k1.trans k2
  have cg := get35 false _ 0 0 _ 0 0 key [] W2 ha (hk.chg k12 fun _ _ h => h) (hv.chg k12 fun _ _ h => h) hl
  have cg' := Hid.mk' cg
  have hb' := Hid.mk' hb
  have hc' := Hid.mk' hc
  have hW1' := Hid.mk' hW1
  have hW2' := Hid.mk' hW2
  have hbb' := Hid.mk' hbb
  have hsz' := Hid.mk' hsz
  have k12' := Hid.mk' k12
  have hk' := Hid.mk' (hk.chg k12 fun _ _ h => h)
  have hv' := Hid.mk' (hv.chg k12 fun _ _ h => h)
  clear hk hv cg hb hc hW1 hW2 hbb k1 k2 k12 hsz
  replace hia := Hid.mk' hia
  go_enter Try.func33, Try.ntmps33
  go_wp2_with fail
  rw [← hW1'.out, ← hbb'.out, ← hW2'.out]
  refine cg'.out.mono ?_
  rintro e w2 ⟨rfl, k2⟩
  have f0 := k2.cell (fun h => h) e0
  have f1 := k2.cell (fun h => h) e1
  have f2 := k2.cell (fun h => h) e2
  have k2' := Hid.mk' k2
  clear e0 e1 e2 cg' k2
  have ca : Hid (Calls Try.prog 51 #[.agg #[.bool false, .slice none 0 0, .slice none 0 0], .string key] w2 fun e w' => e = .returned (.int .i64 0) ∧ Chg NoB w2 w') := by
    have := at51 false _ 0 0 (.slice none 0 0) key (([] : List E).map Prod.fst) w2 (hk'.out.chg k2'.out fun _ _ h => h) (by simp)
    exact this
  go_wp2_with fail
  refine ca.out.mono ?_
  rintro e w3 ⟨rfl, k3⟩
  have k3' := Hid.mk' k3
  clear f0 f1 f2 ca k3
  obtain ⟨W4, hW4⟩ : ∃ W4, W4 = w3.alloc (.cells #[.bool false, .slice none 0 0, .slice none 0 0] 42) := ⟨_, rfl⟩
  obtain ⟨g2, hg2⟩ : ∃ g2, g2 = w3.heap.size := ⟨_, rfl⟩
  have k4 : Chg NoB w3 W4 := by rw [hW4]; exact (Chg.refl _ _).alloc _
  have hG : Hid (W4.heap[g2]? = some (.cells #[.bool false, .slice none 0 0, .slice none 0 0] 42 (0, 0))) := by show _ = _; rw [hW4, hg2]; exact heap_alloc_new _ _
  have k24 : Hid (Chg NoB W2 W4) := (k2'.out.trans k3'.out).trans k4
  have hB : Hid (W4.heap[b]? = some (.cells #[.bool false, .slice none 0 0, .slice none 0 0] 42 (0, 0))) := k24.out.heap (fun h => h) hb'.out
  have hC : Hid (W4.heap[b + 1]? = some (.cells #[.bool false, .slice none 0 0, .slice none 0 0] 42 (0, 0))) := k24.out.heap (fun h => h) hc'.out
  have rK := Hid.mk' (hk'.out.chg k24.out fun _ _ h => h)
  have rV := Hid.mk' (hv'.out.chg k24.out fun _ _ h => h)
  have zb : Hid (b + 1 < g2 ∧ w.heap.size ≤ b ∧ g2 < W4.heap.size) := by
    have h1 := (Array.getElem?_eq_some_iff.1 (k2'.out.trans k3'.out |>.heap (fun h => h) hc'.out)).1
    have h2 := hbb'.out
    refine ⟨by omega, by omega, by rw [hW4, hg2]; simp⟩
  have zv : Hid True := trivial
  have hW4' := Hid.mk' hW4
  have hg2' := Hid.mk' hg2
  clear hW4 hg2 k4 hk' hb' hc'
  go_upto_region 9 with (fail)
  rw [← hW4'.out, ← hg2'.out]
  have bx : W4.cell? ⟨b, 1, none⟩ = some (.slice none 0 0) := by rw [cell_of_row W4 b 1 _ _ _ hB.out]; rfl
  have s1 : Hid (Src W4 (.slice none 0 0) ([] : List Value)) := .inl ⟨rfl, rfl⟩
  have s2 := s1
  have lA : Hid (((([] : List Value)).length + ([] : List Value).length) * 16 ≤ 140737488355328 ∧ (([] : List Value)).length + ([] : List Value).length ≤ 1099511627776) := by constructor <;> simp
  have lB : Hid ((([] : List Value).length + ([Value.string key] : List Value).length) * 16 ≤ 140737488355328 ∧ ([] : List Value).length + ([Value.string key] : List Value).length ≤ 1099511627776) := by constructor <;> simp
  have lC : Hid (((([] : List Value) ++ [Value.string key]).length + ([] : List Value).length) * 16 ≤ 140737488355328 ∧ (([] : List Value) ++ [Value.string key]).length + ([] : List Value).length ≤ 1099511627776) := by constructor <;> simp
  refine start_ (n := 16) (S := fun w' => w'.cell? ⟨b, 1, none⟩ = some (.slice none 0 0)) (ds := [15]) #[false, false, false, false, false, false, false, false, false, false, false, false, false, false, false, false] (by kernel_rfl) rfl rfl (bx) (fun hHeld => ?_)
  refine pure_ (i := 1) (N := some 32) (v := ?_) (a' := ?_) #[false, true, false, false, false, false, false, false, false, false, false, false, false, false, false, false] rfl rfl (by kernel_rfl) (fun _ _ _ h => h) (Or.inl ⟨by rfl, ?_⟩) ?_ ?_
  rotate_left
  · intro w'
    go_simp
    with_reducible rfl
  rotate_left
  · simp only [Act.put, List.setIfInBounds_toArray, List.set_cons_zero, List.set_cons_succ, i64_w, i32_w]
    rfl
  refine pure_ (i := 3) (N := some 34) (v := ?_) (a' := ?_) #[false, true, false, true, false, false, false, false, false, false, false, false, false, false, false, false] rfl rfl (by kernel_rfl) (fun _ _ _ h => h) (Or.inl ⟨by rfl, ?_⟩) ?_ ?_
  rotate_left
  · intro w'
    go_simp
    with_reducible rfl
  rotate_left
  · simp only [Act.put, List.setIfInBounds_toArray, List.set_cons_zero, List.set_cons_succ, i64_w, i32_w]
    rfl
  refine pure_ (i := 6) (N := some 37) (v := ?_) (a' := ?_) #[false, true, false, true, false, false, true, false, false, false, false, false, false, false, false, false] rfl rfl (by kernel_rfl) (fun _ _ _ h => h) (Or.inl ⟨by rfl, ?_⟩) ?_ ?_
  rotate_left
  · intro w'
    go_simp
    with_reducible rfl
  rotate_left
  · simp only [Act.put, List.setIfInBounds_toArray, List.set_cons_zero, List.set_cons_succ, i64_w, i32_w]
    rfl
  refine pure_ (i := 9) (N := some 40) (v := ?_) (a' := ?_) #[false, true, false, true, false, false, true, false, false, true, false, false, false, false, false, false] rfl rfl (by kernel_rfl) (fun _ _ _ h => h) (Or.inl ⟨by rfl, ?_⟩) ?_ ?_
  rotate_left
  · intro w'
    go_simp
    with_reducible rfl
  rotate_left
  · simp only [Act.put, List.setIfInBounds_toArray, List.set_cons_zero, List.set_cons_succ, i64_w, i32_w]
    rfl
  refine pure_ (i := 11) (N := some 42) (v := ?_) (a' := ?_) #[false, true, false, true, false, false, true, false, false, true, false, true, false, false, false, false] rfl rfl (by kernel_rfl) (fun _ _ _ h => h) (Or.inl ⟨by rfl, ?_⟩) ?_ ?_
  rotate_left
  · intro w'
    go_simp
    with_reducible rfl
  rotate_left
  · simp only [Act.put, List.setIfInBounds_toArray, List.set_cons_zero, List.set_cons_succ, i64_w, i32_w]
    rfl
  refine take_ (i := 2) (N := some 33) (v := ?_) (a' := ?_) #[false, true, true, true, false, false, true, false, false, true, false, true, false, false, false, false] rfl rfl (by kernel_rfl) (fun _ _ _ h => h) (Or.inl ⟨by rfl, ?_⟩) hHeld ?_ ?_
  rotate_left
  · intro w' s0
    go_simp
    with_reducible rfl
  rotate_left
  · simp only [Act.put, List.setIfInBounds_toArray, List.set_cons_zero, List.set_cons_succ, i64_w, i32_w]
    rfl
  refine pure_ (i := 4) (N := some 35) (v := ?_) (a' := ?_) #[false, true, true, true, true, false, true, false, false, true, false, true, false, false, false, false] rfl rfl (by kernel_rfl) (fun _ _ _ h => h) (Or.inl ⟨by rfl, ?_⟩) ?_ ?_
  rotate_left
  · intro w'
    go_simp
    with_reducible rfl
  rotate_left
  · simp only [Act.put, List.setIfInBounds_toArray, List.set_cons_zero, List.set_cons_succ, i64_w, i32_w]
    rfl
  refine take_ (i := 10) (N := some 41) (v := ?_) (a' := ?_) #[false, true, true, true, true, false, true, false, false, true, true, true, false, false, false, false] rfl rfl (by kernel_rfl) (fun _ _ _ h => h) (Or.inl ⟨by rfl, ?_⟩) hHeld ?_ ?_
  rotate_left
  · intro w' s0
    go_simp
    with_reducible rfl
  rotate_left
  · simp only [Act.put, List.setIfInBounds_toArray, List.set_cons_zero, List.set_cons_succ, i64_w, i32_w]
    rfl
  refine pure_ (i := 12) (N := some 43) (v := ?_) (a' := ?_) #[false, true, true, true, true, false, true, false, false, true, true, true, true, false, false, false] rfl rfl (by kernel_rfl) (fun _ _ _ h => h) (Or.inl ⟨by rfl, ?_⟩) ?_ ?_
  rotate_left
  · intro w'
    go_simp
    with_reducible rfl
  rotate_left
  · simp only [Act.put, List.setIfInBounds_toArray, List.set_cons_zero, List.set_cons_succ, i64_w, i32_w]
    rfl
  refine join_ (σ := Nat × Nat × (Option Addr × Nat × Nat)) 4 #[true, true, true, true, true, true, true, true, false, true, true, true, true, false, false, false] (fun s => [(31, .slice (some ⟨s.1, 0, none⟩) 0 0), (36, .slice s.2.2.1 s.2.2.2.1 s.2.2.2.2), (38, .slice (some ⟨s.2.1, 0, none⟩) 1 1)]) (HalfP W4 9 (([] : List Value)) (Value.string key)) ?_ ?_
  rotate_left
  · intro hCont
    refine two_ (i := 0) (j := 7) (Ni := some 31) (Nj := some 38) #[true, true, true, true, true, false, true, false, false, true, true, true, true, false, false, false] #[false, true, true, true, true, false, true, true, false, true, true, true, true, false, false, false] rfl rfl rfl rfl (by kernel_rfl) (by decide) (by decide) (fun K hK => ?_) (fun K hK => ?_)
    · skip
      refine value_ (w1 := ?_) (v := ?_) (by rfl) rfl ?_ ?_
      rotate_left 2
      · go_simp
        constructor
        · rfl
        · rfl
      refine named fun X0 hX0 => ?_
      have kz0 : Hid (Chg NoB W4 X0) := by show Chg _ _ _; rw [hX0]; first | exact ((Chg.refl _ W4).alloc _).drew | exact (Chg.refl _ W4).alloc _
      have z_0 : Hid (Row X0 9 (.slice (some ⟨W4.heap.size, 0, none⟩) 0 0) []) := by show Row _ _ _ _; rw [hX0]; first | exact Row.lit0 _ _ | exact Row.lit0D _ _
      have bz_0 : Hid (W4.heap.size ≤ W4.heap.size) := Nat.le_refl _
      clear hX0
      refine hK.out _ _ ((kz0.out.cell (fun h => h) bx)) (fun hHeld => ?_)
      clear hK K
      refine norm_ (a' := ?_) ?_ ?_
      rotate_left
      · show Act.put _ (some 31) _ = _
        simp only [Act.put, List.setIfInBounds_toArray, List.set_cons_zero, List.set_cons_succ, i64_w, i32_w]
        rfl
      refine two_ (i := 5) (j := 7) (Ni := some 36) (Nj := some 38) #[true, true, true, true, true, true, true, false, false, true, true, true, true, false, false, false] #[true, true, true, true, true, false, true, true, false, true, true, true, true, false, false, false] rfl rfl rfl rfl (by kernel_rfl) (by decide) (by decide) (fun K hK => ?_) (fun K hK => ?_)
      · skip
        refine append_step_nn (by rfl) rfl (.tmp 31) (.tmp 35) 34 9 (.string ⟨#[]⟩) 16 rfl Try.underlying34 info9 rfl (.slice (some ⟨W4.heap.size, 0, none⟩) 0 0) (.slice none 0 0) ([]) (([] : List Value)) (by rfl) (by rfl) (z_0.out) (s1.out.chg kz0.out (fun _ _ h => h)) (by first | exact str_cell _ | (intro y hy; cases hy)) lA.out.1 lA.out.2 ?_
        intro v_0_5 X0_5 r_0_5 o_0_5 k_0_5 n_0_5
        obtain ⟨a0_5, n0_5, c0_5, rfl, l0_5⟩ := r_0_5.form'
        have nn_0_5 := Hid.mk' (n_0_5 ⟨_, (own_slice _ _ _ _ _ _).2 rfl⟩)
        have kz0_5 : Hid (Chg NoB W4 X0_5) := kz0.out.trans' k_0_5 (fun j hj => by rw [own_slice] at hj; subst hj; exact .inr bz_0.out)
        have res_0_5 : Hid (Row X0_5 9 (.slice a0_5 n0_5 c0_5) (([] : List Value))) := (by simpa using r_0_5 : Row _ _ _ _)
        have ores_0_5 : Hid (∀ k, own (.slice a0_5 n0_5 c0_5) k → W4.heap.size ≤ k) := fun k hk => (o_0_5 k hk).elim (fun h => by rw [own_slice] at h; subst h; exact bz_0.out) fun h => Nat.le_trans kz0.out.size h.1
        clear r_0_5 o_0_5 k_0_5 n_0_5
        refine hK.out _ _ ((kz0_5.out.cell (fun h => h) bx)) (fun hHeld => ?_)
        clear hK K
        refine norm_ (a' := ?_) ?_ ?_
        rotate_left
        · show Act.put _ (some 36) _ = _
          simp only [Act.put, List.setIfInBounds_toArray, List.set_cons_zero, List.set_cons_succ, i64_w, i32_w]
          rfl
        refine one_ (i := 7) (N := some 38) #[true, true, true, true, true, true, true, true, false, true, true, true, true, false, false, false] rfl rfl (by kernel_rfl) (by decide) (fun K hK => ?_)
        refine value_ (w1 := ?_) (v := ?_) (by rfl) rfl ?_ ?_
        rotate_left 2
        · go_simp
          constructor
          · rfl
          · rfl
        refine named fun X0_5_7 hX0_5_7 => ?_
        have kz0_5_7 : Hid (Chg NoB W4 X0_5_7) := by show Chg _ _ _; rw [hX0_5_7]; first | exact kz0_5.out.alloc _ | exact (kz0_5.out.alloc _).drew
        have t_0_5_7 : Hid (Row X0_5_7 9 (.slice (some ⟨X0_5.heap.size, 0, none⟩) 1 1) [Value.string key]) := by show Row _ _ _ _; rw [hX0_5_7]; first | exact Row.lit _ _ _ | exact Row.litD _ _ _
        have res_0_5_7 : Hid (Row X0_5_7 9 (.slice a0_5 n0_5 c0_5) (([] : List Value))) := by show Row _ _ _ _; rw [hX0_5_7]; first | exact Row.al res_0_5.out _ | exact Row.alD res_0_5.out _
        have ores_0_5_7 := ores_0_5
        have nn_0_5_7 := nn_0_5
        clear hX0_5_7
        refine hK.out _ _ ((kz0_5_7.out.cell (fun h => h) bx)) (fun hHeld => ?_)
        clear hK K
        refine norm_ (a' := ?_) ?_ ?_
        rotate_left
        · show Act.put _ (some 38) _ = _
          simp only [Act.put, List.setIfInBounds_toArray, List.set_cons_zero, List.set_cons_succ, i64_w, i32_w]
          rfl
        exact norm_ (by simp only [putAll, Act.put, List.setIfInBounds_toArray, List.set_cons_zero, List.set_cons_succ]) (hCont (W4.heap.size, X0_5.heap.size, (a0_5, n0_5, c0_5)) _ ⟨res_0_5_7.out, t_0_5_7.out, ores_0_5_7.out, nn_0_5_7.out, kz0_5_7.out⟩)
      · skip
        refine value_ (w1 := ?_) (v := ?_) (by rfl) rfl ?_ ?_
        rotate_left 2
        · go_simp
          constructor
          · rfl
          · rfl
        refine named fun X0_7 hX0_7 => ?_
        have kz0_7 : Hid (Chg NoB W4 X0_7) := by show Chg _ _ _; rw [hX0_7]; first | exact kz0.out.alloc _ | exact (kz0.out.alloc _).drew
        have t_0_7 : Hid (Row X0_7 9 (.slice (some ⟨X0.heap.size, 0, none⟩) 1 1) [Value.string key]) := by show Row _ _ _ _; rw [hX0_7]; first | exact Row.lit _ _ _ | exact Row.litD _ _ _
        have z_0_7 : Hid (Row X0_7 9 (.slice (some ⟨W4.heap.size, 0, none⟩) 0 0) []) := by show Row _ _ _ _; rw [hX0_7]; first | exact Row.al z_0.out _ | exact Row.alD z_0.out _
        have bz_0_7 := bz_0
        have ne_0_7 : Hid (W4.heap.size ≠ X0.heap.size) := by show _ ≠ _; have := z_0.out.lt ((own_slice _ _ _ _ _ _).2 rfl); omega
        clear hX0_7
        refine hK.out _ _ ((kz0_7.out.cell (fun h => h) bx)) (fun hHeld => ?_)
        clear hK K
        refine norm_ (a' := ?_) ?_ ?_
        rotate_left
        · show Act.put _ (some 38) _ = _
          simp only [Act.put, List.setIfInBounds_toArray, List.set_cons_zero, List.set_cons_succ, i64_w, i32_w]
          rfl
        refine one_ (i := 5) (N := some 36) #[true, true, true, true, true, true, true, true, false, true, true, true, true, false, false, false] rfl rfl (by kernel_rfl) (by decide) (fun K hK => ?_)
        refine append_step_nn (by rfl) rfl (.tmp 31) (.tmp 35) 34 9 (.string ⟨#[]⟩) 16 rfl Try.underlying34 info9 rfl (.slice (some ⟨W4.heap.size, 0, none⟩) 0 0) (.slice none 0 0) ([]) (([] : List Value)) (by rfl) (by rfl) (z_0_7.out) (s1.out.chg kz0_7.out (fun _ _ h => h)) (by first | exact str_cell _ | (intro y hy; cases hy)) lA.out.1 lA.out.2 ?_
        intro v_0_7_5 X0_7_5 r_0_7_5 o_0_7_5 k_0_7_5 n_0_7_5
        obtain ⟨a0_7_5, n0_7_5, c0_7_5, rfl, l0_7_5⟩ := r_0_7_5.form'
        have nn_0_7_5 := Hid.mk' (n_0_7_5 ⟨_, (own_slice _ _ _ _ _ _).2 rfl⟩)
        have kz0_7_5 : Hid (Chg NoB W4 X0_7_5) := kz0_7.out.trans' k_0_7_5 (fun j hj => by rw [own_slice] at hj; subst hj; exact .inr bz_0_7.out)
        have res_0_7_5 : Hid (Row X0_7_5 9 (.slice a0_7_5 n0_7_5 c0_7_5) (([] : List Value))) := (by simpa using r_0_7_5 : Row _ _ _ _)
        have ores_0_7_5 : Hid (∀ k, own (.slice a0_7_5 n0_7_5 c0_7_5) k → W4.heap.size ≤ k) := fun k hk => (o_0_7_5 k hk).elim (fun h => by rw [own_slice] at h; subst h; exact bz_0_7.out) fun h => Nat.le_trans kz0_7.out.size h.1
        have t_0_7_5 := Hid.mk' (t_0_7.out.chg k_0_7_5 (fun j a b => by rw [own_slice] at a b; exact ne_0_7.out (b.symm.trans a)))
        clear r_0_7_5 o_0_7_5 k_0_7_5 n_0_7_5
        refine hK.out _ _ ((kz0_7_5.out.cell (fun h => h) bx)) (fun hHeld => ?_)
        clear hK K
        refine norm_ (a' := ?_) ?_ ?_
        rotate_left
        · show Act.put _ (some 36) _ = _
          simp only [Act.put, List.setIfInBounds_toArray, List.set_cons_zero, List.set_cons_succ, i64_w, i32_w]
          rfl
        exact norm_ (by simp only [putAll, Act.put, List.setIfInBounds_toArray, List.set_cons_zero, List.set_cons_succ]) (hCont (W4.heap.size, X0.heap.size, (a0_7_5, n0_7_5, c0_7_5)) _ ⟨res_0_7_5.out, t_0_7_5.out, ores_0_7_5.out, nn_0_7_5.out, kz0_7_5.out⟩)
    · skip
      refine value_ (w1 := ?_) (v := ?_) (by rfl) rfl ?_ ?_
      rotate_left 2
      · go_simp
        constructor
        · rfl
        · rfl
      refine named fun X7 hX7 => ?_
      have kz7 : Hid (Chg NoB W4 X7) := by show Chg _ _ _; rw [hX7]; first | exact ((Chg.refl _ W4).alloc _).drew | exact (Chg.refl _ W4).alloc _
      have t_7 : Hid (Row X7 9 (.slice (some ⟨W4.heap.size, 0, none⟩) 1 1) [Value.string key]) := by show Row _ _ _ _; rw [hX7]; first | exact Row.lit _ _ _ | exact Row.litD _ _ _
      clear hX7
      refine hK.out _ _ ((kz7.out.cell (fun h => h) bx)) (fun hHeld => ?_)
      clear hK K
      refine norm_ (a' := ?_) ?_ ?_
      rotate_left
      · show Act.put _ (some 38) _ = _
        simp only [Act.put, List.setIfInBounds_toArray, List.set_cons_zero, List.set_cons_succ, i64_w, i32_w]
        rfl
      refine one_ (i := 0) (N := some 31) #[true, true, true, true, true, false, true, true, false, true, true, true, true, false, false, false] rfl rfl (by kernel_rfl) (by decide) (fun K hK => ?_)
      refine value_ (w1 := ?_) (v := ?_) (by rfl) rfl ?_ ?_
      rotate_left 2
      · go_simp
        constructor
        · rfl
        · rfl
      refine named fun X7_0 hX7_0 => ?_
      have kz7_0 : Hid (Chg NoB W4 X7_0) := by show Chg _ _ _; rw [hX7_0]; first | exact kz7.out.alloc _ | exact (kz7.out.alloc _).drew
      have z_7_0 : Hid (Row X7_0 9 (.slice (some ⟨X7.heap.size, 0, none⟩) 0 0) []) := by show Row _ _ _ _; rw [hX7_0]; first | exact Row.lit0 _ _ | exact Row.lit0D _ _
      have bz_7_0 : Hid (W4.heap.size ≤ X7.heap.size) := kz7.out.size
      have t_7_0 : Hid (Row X7_0 9 (.slice (some ⟨W4.heap.size, 0, none⟩) 1 1) [Value.string key]) := by show Row _ _ _ _; rw [hX7_0]; first | exact Row.al t_7.out _ | exact Row.alD t_7.out _
      have ne_7_0 : Hid (X7.heap.size ≠ W4.heap.size) := by show _ ≠ _; have := t_7.out.lt ((own_slice _ _ _ _ _ _).2 rfl); omega
      clear hX7_0
      refine hK.out _ _ ((kz7_0.out.cell (fun h => h) bx)) (fun hHeld => ?_)
      clear hK K
      refine norm_ (a' := ?_) ?_ ?_
      rotate_left
      · show Act.put _ (some 31) _ = _
        simp only [Act.put, List.setIfInBounds_toArray, List.set_cons_zero, List.set_cons_succ, i64_w, i32_w]
        rfl
      refine one_ (i := 5) (N := some 36) #[true, true, true, true, true, true, true, true, false, true, true, true, true, false, false, false] rfl rfl (by kernel_rfl) (by decide) (fun K hK => ?_)
      refine append_step_nn (by rfl) rfl (.tmp 31) (.tmp 35) 34 9 (.string ⟨#[]⟩) 16 rfl Try.underlying34 info9 rfl (.slice (some ⟨X7.heap.size, 0, none⟩) 0 0) (.slice none 0 0) ([]) (([] : List Value)) (by rfl) (by rfl) (z_7_0.out) (s1.out.chg kz7_0.out (fun _ _ h => h)) (by first | exact str_cell _ | (intro y hy; cases hy)) lA.out.1 lA.out.2 ?_
      intro v_7_0_5 X7_0_5 r_7_0_5 o_7_0_5 k_7_0_5 n_7_0_5
      obtain ⟨a7_0_5, n7_0_5, c7_0_5, rfl, l7_0_5⟩ := r_7_0_5.form'
      have nn_7_0_5 := Hid.mk' (n_7_0_5 ⟨_, (own_slice _ _ _ _ _ _).2 rfl⟩)
      have kz7_0_5 : Hid (Chg NoB W4 X7_0_5) := kz7_0.out.trans' k_7_0_5 (fun j hj => by rw [own_slice] at hj; subst hj; exact .inr bz_7_0.out)
      have res_7_0_5 : Hid (Row X7_0_5 9 (.slice a7_0_5 n7_0_5 c7_0_5) (([] : List Value))) := (by simpa using r_7_0_5 : Row _ _ _ _)
      have ores_7_0_5 : Hid (∀ k, own (.slice a7_0_5 n7_0_5 c7_0_5) k → W4.heap.size ≤ k) := fun k hk => (o_7_0_5 k hk).elim (fun h => by rw [own_slice] at h; subst h; exact bz_7_0.out) fun h => Nat.le_trans kz7_0.out.size h.1
      have t_7_0_5 := Hid.mk' (t_7_0.out.chg k_7_0_5 (fun j a b => by rw [own_slice] at a b; exact ne_7_0.out (b.symm.trans a)))
      clear r_7_0_5 o_7_0_5 k_7_0_5 n_7_0_5
      refine hK.out _ _ ((kz7_0_5.out.cell (fun h => h) bx)) (fun hHeld => ?_)
      clear hK K
      refine norm_ (a' := ?_) ?_ ?_
      rotate_left
      · show Act.put _ (some 36) _ = _
        simp only [Act.put, List.setIfInBounds_toArray, List.set_cons_zero, List.set_cons_succ, i64_w, i32_w]
        rfl
      exact norm_ (by simp only [putAll, Act.put, List.setIfInBounds_toArray, List.set_cons_zero, List.set_cons_succ]) (hCont (X7.heap.size, W4.heap.size, (a7_0_5, n7_0_5, c7_0_5)) _ ⟨res_7_0_5.out, t_7_0_5.out, ores_7_0_5.out, nn_7_0_5.out, kz7_0_5.out⟩)
  rintro ⟨gJ1, gJ2, aJ, nJ, cJ⟩ wJ ⟨rJ, litJ, oJ, nnJ, kJ⟩
  replace rJ : Hid (Row wJ 9 (.slice aJ nJ cJ) (([] : List Value))) := rJ
  replace litJ : Hid (Row wJ 9 (.slice (some ⟨gJ2, 0, none⟩) 1 1) [Value.string key]) := litJ
  replace oJ : Hid (∀ k, own (.slice aJ nJ cJ) k → W4.heap.size ≤ k) := oJ
  replace nnJ : Hid (∃ g, own (.slice aJ nJ cJ) g) := nnJ
  replace kJ := Hid.mk' kJ
  have hHeld : wJ.cell? ⟨b, 1, none⟩ = some (.slice none 0 0) := kJ.out.cell (fun h => h) bx
  refine norm_ (a' := ?_) ?_ ?_
  rotate_left
  · simp only [putAll, Act.put, List.setIfInBounds_toArray, List.set_cons_zero, List.set_cons_succ]
    rfl
  refine one_ (i := 8) (N := some 39) #[true, true, true, true, true, true, true, true, true, true, true, true, true, false, false, false] rfl rfl (by kernel_rfl) (by decide) (fun K hK => ?_)
  refine append_step_nn (by rfl) rfl (.tmp 36) (.tmp 38) 34 9 (.string ⟨#[]⟩) 16 rfl Try.underlying34 info9 rfl (.slice aJ nJ cJ) (.slice (some ⟨gJ2, 0, none⟩) 1 1) (([] : List Value)) ([Value.string key]) (by rfl) (by rfl) (rJ.out) (litJ.out.src) (by intro y hy; cases List.mem_singleton.1 hy; rfl) lB.out.1 lB.out.2 ?_
  intro v8 w8 r8 o8 k8 n8
  obtain ⟨a8, m8, c8, rfl, l8⟩ := r8.form'
  replace n8 := Hid.mk' (n8 nnJ.out)
  have kz8 : Hid (Chg NoB W4 w8) := kJ.out.trans' k8 (fun j hj => .inr (oJ.out j hj))
  have oz8 : Hid (∀ k, own (.slice a8 m8 c8) k → W4.heap.size ≤ k) := fun k hk => (o8 k hk).elim (oJ.out k) fun h => Nat.le_trans kJ.out.size h.1
  replace r8 := Hid.mk' r8
  clear o8 k8
  refine hK.out _ _ ((kz8.out.cell (fun h => h) bx)) (fun hHeld => ?_)
  clear hK K
  refine norm_ (a' := ?_) ?_ ?_
  rotate_left
  · show Act.put _ (some 39) _ = _
    simp only [Act.put, List.setIfInBounds_toArray, List.set_cons_zero, List.set_cons_succ, i64_w, i32_w]
    rfl
  refine one_ (i := 13) (N := some 44) #[true, true, true, true, true, true, true, true, true, true, true, true, true, true, false, false] rfl rfl (by kernel_rfl) (by decide) (fun K hK => ?_)
  refine append_step_nn (by rfl) rfl (.tmp 39) (.tmp 43) 34 9 (.string ⟨#[]⟩) 16 rfl Try.underlying34 info9 rfl (.slice a8 m8 c8) (.slice none 0 0) ((([] : List Value)) ++ [Value.string key]) (([] : List Value)) (by rfl) (by rfl) (r8.out) (s2.out.chg kz8.out (fun _ _ h => h)) (by first | exact str_cell _ | (intro y hy; cases hy)) lC.out.1 lC.out.2 ?_
  intro v6 w6 r6 o6 k6 n6
  obtain ⟨a6, m6', c6, rfl, l6⟩ := r6.form'
  replace n6 := Hid.mk' (n6 n8.out)
  have kz6 : Hid (Chg NoB W4 w6) := kz8.out.trans' k6 (fun j hj => .inr (oz8.out j hj))
  have oz6 : Hid (∀ k, own (.slice a6 m6' c6) k → W4.heap.size ≤ k) := fun k hk => (o6 k hk).elim (oz8.out k) fun h => Nat.le_trans kz8.out.size h.1
  replace r6 := Hid.mk' r6
  clear o6 k6
  have hG6 := Hid.mk' ((kz6.out).heap (fun h => h) hG.out)
  have p1 : w6.cell? ⟨g2, 1, none⟩ = some (.slice none 0 0) := by rw [cell_of_row w6 g2 1 _ _ _ hG6.out]; rfl
  have q1 := frozen_of_row w6 g2 1 _ _ hG6.out
  refine hK.out _ _ ((kz6.out.cell (fun h => h) bx)) (fun hHeld => ?_)
  clear hK K
  refine norm_ (a' := ?_) ?_ ?_
  rotate_left
  · show Act.put _ (some 44) _ = _
    simp only [Act.put, List.setIfInBounds_toArray, List.set_cons_zero, List.set_cons_succ, i64_w, i32_w]
    rfl
  refine pure_ (i := 14) (N := some 45) (v := ?_) (a' := ?_) #[true, true, true, true, true, true, true, true, true, true, true, true, true, true, true, false] rfl rfl (by kernel_rfl) (fun _ _ _ h => h) (Or.inl ⟨by rfl, ?_⟩) ?_ ?_
  rotate_left
  · intro w'
    go_simp
    with_reducible rfl
  rotate_left
  · simp only [Act.put, List.setIfInBounds_toArray, List.set_cons_zero, List.set_cons_succ, i64_w, i32_w]
    rfl
  refine last_ (i := 15) (N := none) #[true, true, true, true, true, true, true, true, true, true, true, true, true, true, true, true] rfl rfl (by kernel_rfl) (by decide) (fun K hK => ?_)
  refine skip_ (w1 := ?_) (by rfl) rfl ?_ ?_
  rotate_left
  · go_simp
    rfl
  refine hK.out _ _ ?_
  clear hK K
  refine done_ (by kernel_rfl) ?_
  obtain ⟨g6, hg6⟩ := n6.out
  have ha6 := own_some r6.out hg6
  subst ha6
  obtain ⟨W5, hW5⟩ : ∃ W5, W5 = w6.setCell ⟨g2, 1, none⟩ (.slice (some ⟨g6, 0, none⟩) m6' c6) := ⟨_, rfl⟩
  have kS : Chg (fun k => k = g2) w6 W5 := by rw [hW5]; exact (Chg.refl (fun k => k = g2) _).setCell _ (.inl rfl) _
  have kt : Chg (fun k => k = g2) W4 W5 := (kz6.out.mono fun _ h => h.elim).trans kS
  have hGW5 : Hid (W5.heap[g2]? = some (.cells #[.bool false, .slice (some ⟨g6, 0, none⟩) m6' c6, .slice none 0 0] 42 (0, 0))) := by show _ = _; rw [hW5]; exact heap_setCell_same _ g2 1 _ 42 _ hG6.out
  have hBW5 : Hid (W5.heap[b]? = some (.cells #[.bool false, .slice none 0 0, .slice none 0 0] 42 (0, 0))) := kt.heap (fun h => by have := zb.out; omega) hB.out
  have hCW5 : Hid (W5.heap[b + 1]? = some (.cells #[.bool false, .slice none 0 0, .slice none 0 0] 42 (0, 0))) := kt.heap (fun h => by have := zb.out; omega) hC.out
  have res1 : Hid (Row W5 9 (.slice (some ⟨g6, 0, none⟩) m6' c6) (((([] : List Value)) ++ [Value.string key]) ++ ([] : List Value))) := (r6.out.chg kS fun j a b => by have h1 := oz6.out j a; have h2 := zb.out.2.2; omega)
  have zr1 : Hid (∀ j, own (.slice (some ⟨g6, 0, none⟩) m6' c6) j → g2 < j) := fun j hj => by have h1 := oz6.out j hj; have h2 := zb.out.2.2; omega
  have hkW5 := Hid.mk' hW5
  rw [← hW5]
  have k45 : Hid (Chg (fun k => k = g2) W4 W5) := kt
  obtain ⟨gr, mr, cr, hrr⟩ : ∃ gr mr cr, gr = g6 ∧ mr = m6' ∧ cr = c6 := ⟨_, _, _, rfl, rfl, rfl⟩
  obtain ⟨rfl, rfl, rfl⟩ := hrr
  clear bx s1 s2 lA lB lC hg6 hW5 kS kt n6 r6 oz6 kz6 hG6 p1 q1 rV r8 n8 oz8 kz8 rJ litJ oJ nnJ kJ l6 l8 hHeld
  go_wp2_with fail
  have hB := hBW5
  have hC := hCW5
  have hG := hGW5
  clear hBW5 hCW5 hGW5
  have bx : W5.cell? ⟨b, 2, none⟩ = some (.slice none 0 0) := by rw [cell_of_row W5 b 2 _ _ _ hB.out]; rfl
  have s1 : Hid (Src W5 (.slice none 0 0) ([] : List Value)) := .inl ⟨rfl, rfl⟩
  have s2 := s1
  have lA : Hid (((([] : List Value)).length + ([] : List Value).length) * 8 ≤ 140737488355328 ∧ (([] : List Value)).length + ([] : List Value).length ≤ 1099511627776) := by constructor <;> simp
  have lB : Hid ((([] : List Value).length + ([Value.int .i64 val] : List Value).length) * 8 ≤ 140737488355328 ∧ ([] : List Value).length + ([Value.int .i64 val] : List Value).length ≤ 1099511627776) := by constructor <;> simp
  have lC : Hid (((([] : List Value) ++ [Value.int .i64 val]).length + ([] : List Value).length) * 8 ≤ 140737488355328 ∧ (([] : List Value) ++ [Value.int .i64 val]).length + ([] : List Value).length ≤ 1099511627776) := by constructor <;> simp
  refine start_ (n := 16) (S := fun w' => w'.cell? ⟨b, 2, none⟩ = some (.slice none 0 0)) (ds := [15]) #[false, false, false, false, false, false, false, false, false, false, false, false, false, false, false, false] (by kernel_rfl) rfl rfl (bx) (fun hHeld => ?_)
  refine pure_ (i := 1) (N := some 47) (v := ?_) (a' := ?_) #[false, true, false, false, false, false, false, false, false, false, false, false, false, false, false, false] rfl rfl (by kernel_rfl) (fun _ _ _ h => h) (Or.inl ⟨by rfl, ?_⟩) ?_ ?_
  rotate_left
  · intro w'
    go_simp
    with_reducible rfl
  rotate_left
  · simp only [Act.put, List.setIfInBounds_toArray, List.set_cons_zero, List.set_cons_succ, i64_w, i32_w]
    rfl
  refine pure_ (i := 3) (N := some 49) (v := ?_) (a' := ?_) #[false, true, false, true, false, false, false, false, false, false, false, false, false, false, false, false] rfl rfl (by kernel_rfl) (fun _ _ _ h => h) (Or.inl ⟨by rfl, ?_⟩) ?_ ?_
  rotate_left
  · intro w'
    go_simp
    with_reducible rfl
  rotate_left
  · simp only [Act.put, List.setIfInBounds_toArray, List.set_cons_zero, List.set_cons_succ, i64_w, i32_w]
    rfl
  refine pure_ (i := 6) (N := some 52) (v := ?_) (a' := ?_) #[false, true, false, true, false, false, true, false, false, false, false, false, false, false, false, false] rfl rfl (by kernel_rfl) (fun _ _ _ h => h) (Or.inl ⟨by rfl, ?_⟩) ?_ ?_
  rotate_left
  · intro w'
    go_simp
    with_reducible rfl
  rotate_left
  · simp only [Act.put, List.setIfInBounds_toArray, List.set_cons_zero, List.set_cons_succ, i64_w, i32_w]
    rfl
  refine pure_ (i := 9) (N := some 55) (v := ?_) (a' := ?_) #[false, true, false, true, false, false, true, false, false, true, false, false, false, false, false, false] rfl rfl (by kernel_rfl) (fun _ _ _ h => h) (Or.inl ⟨by rfl, ?_⟩) ?_ ?_
  rotate_left
  · intro w'
    go_simp
    with_reducible rfl
  rotate_left
  · simp only [Act.put, List.setIfInBounds_toArray, List.set_cons_zero, List.set_cons_succ, i64_w, i32_w]
    rfl
  refine pure_ (i := 11) (N := some 57) (v := ?_) (a' := ?_) #[false, true, false, true, false, false, true, false, false, true, false, true, false, false, false, false] rfl rfl (by kernel_rfl) (fun _ _ _ h => h) (Or.inl ⟨by rfl, ?_⟩) ?_ ?_
  rotate_left
  · intro w'
    go_simp
    with_reducible rfl
  rotate_left
  · simp only [Act.put, List.setIfInBounds_toArray, List.set_cons_zero, List.set_cons_succ, i64_w, i32_w]
    rfl
  refine take_ (i := 2) (N := some 48) (v := ?_) (a' := ?_) #[false, true, true, true, false, false, true, false, false, true, false, true, false, false, false, false] rfl rfl (by kernel_rfl) (fun _ _ _ h => h) (Or.inl ⟨by rfl, ?_⟩) hHeld ?_ ?_
  rotate_left
  · intro w' s0
    go_simp
    with_reducible rfl
  rotate_left
  · simp only [Act.put, List.setIfInBounds_toArray, List.set_cons_zero, List.set_cons_succ, i64_w, i32_w]
    rfl
  refine pure_ (i := 4) (N := some 50) (v := ?_) (a' := ?_) #[false, true, true, true, true, false, true, false, false, true, false, true, false, false, false, false] rfl rfl (by kernel_rfl) (fun _ _ _ h => h) (Or.inl ⟨by rfl, ?_⟩) ?_ ?_
  rotate_left
  · intro w'
    go_simp
    with_reducible rfl
  rotate_left
  · simp only [Act.put, List.setIfInBounds_toArray, List.set_cons_zero, List.set_cons_succ, i64_w, i32_w]
    rfl
  refine take_ (i := 10) (N := some 56) (v := ?_) (a' := ?_) #[false, true, true, true, true, false, true, false, false, true, true, true, false, false, false, false] rfl rfl (by kernel_rfl) (fun _ _ _ h => h) (Or.inl ⟨by rfl, ?_⟩) hHeld ?_ ?_
  rotate_left
  · intro w' s0
    go_simp
    with_reducible rfl
  rotate_left
  · simp only [Act.put, List.setIfInBounds_toArray, List.set_cons_zero, List.set_cons_succ, i64_w, i32_w]
    rfl
  refine pure_ (i := 12) (N := some 58) (v := ?_) (a' := ?_) #[false, true, true, true, true, false, true, false, false, true, true, true, true, false, false, false] rfl rfl (by kernel_rfl) (fun _ _ _ h => h) (Or.inl ⟨by rfl, ?_⟩) ?_ ?_
  rotate_left
  · intro w'
    go_simp
    with_reducible rfl
  rotate_left
  · simp only [Act.put, List.setIfInBounds_toArray, List.set_cons_zero, List.set_cons_succ, i64_w, i32_w]
    rfl
  refine join_ (σ := Nat × Nat × (Option Addr × Nat × Nat)) 4 #[true, true, true, true, true, true, true, true, false, true, true, true, true, false, false, false] (fun s => [(46, .slice (some ⟨s.1, 0, none⟩) 0 0), (51, .slice s.2.2.1 s.2.2.2.1 s.2.2.2.2), (53, .slice (some ⟨s.2.1, 0, none⟩) 1 1)]) (HalfP W5 3 (([] : List Value)) (Value.int .i64 val)) ?_ ?_
  rotate_left
  · intro hCont
    refine two_ (i := 0) (j := 7) (Ni := some 46) (Nj := some 53) #[true, true, true, true, true, false, true, false, false, true, true, true, true, false, false, false] #[false, true, true, true, true, false, true, true, false, true, true, true, true, false, false, false] rfl rfl rfl rfl (by kernel_rfl) (by decide) (by decide) (fun K hK => ?_) (fun K hK => ?_)
    · skip
      refine value_ (w1 := ?_) (v := ?_) (by rfl) rfl ?_ ?_
      rotate_left 2
      · go_simp
        constructor
        · rfl
        · rfl
      refine named fun X0 hX0 => ?_
      have kz0 : Hid (Chg NoB W5 X0) := by show Chg _ _ _; rw [hX0]; first | exact ((Chg.refl _ W5).alloc _).drew | exact (Chg.refl _ W5).alloc _
      have z_0 : Hid (Row X0 3 (.slice (some ⟨W5.heap.size, 0, none⟩) 0 0) []) := by show Row _ _ _ _; rw [hX0]; first | exact Row.lit0 _ _ | exact Row.lit0D _ _
      have bz_0 : Hid (W5.heap.size ≤ W5.heap.size) := Nat.le_refl _
      clear hX0
      refine hK.out _ _ ((kz0.out.cell (fun h => h) bx)) (fun hHeld => ?_)
      clear hK K
      refine norm_ (a' := ?_) ?_ ?_
      rotate_left
      · show Act.put _ (some 46) _ = _
        simp only [Act.put, List.setIfInBounds_toArray, List.set_cons_zero, List.set_cons_succ, i64_w, i32_w]
        rfl
      refine two_ (i := 5) (j := 7) (Ni := some 51) (Nj := some 53) #[true, true, true, true, true, true, true, false, false, true, true, true, true, false, false, false] #[true, true, true, true, true, false, true, true, false, true, true, true, true, false, false, false] rfl rfl rfl rfl (by kernel_rfl) (by decide) (by decide) (fun K hK => ?_) (fun K hK => ?_)
      · skip
        refine append_step_nn (by rfl) rfl (.tmp 46) (.tmp 50) 35 3 (.int .i64 0) 8 rfl Try.underlying35 info3 rfl (.slice (some ⟨W5.heap.size, 0, none⟩) 0 0) (.slice none 0 0) ([]) (([] : List Value)) (by rfl) (by rfl) (z_0.out) (s1.out.chg kz0.out (fun _ _ h => h)) (by first | exact int_cell _ | (intro y hy; cases hy)) lA.out.1 lA.out.2 ?_
        intro v_0_5 X0_5 r_0_5 o_0_5 k_0_5 n_0_5
        obtain ⟨a0_5, n0_5, c0_5, rfl, l0_5⟩ := r_0_5.form'
        have nn_0_5 := Hid.mk' (n_0_5 ⟨_, (own_slice _ _ _ _ _ _).2 rfl⟩)
        have kz0_5 : Hid (Chg NoB W5 X0_5) := kz0.out.trans' k_0_5 (fun j hj => by rw [own_slice] at hj; subst hj; exact .inr bz_0.out)
        have res_0_5 : Hid (Row X0_5 3 (.slice a0_5 n0_5 c0_5) (([] : List Value))) := (by simpa using r_0_5 : Row _ _ _ _)
        have ores_0_5 : Hid (∀ k, own (.slice a0_5 n0_5 c0_5) k → W5.heap.size ≤ k) := fun k hk => (o_0_5 k hk).elim (fun h => by rw [own_slice] at h; subst h; exact bz_0.out) fun h => Nat.le_trans kz0.out.size h.1
        clear r_0_5 o_0_5 k_0_5 n_0_5
        refine hK.out _ _ ((kz0_5.out.cell (fun h => h) bx)) (fun hHeld => ?_)
        clear hK K
        refine norm_ (a' := ?_) ?_ ?_
        rotate_left
        · show Act.put _ (some 51) _ = _
          simp only [Act.put, List.setIfInBounds_toArray, List.set_cons_zero, List.set_cons_succ, i64_w, i32_w]
          rfl
        refine one_ (i := 7) (N := some 53) #[true, true, true, true, true, true, true, true, false, true, true, true, true, false, false, false] rfl rfl (by kernel_rfl) (by decide) (fun K hK => ?_)
        refine value_ (w1 := ?_) (v := ?_) (by rfl) rfl ?_ ?_
        rotate_left 2
        · go_simp
          constructor
          · rfl
          · rfl
        refine named fun X0_5_7 hX0_5_7 => ?_
        have kz0_5_7 : Hid (Chg NoB W5 X0_5_7) := by show Chg _ _ _; rw [hX0_5_7]; first | exact kz0_5.out.alloc _ | exact (kz0_5.out.alloc _).drew
        have t_0_5_7 : Hid (Row X0_5_7 3 (.slice (some ⟨X0_5.heap.size, 0, none⟩) 1 1) [Value.int .i64 val]) := by show Row _ _ _ _; rw [hX0_5_7]; first | exact Row.lit _ _ _ | exact Row.litD _ _ _
        have res_0_5_7 : Hid (Row X0_5_7 3 (.slice a0_5 n0_5 c0_5) (([] : List Value))) := by show Row _ _ _ _; rw [hX0_5_7]; first | exact Row.al res_0_5.out _ | exact Row.alD res_0_5.out _
        have ores_0_5_7 := ores_0_5
        have nn_0_5_7 := nn_0_5
        clear hX0_5_7
        refine hK.out _ _ ((kz0_5_7.out.cell (fun h => h) bx)) (fun hHeld => ?_)
        clear hK K
        refine norm_ (a' := ?_) ?_ ?_
        rotate_left
        · show Act.put _ (some 53) _ = _
          simp only [Act.put, List.setIfInBounds_toArray, List.set_cons_zero, List.set_cons_succ, i64_w, i32_w]
          rfl
        exact norm_ (by simp only [putAll, Act.put, List.setIfInBounds_toArray, List.set_cons_zero, List.set_cons_succ]) (hCont (W5.heap.size, X0_5.heap.size, (a0_5, n0_5, c0_5)) _ ⟨res_0_5_7.out, t_0_5_7.out, ores_0_5_7.out, nn_0_5_7.out, kz0_5_7.out⟩)
      · skip
        refine value_ (w1 := ?_) (v := ?_) (by rfl) rfl ?_ ?_
        rotate_left 2
        · go_simp
          constructor
          · rfl
          · rfl
        refine named fun X0_7 hX0_7 => ?_
        have kz0_7 : Hid (Chg NoB W5 X0_7) := by show Chg _ _ _; rw [hX0_7]; first | exact kz0.out.alloc _ | exact (kz0.out.alloc _).drew
        have t_0_7 : Hid (Row X0_7 3 (.slice (some ⟨X0.heap.size, 0, none⟩) 1 1) [Value.int .i64 val]) := by show Row _ _ _ _; rw [hX0_7]; first | exact Row.lit _ _ _ | exact Row.litD _ _ _
        have z_0_7 : Hid (Row X0_7 3 (.slice (some ⟨W5.heap.size, 0, none⟩) 0 0) []) := by show Row _ _ _ _; rw [hX0_7]; first | exact Row.al z_0.out _ | exact Row.alD z_0.out _
        have bz_0_7 := bz_0
        have ne_0_7 : Hid (W5.heap.size ≠ X0.heap.size) := by show _ ≠ _; have := z_0.out.lt ((own_slice _ _ _ _ _ _).2 rfl); omega
        clear hX0_7
        refine hK.out _ _ ((kz0_7.out.cell (fun h => h) bx)) (fun hHeld => ?_)
        clear hK K
        refine norm_ (a' := ?_) ?_ ?_
        rotate_left
        · show Act.put _ (some 53) _ = _
          simp only [Act.put, List.setIfInBounds_toArray, List.set_cons_zero, List.set_cons_succ, i64_w, i32_w]
          rfl
        refine one_ (i := 5) (N := some 51) #[true, true, true, true, true, true, true, true, false, true, true, true, true, false, false, false] rfl rfl (by kernel_rfl) (by decide) (fun K hK => ?_)
        refine append_step_nn (by rfl) rfl (.tmp 46) (.tmp 50) 35 3 (.int .i64 0) 8 rfl Try.underlying35 info3 rfl (.slice (some ⟨W5.heap.size, 0, none⟩) 0 0) (.slice none 0 0) ([]) (([] : List Value)) (by rfl) (by rfl) (z_0_7.out) (s1.out.chg kz0_7.out (fun _ _ h => h)) (by first | exact int_cell _ | (intro y hy; cases hy)) lA.out.1 lA.out.2 ?_
        intro v_0_7_5 X0_7_5 r_0_7_5 o_0_7_5 k_0_7_5 n_0_7_5
        obtain ⟨a0_7_5, n0_7_5, c0_7_5, rfl, l0_7_5⟩ := r_0_7_5.form'
        have nn_0_7_5 := Hid.mk' (n_0_7_5 ⟨_, (own_slice _ _ _ _ _ _).2 rfl⟩)
        have kz0_7_5 : Hid (Chg NoB W5 X0_7_5) := kz0_7.out.trans' k_0_7_5 (fun j hj => by rw [own_slice] at hj; subst hj; exact .inr bz_0_7.out)
        have res_0_7_5 : Hid (Row X0_7_5 3 (.slice a0_7_5 n0_7_5 c0_7_5) (([] : List Value))) := (by simpa using r_0_7_5 : Row _ _ _ _)
        have ores_0_7_5 : Hid (∀ k, own (.slice a0_7_5 n0_7_5 c0_7_5) k → W5.heap.size ≤ k) := fun k hk => (o_0_7_5 k hk).elim (fun h => by rw [own_slice] at h; subst h; exact bz_0_7.out) fun h => Nat.le_trans kz0_7.out.size h.1
        have t_0_7_5 := Hid.mk' (t_0_7.out.chg k_0_7_5 (fun j a b => by rw [own_slice] at a b; exact ne_0_7.out (b.symm.trans a)))
        clear r_0_7_5 o_0_7_5 k_0_7_5 n_0_7_5
        refine hK.out _ _ ((kz0_7_5.out.cell (fun h => h) bx)) (fun hHeld => ?_)
        clear hK K
        refine norm_ (a' := ?_) ?_ ?_
        rotate_left
        · show Act.put _ (some 51) _ = _
          simp only [Act.put, List.setIfInBounds_toArray, List.set_cons_zero, List.set_cons_succ, i64_w, i32_w]
          rfl
        exact norm_ (by simp only [putAll, Act.put, List.setIfInBounds_toArray, List.set_cons_zero, List.set_cons_succ]) (hCont (W5.heap.size, X0.heap.size, (a0_7_5, n0_7_5, c0_7_5)) _ ⟨res_0_7_5.out, t_0_7_5.out, ores_0_7_5.out, nn_0_7_5.out, kz0_7_5.out⟩)
    · skip
      refine value_ (w1 := ?_) (v := ?_) (by rfl) rfl ?_ ?_
      rotate_left 2
      · go_simp
        constructor
        · rfl
        · rfl
      refine named fun X7 hX7 => ?_
      have kz7 : Hid (Chg NoB W5 X7) := by show Chg _ _ _; rw [hX7]; first | exact ((Chg.refl _ W5).alloc _).drew | exact (Chg.refl _ W5).alloc _
      have t_7 : Hid (Row X7 3 (.slice (some ⟨W5.heap.size, 0, none⟩) 1 1) [Value.int .i64 val]) := by show Row _ _ _ _; rw [hX7]; first | exact Row.lit _ _ _ | exact Row.litD _ _ _
      clear hX7
      refine hK.out _ _ ((kz7.out.cell (fun h => h) bx)) (fun hHeld => ?_)
      clear hK K
      refine norm_ (a' := ?_) ?_ ?_
      rotate_left
      · show Act.put _ (some 53) _ = _
        simp only [Act.put, List.setIfInBounds_toArray, List.set_cons_zero, List.set_cons_succ, i64_w, i32_w]
        rfl
      refine one_ (i := 0) (N := some 46) #[true, true, true, true, true, false, true, true, false, true, true, true, true, false, false, false] rfl rfl (by kernel_rfl) (by decide) (fun K hK => ?_)
      refine value_ (w1 := ?_) (v := ?_) (by rfl) rfl ?_ ?_
      rotate_left 2
      · go_simp
        constructor
        · rfl
        · rfl
      refine named fun X7_0 hX7_0 => ?_
      have kz7_0 : Hid (Chg NoB W5 X7_0) := by show Chg _ _ _; rw [hX7_0]; first | exact kz7.out.alloc _ | exact (kz7.out.alloc _).drew
      have z_7_0 : Hid (Row X7_0 3 (.slice (some ⟨X7.heap.size, 0, none⟩) 0 0) []) := by show Row _ _ _ _; rw [hX7_0]; first | exact Row.lit0 _ _ | exact Row.lit0D _ _
      have bz_7_0 : Hid (W5.heap.size ≤ X7.heap.size) := kz7.out.size
      have t_7_0 : Hid (Row X7_0 3 (.slice (some ⟨W5.heap.size, 0, none⟩) 1 1) [Value.int .i64 val]) := by show Row _ _ _ _; rw [hX7_0]; first | exact Row.al t_7.out _ | exact Row.alD t_7.out _
      have ne_7_0 : Hid (X7.heap.size ≠ W5.heap.size) := by show _ ≠ _; have := t_7.out.lt ((own_slice _ _ _ _ _ _).2 rfl); omega
      clear hX7_0
      refine hK.out _ _ ((kz7_0.out.cell (fun h => h) bx)) (fun hHeld => ?_)
      clear hK K
      refine norm_ (a' := ?_) ?_ ?_
      rotate_left
      · show Act.put _ (some 46) _ = _
        simp only [Act.put, List.setIfInBounds_toArray, List.set_cons_zero, List.set_cons_succ, i64_w, i32_w]
        rfl
      refine one_ (i := 5) (N := some 51) #[true, true, true, true, true, true, true, true, false, true, true, true, true, false, false, false] rfl rfl (by kernel_rfl) (by decide) (fun K hK => ?_)
      refine append_step_nn (by rfl) rfl (.tmp 46) (.tmp 50) 35 3 (.int .i64 0) 8 rfl Try.underlying35 info3 rfl (.slice (some ⟨X7.heap.size, 0, none⟩) 0 0) (.slice none 0 0) ([]) (([] : List Value)) (by rfl) (by rfl) (z_7_0.out) (s1.out.chg kz7_0.out (fun _ _ h => h)) (by first | exact int_cell _ | (intro y hy; cases hy)) lA.out.1 lA.out.2 ?_
      intro v_7_0_5 X7_0_5 r_7_0_5 o_7_0_5 k_7_0_5 n_7_0_5
      obtain ⟨a7_0_5, n7_0_5, c7_0_5, rfl, l7_0_5⟩ := r_7_0_5.form'
      have nn_7_0_5 := Hid.mk' (n_7_0_5 ⟨_, (own_slice _ _ _ _ _ _).2 rfl⟩)
      have kz7_0_5 : Hid (Chg NoB W5 X7_0_5) := kz7_0.out.trans' k_7_0_5 (fun j hj => by rw [own_slice] at hj; subst hj; exact .inr bz_7_0.out)
      have res_7_0_5 : Hid (Row X7_0_5 3 (.slice a7_0_5 n7_0_5 c7_0_5) (([] : List Value))) := (by simpa using r_7_0_5 : Row _ _ _ _)
      have ores_7_0_5 : Hid (∀ k, own (.slice a7_0_5 n7_0_5 c7_0_5) k → W5.heap.size ≤ k) := fun k hk => (o_7_0_5 k hk).elim (fun h => by rw [own_slice] at h; subst h; exact bz_7_0.out) fun h => Nat.le_trans kz7_0.out.size h.1
      have t_7_0_5 := Hid.mk' (t_7_0.out.chg k_7_0_5 (fun j a b => by rw [own_slice] at a b; exact ne_7_0.out (b.symm.trans a)))
      clear r_7_0_5 o_7_0_5 k_7_0_5 n_7_0_5
      refine hK.out _ _ ((kz7_0_5.out.cell (fun h => h) bx)) (fun hHeld => ?_)
      clear hK K
      refine norm_ (a' := ?_) ?_ ?_
      rotate_left
      · show Act.put _ (some 51) _ = _
        simp only [Act.put, List.setIfInBounds_toArray, List.set_cons_zero, List.set_cons_succ, i64_w, i32_w]
        rfl
      exact norm_ (by simp only [putAll, Act.put, List.setIfInBounds_toArray, List.set_cons_zero, List.set_cons_succ]) (hCont (X7.heap.size, W5.heap.size, (a7_0_5, n7_0_5, c7_0_5)) _ ⟨res_7_0_5.out, t_7_0_5.out, ores_7_0_5.out, nn_7_0_5.out, kz7_0_5.out⟩)
  rintro ⟨gJ1, gJ2, aJ, nJ, cJ⟩ wJ ⟨rJ, litJ, oJ, nnJ, kJ⟩
  replace rJ : Hid (Row wJ 3 (.slice aJ nJ cJ) (([] : List Value))) := rJ
  replace litJ : Hid (Row wJ 3 (.slice (some ⟨gJ2, 0, none⟩) 1 1) [Value.int .i64 val]) := litJ
  replace oJ : Hid (∀ k, own (.slice aJ nJ cJ) k → W5.heap.size ≤ k) := oJ
  replace nnJ : Hid (∃ g, own (.slice aJ nJ cJ) g) := nnJ
  replace kJ := Hid.mk' kJ
  have hHeld : wJ.cell? ⟨b, 2, none⟩ = some (.slice none 0 0) := kJ.out.cell (fun h => h) bx
  refine norm_ (a' := ?_) ?_ ?_
  rotate_left
  · simp only [putAll, Act.put, List.setIfInBounds_toArray, List.set_cons_zero, List.set_cons_succ]
    rfl
  refine one_ (i := 8) (N := some 54) #[true, true, true, true, true, true, true, true, true, true, true, true, true, false, false, false] rfl rfl (by kernel_rfl) (by decide) (fun K hK => ?_)
  refine append_step_nn (by rfl) rfl (.tmp 51) (.tmp 53) 35 3 (.int .i64 0) 8 rfl Try.underlying35 info3 rfl (.slice aJ nJ cJ) (.slice (some ⟨gJ2, 0, none⟩) 1 1) (([] : List Value)) ([Value.int .i64 val]) (by rfl) (by rfl) (rJ.out) (litJ.out.src) (by intro y hy; cases List.mem_singleton.1 hy; rfl) lB.out.1 lB.out.2 ?_
  intro v8 w8 r8 o8 k8 n8
  obtain ⟨a8, m8, c8, rfl, l8⟩ := r8.form'
  replace n8 := Hid.mk' (n8 nnJ.out)
  have kz8 : Hid (Chg NoB W5 w8) := kJ.out.trans' k8 (fun j hj => .inr (oJ.out j hj))
  have oz8 : Hid (∀ k, own (.slice a8 m8 c8) k → W5.heap.size ≤ k) := fun k hk => (o8 k hk).elim (oJ.out k) fun h => Nat.le_trans kJ.out.size h.1
  replace r8 := Hid.mk' r8
  clear o8 k8
  refine hK.out _ _ ((kz8.out.cell (fun h => h) bx)) (fun hHeld => ?_)
  clear hK K
  refine norm_ (a' := ?_) ?_ ?_
  rotate_left
  · show Act.put _ (some 54) _ = _
    simp only [Act.put, List.setIfInBounds_toArray, List.set_cons_zero, List.set_cons_succ, i64_w, i32_w]
    rfl
  refine one_ (i := 13) (N := some 59) #[true, true, true, true, true, true, true, true, true, true, true, true, true, true, false, false] rfl rfl (by kernel_rfl) (by decide) (fun K hK => ?_)
  refine append_step_nn (by rfl) rfl (.tmp 54) (.tmp 58) 35 3 (.int .i64 0) 8 rfl Try.underlying35 info3 rfl (.slice a8 m8 c8) (.slice none 0 0) ((([] : List Value)) ++ [Value.int .i64 val]) (([] : List Value)) (by rfl) (by rfl) (r8.out) (s2.out.chg kz8.out (fun _ _ h => h)) (by first | exact int_cell _ | (intro y hy; cases hy)) lC.out.1 lC.out.2 ?_
  intro v6 w9 r6 o6 k6 n6
  obtain ⟨a6, m6', c6, rfl, l6⟩ := r6.form'
  replace n6 := Hid.mk' (n6 n8.out)
  have kz6 : Hid (Chg NoB W5 w9) := kz8.out.trans' k6 (fun j hj => .inr (oz8.out j hj))
  have oz6 : Hid (∀ k, own (.slice a6 m6' c6) k → W5.heap.size ≤ k) := fun k hk => (o6 k hk).elim (oz8.out k) fun h => Nat.le_trans kz8.out.size h.1
  replace r6 := Hid.mk' r6
  clear o6 k6
  have hG6 := Hid.mk' ((kz6.out).heap (fun h => h) hG.out)
  have p2 : w9.cell? ⟨g2, 2, none⟩ = some (.slice none 0 0) := by rw [cell_of_row w9 g2 2 _ _ _ hG6.out]; rfl
  have q2 := frozen_of_row w9 g2 2 _ _ hG6.out
  refine hK.out _ _ ((kz6.out.cell (fun h => h) bx)) (fun hHeld => ?_)
  clear hK K
  refine norm_ (a' := ?_) ?_ ?_
  rotate_left
  · show Act.put _ (some 59) _ = _
    simp only [Act.put, List.setIfInBounds_toArray, List.set_cons_zero, List.set_cons_succ, i64_w, i32_w]
    rfl
  refine pure_ (i := 14) (N := some 60) (v := ?_) (a' := ?_) #[true, true, true, true, true, true, true, true, true, true, true, true, true, true, true, false] rfl rfl (by kernel_rfl) (fun _ _ _ h => h) (Or.inl ⟨by rfl, ?_⟩) ?_ ?_
  rotate_left
  · intro w'
    go_simp
    with_reducible rfl
  rotate_left
  · simp only [Act.put, List.setIfInBounds_toArray, List.set_cons_zero, List.set_cons_succ, i64_w, i32_w]
    rfl
  refine last_ (i := 15) (N := none) #[true, true, true, true, true, true, true, true, true, true, true, true, true, true, true, true] rfl rfl (by kernel_rfl) (by decide) (fun K hK => ?_)
  refine skip_ (w1 := ?_) (by rfl) rfl ?_ ?_
  rotate_left
  · go_simp
    rfl
  refine hK.out _ _ ?_
  clear hK K
  refine done_ (by kernel_rfl) ?_
  obtain ⟨g6, hg6⟩ := n6.out
  have ha6 := own_some r6.out hg6
  subst ha6
  obtain ⟨W6, hW6⟩ : ∃ W6, W6 = w9.setCell ⟨g2, 2, none⟩ (.slice (some ⟨g6, 0, none⟩) m6' c6) := ⟨_, rfl⟩
  have kS : Chg (fun k => k = g2) w9 W6 := by rw [hW6]; exact (Chg.refl (fun k => k = g2) _).setCell _ (.inl rfl) _
  have kt : Chg (fun k => k = g2) W5 W6 := (kz6.out.mono fun _ h => h.elim).trans kS
  have sz5 : W4.heap.size ≤ W5.heap.size := k45.out.size
  have hG9 : W6.heap[g2]? = some (.cells #[.bool false, .slice (some ⟨gr, 0, none⟩) mr cr, .slice (some ⟨g6, 0, none⟩) m6' c6] 42 (0, 0)) := by rw [hW6]; exact heap_setCell_same _ g2 2 _ 42 _ hG6.out
  have hc2 : Hid (W6.heap[b + 1]? = some (.cells #[.bool false, .slice none 0 0, .slice none 0 0] 42 (0, 0))) := kt.heap (fun h => by have := zb.out; omega) hC.out
  have res2 : Hid (Row W6 3 (.slice (some ⟨g6, 0, none⟩) m6' c6) (((([] : List Value)) ++ [Value.int .i64 val]) ++ ([] : List Value))) := (r6.out.chg kS fun j a b => by have h1 := oz6.out j a; have h2 := zb.out.2.2; omega)
  have res1' : Hid (Row W6 9 (.slice (some ⟨gr, 0, none⟩) mr cr) (((([] : List Value)) ++ [Value.string key]) ++ ([] : List Value))) := res1.out.chg kt fun j a b => by have := zr1.out j a; omega
  have res2z : Hid (∀ j, own (.slice (some ⟨g6, 0, none⟩) m6' c6) j → g2 < j) := fun j hj => by have h1 := oz6.out j hj; have h2 := zb.out.2.2; omega
  have kall : Hid (Chg NoB w W6) := ((k12'.out.trans k24.out).trans' k45.out fun j hj => .inr (by have := zb.out; omega)).trans' kt fun j hj => .inr (by have := zb.out; omega)
  have e0 : W6.cell? ⟨g2, 0, none⟩ = some (.bool false) := by rw [cell_of_row W6 g2 0 _ _ _ hG9]; rfl
  have e1 : W6.cell? ⟨g2, 1, none⟩ = some (.slice (some ⟨gr, 0, none⟩) mr cr) := by rw [cell_of_row W6 g2 1 _ _ _ hG9]; rfl
  have e2 : W6.cell? ⟨g2, 2, none⟩ = some (.slice (some ⟨g6, 0, none⟩) m6' c6) := by rw [cell_of_row W6 g2 2 _ _ _ hG9]; rfl
  clear p2 q2 hG9
  have p0 : W6.cell? ⟨b + 1, 0, none⟩ = some (.bool false) := by rw [cell_of_row W6 (b + 1) 0 _ _ _ hc2.out]; rfl
  have p1 : W6.cell? ⟨b + 1, 1, none⟩ = some (.slice none 0 0) := by rw [cell_of_row W6 (b + 1) 1 _ _ _ hc2.out]; rfl
  have p2 : W6.cell? ⟨b + 1, 2, none⟩ = some (.slice none 0 0) := by rw [cell_of_row W6 (b + 1) 2 _ _ _ hc2.out]; rfl
  have q0 := frozen_of_row W6 (b + 1) 0 _ _ hc2.out
  have q1 := frozen_of_row W6 (b + 1) 1 _ _ hc2.out
  have q2 := frozen_of_row W6 (b + 1) 2 _ _ hc2.out
  rw [← hW6]
  have hzb : Hid (w.heap.size ≤ b + 1) := by show _ ≤ _; have := zb.out; omega
  clear bx s1 s2 lA lB lC hg6 hW6 kS kt n6 r6 oz6 kz6 hG6 r8 n8 oz8 kz8 rJ litJ oJ nnJ kJ l6 l8 hHeld
  go_wp2_with fail
  refine bodyPost_ret (ret_ctt rfl _ _ (b + 1) 42 #[.bool false, .slice (some ⟨gr, 0, none⟩) mr cr, .slice (some ⟨g6, 0, none⟩) m6' c6] _ rfl (blk3 hc2.out _ _ _) Try.underlying42 rfl (by kernel_rfl)) rfl ?_
  have kf : Chg (fun k => k = b + 1) W6 (((W6.setCell ⟨b + 1, 0, none⟩ (.bool false)).setCell ⟨b + 1, 1, none⟩ (.slice (some ⟨gr, 0, none⟩) mr cr)).setCell ⟨b + 1, 2, none⟩ (.slice (some ⟨g6, 0, none⟩) m6' c6)) := (((Chg.refl (fun k => k = b + 1) W6).setCell _ (.inl rfl) _).setCell _ (.inl rfl) _).setCell _ (.inl rfl) _
  refine ⟨_, rfl, .inr ⟨gr, mr, cr, g6, m6', c6, rfl, ?_, ?_, hia.out⟩, fun j hj => by have h2 := zb.out; rcases hj with hj | hj; (have h1 := zr1.out j hj; omega); (have h1 := res2z.out j hj; omega), chg3 kall.out hzb.out _ _ _⟩
  · have := res1'.out.chg kf fun j a b => by have h1 := zr1.out j a; have h2 := zb.out; omega
    exact this
  · have := res2.out.chg kf fun j a b => by have h1 := res2z.out j a; have h2 := zb.out; omega
    exact this

set_option maxHeartbeats 16000000 in
set_option maxRecDepth 100000 in
theorem put33_some (gk nk ck gv nv cv : Nat) (key : ByteArray) (val : Int) (L : List E) (og : Option Int) (w : World) (ha : Asc L) (hk : Row w 9 (.slice (some ⟨gk, 0, none⟩) nk ck) ((L.map Prod.fst).map Value.string)) (hv : Row w 3 (.slice (some ⟨gv, 0, none⟩) nv cv) ((L.map Prod.snd).map (Value.int .i64))) (hl : L.length ≤ 1000000) (hg : getM key L = og) :
    Calls Try.prog 33 #[.agg #[.bool false, .slice (some ⟨gk, 0, none⟩) nk ck, .slice (some ⟨gv, 0, none⟩) nv cv], .string key, .int .i64 val] w fun e w' => ∃ v, e = .returned (.tuple #[v, .int .i64 (og.getD 0), .bool og.isSome]) ∧ MapV w' v false (insM key val L) ∧ (∀ j, mown v j → w.heap.size ≤ j) ∧ Chg NoB w w' := by
  have hia := Hid.mk' (insM_asc key val L ha).1
  obtain ⟨W1, hW1⟩ : ∃ W1, W1 = w.alloc (.cells #[.bool false, .slice (some ⟨gk, 0, none⟩) nk ck, .slice (some ⟨gv, 0, none⟩) nv cv] 42) := ⟨_, rfl⟩
  have k1 : Chg NoB w W1 := by rw [hW1]; exact (Chg.refl _ _).alloc _
  have hb : W1.heap[w.heap.size]? = some (.cells #[.bool false, .slice (some ⟨gk, 0, none⟩) nk ck, .slice (some ⟨gv, 0, none⟩) nv cv] 42 (0, 0)) := by rw [hW1]; exact heap_alloc_new _ _
  obtain ⟨b, hbb⟩ : ∃ b, b = w.heap.size := ⟨_, rfl⟩
  rw [← hbb] at hb
  have hsz : W1.heap.size = b + 1 := by rw [hW1, hbb]; simp
  obtain ⟨W2, hW2⟩ : ∃ W2, W2 = W1.alloc (.cells #[.bool false, .slice none 0 0, .slice none 0 0] 42) := ⟨_, rfl⟩
  have k2 : Chg NoB W1 W2 := by rw [hW2]; exact (Chg.refl _ _).alloc _
  have hc : W2.heap[b + 1]? = some (.cells #[.bool false, .slice none 0 0, .slice none 0 0] 42 (0, 0)) := by rw [hW2, ← hsz]; exact heap_alloc_new _ _
  replace hb := k2.heap (fun h => h) hb
  have e0 : W2.cell? ⟨b, 0, none⟩ = some (.bool false) := by rw [cell_of_row W2 b 0 _ _ _ hb]; rfl
  have e1 : W2.cell? ⟨b, 1, none⟩ = some (.slice (some ⟨gk, 0, none⟩) nk ck) := by rw [cell_of_row W2 b 1 _ _ _ hb]; rfl
  have e2 : W2.cell? ⟨b, 2, none⟩ = some (.slice (some ⟨gv, 0, none⟩) nv cv) := by rw [cell_of_row W2 b 2 _ _ _ hb]; rfl
  have k12 := k1.trans k2
  have cg := get35 false _ nk ck _ nv cv key L W2 ha (hk.chg k12 fun _ _ h => h) (hv.chg k12 fun _ _ h => h) hl
  rw [hg] at cg
  have hb' := Hid.mk' hb
  have hc' := Hid.mk' hc
  have hW1' := Hid.mk' hW1
  have hW2' := Hid.mk' hW2
  have hbb' := Hid.mk' hbb
  have hsz' := Hid.mk' hsz
  have k12' := Hid.mk' k12
  have hk' := Hid.mk' (hk.chg k12 fun _ _ h => h)
  have hv' := Hid.mk' (hv.chg k12 fun _ _ h => h)
  clear hk hv hb hc hW1 hW2 hbb k1 k2 k12 hsz
  have hnk : nk = L.length := by simpa using hk'.out.cap_le.1
  have hnv : nv = L.length := by simpa using hv'.out.cap_le.1
  have cpk := hk'.out.cap_le.2.1
  have cpv := hv'.out.cap_le.2.1
  obtain ⟨q, hq⟩ : ∃ q, atM key (L.map Prod.fst) = q := ⟨_, rfl⟩
  obtain ⟨DK, hDK⟩ : ∃ D : Nat → List Value, D = fun o => (((L.map Prod.fst).drop o).map Value.string) := ⟨_, rfl⟩
  obtain ⟨DV, hDV⟩ : ∃ D : Nat → List Value, D = fun o => (((L.map Prod.snd).drop o).map (Value.int .i64)) := ⟨_, rfl⟩
  have ceK0 : ∀ o, ∀ y ∈ DK o, y.oneCell' = true := fun o y hy => by rw [hDK] at hy; exact str_cell _ y hy
  have ceV0 : ∀ o, ∀ y ∈ DV o, y.oneCell' = true := fun o y hy => by rw [hDV] at hy; exact int_cell _ y hy
  cases og
  case' none =>
    have cg' : Hid (Calls Try.prog 35 #[.agg #[.bool false, .slice (some ⟨gk, 0, none⟩) nk ck, .slice (some ⟨gv, 0, none⟩) nv cv], .string key] W2 fun e w' => e = .returned (.tuple #[.int .i64 0, .bool false]) ∧ Chg NoB W2 w') := cg
    have hparts := miss_parts ha hg val
    rw [hq] at hparts
    have hqL := hparts.1
    have hdl0 := hparts.2
    obtain ⟨qK, hqK, hifK⟩ : ∃ q2, (nk - (q) = 0 ∨ q2 = q) ∧ (if ck = q then some (⟨gk, 0, none⟩ : Addr) else some ⟨gk, q, none⟩) = some ⟨gk, q2, none⟩ := by
      by_cases hcap : ck = q
      · exact ⟨0, .inl (by omega), by rw [if_pos hcap]⟩
      · exact ⟨q, .inr rfl, by rw [if_neg hcap]⟩
    have s1K : Hid (Src W2 (.slice (some ⟨gk, 0, none⟩) q ck) (((L.map Prod.fst).take q).map Value.string)) := by show Src _ _ _; rw [List.map_take]; exact (hk'.out.cut q (by omega)).src
    obtain ⟨uK, huK⟩ : ∃ u, u = Value.slice (some ⟨gk, qK, none⟩) (nk - (q)) (ck - (q)) := ⟨_, rfl⟩
    have s2K : Hid (Src W2 (.slice (some ⟨gk, qK, none⟩) (nk - (q)) (ck - (q))) (DK (q))) := by show Src _ _ _; rw [hDK]; show Src _ _ (List.map _ (List.drop _ _)); rw [List.map_drop]; exact hk'.out.src_from (q) _ _ rfl (by omega) _ hqK
    have m1K : (q : Int) ≤ (ck : Int) := by omega
    have m3K : (q : Int) ≤ (nk : Int) := by omega
    obtain ⟨qV, hqV, hifV⟩ : ∃ q2, (nv - (q) = 0 ∨ q2 = q) ∧ (if cv = q then some (⟨gv, 0, none⟩ : Addr) else some ⟨gv, q, none⟩) = some ⟨gv, q2, none⟩ := by
      by_cases hcap : cv = q
      · exact ⟨0, .inl (by omega), by rw [if_pos hcap]⟩
      · exact ⟨q, .inr rfl, by rw [if_neg hcap]⟩
    have s1V : Hid (Src W2 (.slice (some ⟨gv, 0, none⟩) q cv) (((L.map Prod.snd).take q).map (Value.int .i64))) := by show Src _ _ _; rw [List.map_take]; exact (hv'.out.cut q (by omega)).src
    obtain ⟨uV, huV⟩ : ∃ u, u = Value.slice (some ⟨gv, qV, none⟩) (nv - (q)) (cv - (q)) := ⟨_, rfl⟩
    have s2V : Hid (Src W2 (.slice (some ⟨gv, qV, none⟩) (nv - (q)) (cv - (q))) (DV (q))) := by show Src _ _ _; rw [hDV]; show Src _ _ (List.map _ (List.drop _ _)); rw [List.map_drop]; exact hv'.out.src_from (q) _ _ rfl (by omega) _ hqV
    have m1V : (q : Int) ≤ (cv : Int) := by omega
    have m3V : (q : Int) ≤ (nv : Int) := by omega
    have fK : Hid (((((L.map Prod.fst).take q).map Value.string) ++ [Value.string key]) ++ DK (q) = ((insM key val L).map Prod.fst).map Value.string) := by show _ = _; rw [hDK, ← hdl0]; simp
    have fV : Hid (((((L.map Prod.snd).take q).map (Value.int .i64)) ++ [Value.int .i64 val]) ++ DV (q) = ((insM key val L).map Prod.snd).map (Value.int .i64)) := by show _ = _; rw [hDV, ← hdl0]; simp
    obtain ⟨EK, hEK⟩ : ∃ E, DK (q) = E := ⟨_, rfl⟩
    obtain ⟨EV, hEV⟩ : ∃ E, DV (q) = E := ⟨_, rfl⟩
    rw [hEK] at fK s2K
    rw [hEV] at fV s2V
    have lEK : EK.length ≤ L.length := by rw [← hEK, hDK]; simp
    have lEV : EV.length ≤ L.length := by rw [← hEV, hDV]; simp
    have m2 : (0 : Int) ≤ (q : Int) := by omega
    have m4 : True := by trivial
    have n3 : True := trivial
    have ceK : ∀ y ∈ EK, y.oneCell' = true := hEK ▸ ceK0 _
    have ceV : ∀ y ∈ EV, y.oneCell' = true := hEV ▸ ceV0 _
    clear hparts hdl0 huK huV hEK hEV hDK hDV ceK0 ceV0
  case' some y =>
    have cg' : Hid (Calls Try.prog 35 #[.agg #[.bool false, .slice (some ⟨gk, 0, none⟩) nk ck, .slice (some ⟨gv, 0, none⟩) nv cv], .string key] W2 fun e w' => e = .returned (.tuple #[.int .i64 y, .bool true]) ∧ Chg NoB W2 w') := cg
    have hparts := hit_parts ha hg val
    rw [hq] at hparts
    have hqL := hparts.1
    have hdl0 := hparts.2.2
    obtain ⟨qK, hqK, hifK⟩ : ∃ q2, (nk - (q + 1) = 0 ∨ q2 = q + 1) ∧ (if ck = q + 1 then some (⟨gk, 0, none⟩ : Addr) else some ⟨gk, q + 1, none⟩) = some ⟨gk, q2, none⟩ := by
      by_cases hcap : ck = q + 1
      · exact ⟨0, .inl (by omega), by rw [if_pos hcap]⟩
      · exact ⟨q + 1, .inr rfl, by rw [if_neg hcap]⟩
    have s1K : Hid (Src W2 (.slice (some ⟨gk, 0, none⟩) q ck) (((L.map Prod.fst).take q).map Value.string)) := by show Src _ _ _; rw [List.map_take]; exact (hk'.out.cut q (by omega)).src
    obtain ⟨uK, huK⟩ : ∃ u, u = Value.slice (some ⟨gk, qK, none⟩) (nk - (q + 1)) (ck - (q + 1)) := ⟨_, rfl⟩
    have s2K : Hid (Src W2 (.slice (some ⟨gk, qK, none⟩) (nk - (q + 1)) (ck - (q + 1))) (DK (q + 1))) := by show Src _ _ _; rw [hDK]; show Src _ _ (List.map _ (List.drop _ _)); rw [List.map_drop]; exact hk'.out.src_from (q + 1) _ _ rfl (by omega) _ hqK
    have m1K : (q : Int) ≤ (ck : Int) := by omega
    have m3K : (q : Int) + 1 ≤ (nk : Int) := by omega
    obtain ⟨qV, hqV, hifV⟩ : ∃ q2, (nv - (q + 1) = 0 ∨ q2 = q + 1) ∧ (if cv = q + 1 then some (⟨gv, 0, none⟩ : Addr) else some ⟨gv, q + 1, none⟩) = some ⟨gv, q2, none⟩ := by
      by_cases hcap : cv = q + 1
      · exact ⟨0, .inl (by omega), by rw [if_pos hcap]⟩
      · exact ⟨q + 1, .inr rfl, by rw [if_neg hcap]⟩
    have s1V : Hid (Src W2 (.slice (some ⟨gv, 0, none⟩) q cv) (((L.map Prod.snd).take q).map (Value.int .i64))) := by show Src _ _ _; rw [List.map_take]; exact (hv'.out.cut q (by omega)).src
    obtain ⟨uV, huV⟩ : ∃ u, u = Value.slice (some ⟨gv, qV, none⟩) (nv - (q + 1)) (cv - (q + 1)) := ⟨_, rfl⟩
    have s2V : Hid (Src W2 (.slice (some ⟨gv, qV, none⟩) (nv - (q + 1)) (cv - (q + 1))) (DV (q + 1))) := by show Src _ _ _; rw [hDV]; show Src _ _ (List.map _ (List.drop _ _)); rw [List.map_drop]; exact hv'.out.src_from (q + 1) _ _ rfl (by omega) _ hqV
    have m1V : (q : Int) ≤ (cv : Int) := by omega
    have m3V : (q : Int) + 1 ≤ (nv : Int) := by omega
    have fK : Hid (((((L.map Prod.fst).take q).map Value.string) ++ [Value.string key]) ++ DK (q + 1) = ((insM key val L).map Prod.fst).map Value.string) := by show _ = _; rw [hDK, ← hdl0]; simp
    have fV : Hid (((((L.map Prod.snd).take q).map (Value.int .i64)) ++ [Value.int .i64 val]) ++ DV (q + 1) = ((insM key val L).map Prod.snd).map (Value.int .i64)) := by show _ = _; rw [hDV, ← hdl0]; simp
    obtain ⟨EK, hEK⟩ : ∃ E, DK (q + 1) = E := ⟨_, rfl⟩
    obtain ⟨EV, hEV⟩ : ∃ E, DV (q + 1) = E := ⟨_, rfl⟩
    rw [hEK] at fK s2K
    rw [hEV] at fV s2V
    have lEK : EK.length ≤ L.length := by rw [← hEK, hDK]; simp
    have lEV : EV.length ≤ L.length := by rw [← hEV, hDV]; simp
    have m2 : (0 : Int) ≤ (q : Int) + 1 := by omega
    have m4 : ((q : Int) + 1).toNat = q + 1 := by omega
    have n3 : IntKind.i64.wrap ((q : Int) + 1) = (q : Int) + 1 := by rw [IntKind.wrap_i64]; omega
    have ceK : ∀ y ∈ EK, y.oneCell' = true := hEK ▸ ceK0 _
    have ceV : ∀ y ∈ EV, y.oneCell' = true := hEV ▸ ceV0 _
    clear hparts hdl0 huK huV hEK hEV hDK hDV ceK0 ceV0
  all_goals
    clear cg hg
    have hq' := Hid.mk' hq
    replace hnk := Hid.mk' hnk
    replace hnv := Hid.mk' hnv
    have m0 : (0 : Int) ≤ (q : Int) := by omega
    have lAK : Hid (((([] : List Value)).length + (((L.map Prod.fst).take q).map Value.string).length) * 16 ≤ 140737488355328 ∧ (([] : List Value)).length + (((L.map Prod.fst).take q).map Value.string).length ≤ 1099511627776) := by constructor <;> simp <;> omega
    have lBK : Hid (((((L.map Prod.fst).take q).map Value.string).length + ([Value.string key] : List Value).length) * 16 ≤ 140737488355328 ∧ (((L.map Prod.fst).take q).map Value.string).length + ([Value.string key] : List Value).length ≤ 1099511627776) := by constructor <;> simp <;> omega
    have lCK : Hid ((((((L.map Prod.fst).take q).map Value.string) ++ [Value.string key]).length + EK.length) * 16 ≤ 140737488355328 ∧ ((((L.map Prod.fst).take q).map Value.string) ++ [Value.string key]).length + EK.length ≤ 1099511627776) := by constructor <;> simp <;> omega
    have lAV : Hid (((([] : List Value)).length + (((L.map Prod.snd).take q).map (Value.int .i64)).length) * 8 ≤ 140737488355328 ∧ (([] : List Value)).length + (((L.map Prod.snd).take q).map (Value.int .i64)).length ≤ 1099511627776) := by constructor <;> simp <;> omega
    have lBV : Hid (((((L.map Prod.snd).take q).map (Value.int .i64)).length + ([Value.int .i64 val] : List Value).length) * 8 ≤ 140737488355328 ∧ (((L.map Prod.snd).take q).map (Value.int .i64)).length + ([Value.int .i64 val] : List Value).length ≤ 1099511627776) := by constructor <;> simp <;> omega
    have lCV : Hid ((((((L.map Prod.snd).take q).map (Value.int .i64)) ++ [Value.int .i64 val]).length + EV.length) * 8 ≤ 140737488355328 ∧ ((((L.map Prod.snd).take q).map (Value.int .i64)) ++ [Value.int .i64 val]).length + EV.length ≤ 1099511627776) := by constructor <;> simp <;> omega
    have ccK : Hid (∀ y ∈ EK, y.oneCell' = true) := fun y hy => ceK y hy
    have ccV : Hid (∀ y ∈ EV, y.oneCell' = true) := fun y hy => ceV y hy
    clear hq lEK lEV ceK ceV
    go_enter Try.func33, Try.ntmps33
    go_wp2_with fail
    rw [← hW1'.out, ← hbb'.out, ← hW2'.out]
    refine cg'.out.mono ?_
    rintro e w2 ⟨rfl, k2⟩
    have f0 := k2.cell (fun h => h) e0
    have f1 := k2.cell (fun h => h) e1
    have f2 := k2.cell (fun h => h) e2
    have k2' := Hid.mk' k2
    clear e0 e1 e2 cg' k2
    have ca : Hid (Calls Try.prog 51 #[.agg #[.bool false, .slice (some ⟨gk, 0, none⟩) nk ck, .slice (some ⟨gv, 0, none⟩) nv cv], .string key] w2 fun e w' => e = .returned (.int .i64 (q : Int)) ∧ Chg NoB w2 w') := by
      have := at51 false _ nk ck (.slice (some ⟨gv, 0, none⟩) nv cv) key (L.map Prod.fst) w2 (hk'.out.chg k2'.out fun _ _ h => h) (by simpa using hl)
      rwa [hq'.out] at this
    go_wp2_with fail
    refine ca.out.mono ?_
    rintro e w3 ⟨rfl, k3⟩
    have k3' := Hid.mk' k3
    clear f0 f1 f2 ca k3
    obtain ⟨W4, hW4⟩ : ∃ W4, W4 = w3.alloc (.cells #[.bool false, .slice none 0 0, .slice none 0 0] 42) := ⟨_, rfl⟩
    obtain ⟨g2, hg2⟩ : ∃ g2, g2 = w3.heap.size := ⟨_, rfl⟩
    have k4 : Chg NoB w3 W4 := by rw [hW4]; exact (Chg.refl _ _).alloc _
    have hG : Hid (W4.heap[g2]? = some (.cells #[.bool false, .slice none 0 0, .slice none 0 0] 42 (0, 0))) := by show _ = _; rw [hW4, hg2]; exact heap_alloc_new _ _
    have k24 : Hid (Chg NoB W2 W4) := (k2'.out.trans k3'.out).trans k4
    have hB : Hid (W4.heap[b]? = some (.cells #[.bool false, .slice (some ⟨gk, 0, none⟩) nk ck, .slice (some ⟨gv, 0, none⟩) nv cv] 42 (0, 0))) := k24.out.heap (fun h => h) hb'.out
    have hC : Hid (W4.heap[b + 1]? = some (.cells #[.bool false, .slice none 0 0, .slice none 0 0] 42 (0, 0))) := k24.out.heap (fun h => h) hc'.out
    have t1K := Hid.mk' (s1K.out.chg k24.out fun _ _ h => h)
    have t2K := Hid.mk' (s2K.out.chg k24.out fun _ _ h => h)
    have zb : Hid (b + 1 < g2 ∧ w.heap.size ≤ b ∧ g2 < W4.heap.size) := by
      have h1 := (Array.getElem?_eq_some_iff.1 (k2'.out.trans k3'.out |>.heap (fun h => h) hc'.out)).1
      have h2 := hbb'.out
      refine ⟨by omega, by omega, by rw [hW4, hg2]; simp⟩
    have zv : Hid (∀ j, own (.slice (some ⟨gv, 0, none⟩) nv cv) j → j < g2) := fun j hj => by rw [hg2]; exact (hv'.out.chg (k2'.out.trans k3'.out) fun _ _ h => h).lt hj
    have hW4' := Hid.mk' hW4
    have hg2' := Hid.mk' hg2
    clear hW4 hg2 k4 hk' hb' hc'
    go_upto_region 9 with (fail)
    rw [← hW4'.out, ← hg2'.out]
    have bx : W4.cell? ⟨b, 1, none⟩ = some (.slice (some ⟨gk, 0, none⟩) nk ck) := by rw [cell_of_row W4 b 1 _ _ _ hB.out]; rfl
    refine start_ (n := 16) (S := fun w' => w'.cell? ⟨b, 1, none⟩ = some (.slice (some ⟨gk, 0, none⟩) nk ck)) (ds := [15]) #[false, false, false, false, false, false, false, false, false, false, false, false, false, false, false, false] (by kernel_rfl) rfl rfl (bx) (fun hHeld => ?_)
    refine pure_ (i := 1) (N := some 32) (v := ?_) (a' := ?_) #[false, true, false, false, false, false, false, false, false, false, false, false, false, false, false, false] rfl rfl (by kernel_rfl) (fun _ _ _ h => h) (Or.inl ⟨by rfl, ?_⟩) ?_ ?_
    rotate_left
    · intro w'
      go_simp
      with_reducible rfl
    rotate_left
    · simp only [Act.put, List.setIfInBounds_toArray, List.set_cons_zero, List.set_cons_succ, i64_w, i32_w]
      rfl
    refine pure_ (i := 3) (N := some 34) (v := ?_) (a' := ?_) #[false, true, false, true, false, false, false, false, false, false, false, false, false, false, false, false] rfl rfl (by kernel_rfl) (fun _ _ _ h => h) (Or.inl ⟨by rfl, ?_⟩) ?_ ?_
    rotate_left
    · intro w'
      go_simp
      with_reducible rfl
    rotate_left
    · simp only [Act.put, List.setIfInBounds_toArray, List.set_cons_zero, List.set_cons_succ, i64_w, i32_w]
      rfl
    refine pure_ (i := 6) (N := some 37) (v := ?_) (a' := ?_) #[false, true, false, true, false, false, true, false, false, false, false, false, false, false, false, false] rfl rfl (by kernel_rfl) (fun _ _ _ h => h) (Or.inl ⟨by rfl, ?_⟩) ?_ ?_
    rotate_left
    · intro w'
      go_simp
      with_reducible rfl
    rotate_left
    · simp only [Act.put, List.setIfInBounds_toArray, List.set_cons_zero, List.set_cons_succ, i64_w, i32_w]
      rfl
    refine pure_ (i := 9) (N := some 40) (v := ?_) (a' := ?_) #[false, true, false, true, false, false, true, false, false, true, false, false, false, false, false, false] rfl rfl (by kernel_rfl) (fun _ _ _ h => h) (Or.inl ⟨by rfl, ?_⟩) ?_ ?_
    rotate_left
    · intro w'
      go_simp
      with_reducible rfl
    rotate_left
    · simp only [Act.put, List.setIfInBounds_toArray, List.set_cons_zero, List.set_cons_succ, i64_w, i32_w]
      rfl
    refine pure_ (i := 11) (N := some 42) (v := ?_) (a' := ?_) #[false, true, false, true, false, false, true, false, false, true, false, true, false, false, false, false] rfl rfl (by kernel_rfl) (fun _ _ _ h => h) (Or.inl ⟨by rfl, ?_⟩) ?_ ?_
    rotate_left
    · intro w'
      go_simp
      with_reducible rfl
    rotate_left
    · simp only [Act.put, List.setIfInBounds_toArray, List.set_cons_zero, List.set_cons_succ, i64_w, i32_w]
      rfl
    refine take_ (i := 2) (N := some 33) (v := ?_) (a' := ?_) #[false, true, true, true, false, false, true, false, false, true, false, true, false, false, false, false] rfl rfl (by kernel_rfl) (fun _ _ _ h => h) (Or.inl ⟨by rfl, ?_⟩) hHeld ?_ ?_
    rotate_left
    · intro w' s0
      go_simp
      with_reducible rfl
    rotate_left
    · simp only [Act.put, List.setIfInBounds_toArray, List.set_cons_zero, List.set_cons_succ, i64_w, i32_w]
      rfl
    refine pure_ (i := 4) (N := some 35) (v := ?_) (a' := ?_) #[false, true, true, true, true, false, true, false, false, true, false, true, false, false, false, false] rfl rfl (by kernel_rfl) (fun _ _ _ h => h) (Or.inl ⟨by rfl, ?_⟩) ?_ ?_
    rotate_left
    · intro w'
      go_simp
      with_reducible rfl
    rotate_left
    · simp only [Act.put, List.setIfInBounds_toArray, List.set_cons_zero, List.set_cons_succ, i64_w, i32_w]
      rfl
    refine take_ (i := 10) (N := some 41) (v := ?_) (a' := ?_) #[false, true, true, true, true, false, true, false, false, true, true, true, false, false, false, false] rfl rfl (by kernel_rfl) (fun _ _ _ h => h) (Or.inl ⟨by rfl, ?_⟩) hHeld ?_ ?_
    rotate_left
    · intro w' s0
      go_simp
      with_reducible rfl
    rotate_left
    · simp only [Act.put, List.setIfInBounds_toArray, List.set_cons_zero, List.set_cons_succ, i64_w, i32_w]
      rfl
    refine pure_ (i := 12) (N := some 43) (v := ?_) (a' := ?_) #[false, true, true, true, true, false, true, false, false, true, true, true, true, false, false, false] rfl rfl (by kernel_rfl) (fun _ _ _ h => h) (Or.inl ⟨by rfl, ?_⟩) ?_ ?_
    rotate_left
    · intro w'
      go_simp
      with_reducible rfl
    rotate_left
    · simp only [Act.put, List.setIfInBounds_toArray, List.set_cons_zero, List.set_cons_succ, i64_w, i32_w]
      rfl
    refine join_ (σ := Nat × Nat × (Option Addr × Nat × Nat)) 4 #[true, true, true, true, true, true, true, true, false, true, true, true, true, false, false, false] (fun s => [(31, .slice (some ⟨s.1, 0, none⟩) 0 0), (36, .slice s.2.2.1 s.2.2.2.1 s.2.2.2.2), (38, .slice (some ⟨s.2.1, 0, none⟩) 1 1)]) (HalfP W4 9 (((L.map Prod.fst).take q).map Value.string) (Value.string key)) ?_ ?_
    rotate_left
    · intro hCont
      refine two_ (i := 0) (j := 7) (Ni := some 31) (Nj := some 38) #[true, true, true, true, true, false, true, false, false, true, true, true, true, false, false, false] #[false, true, true, true, true, false, true, true, false, true, true, true, true, false, false, false] rfl rfl rfl rfl (by kernel_rfl) (by decide) (by decide) (fun K hK => ?_) (fun K hK => ?_)
      · skip
        refine value_ (w1 := ?_) (v := ?_) (by rfl) rfl ?_ ?_
        rotate_left 2
        · go_simp
          constructor
          · rfl
          · rfl
        refine named fun X0 hX0 => ?_
        have kz0 : Hid (Chg NoB W4 X0) := by show Chg _ _ _; rw [hX0]; first | exact ((Chg.refl _ W4).alloc _).drew | exact (Chg.refl _ W4).alloc _
        have z_0 : Hid (Row X0 9 (.slice (some ⟨W4.heap.size, 0, none⟩) 0 0) []) := by show Row _ _ _ _; rw [hX0]; first | exact Row.lit0 _ _ | exact Row.lit0D _ _
        have bz_0 : Hid (W4.heap.size ≤ W4.heap.size) := Nat.le_refl _
        clear hX0
        refine hK.out _ _ ((kz0.out.cell (fun h => h) bx)) (fun hHeld => ?_)
        clear hK K
        refine norm_ (a' := ?_) ?_ ?_
        rotate_left
        · show Act.put _ (some 31) _ = _
          simp only [Act.put, List.setIfInBounds_toArray, List.set_cons_zero, List.set_cons_succ, i64_w, i32_w]
          rfl
        refine two_ (i := 5) (j := 7) (Ni := some 36) (Nj := some 38) #[true, true, true, true, true, true, true, false, false, true, true, true, true, false, false, false] #[true, true, true, true, true, false, true, true, false, true, true, true, true, false, false, false] rfl rfl rfl rfl (by kernel_rfl) (by decide) (by decide) (fun K hK => ?_) (fun K hK => ?_)
        · skip
          refine append_step_nn (by rfl) rfl (.tmp 31) (.tmp 35) 34 9 (.string ⟨#[]⟩) 16 rfl Try.underlying34 info9 rfl (.slice (some ⟨W4.heap.size, 0, none⟩) 0 0) (.slice (some ⟨gk, 0, none⟩) q ck) ([]) (((L.map Prod.fst).take q).map Value.string) (by rfl) (by rfl) (z_0.out) (t1K.out.chg kz0.out (fun _ _ h => h)) (by first | exact str_cell _ | (intro y hy; cases hy)) lAK.out.1 lAK.out.2 ?_
          intro v_0_5 X0_5 r_0_5 o_0_5 k_0_5 n_0_5
          obtain ⟨a0_5, n0_5, c0_5, rfl, l0_5⟩ := r_0_5.form'
          have nn_0_5 := Hid.mk' (n_0_5 ⟨_, (own_slice _ _ _ _ _ _).2 rfl⟩)
          have kz0_5 : Hid (Chg NoB W4 X0_5) := kz0.out.trans' k_0_5 (fun j hj => by rw [own_slice] at hj; subst hj; exact .inr bz_0.out)
          have res_0_5 : Hid (Row X0_5 9 (.slice a0_5 n0_5 c0_5) (((L.map Prod.fst).take q).map Value.string)) := (by simpa using r_0_5 : Row _ _ _ _)
          have ores_0_5 : Hid (∀ k, own (.slice a0_5 n0_5 c0_5) k → W4.heap.size ≤ k) := fun k hk => (o_0_5 k hk).elim (fun h => by rw [own_slice] at h; subst h; exact bz_0.out) fun h => Nat.le_trans kz0.out.size h.1
          clear r_0_5 o_0_5 k_0_5 n_0_5
          refine hK.out _ _ ((kz0_5.out.cell (fun h => h) bx)) (fun hHeld => ?_)
          clear hK K
          refine norm_ (a' := ?_) ?_ ?_
          rotate_left
          · show Act.put _ (some 36) _ = _
            simp only [Act.put, List.setIfInBounds_toArray, List.set_cons_zero, List.set_cons_succ, i64_w, i32_w]
            rfl
          refine one_ (i := 7) (N := some 38) #[true, true, true, true, true, true, true, true, false, true, true, true, true, false, false, false] rfl rfl (by kernel_rfl) (by decide) (fun K hK => ?_)
          refine value_ (w1 := ?_) (v := ?_) (by rfl) rfl ?_ ?_
          rotate_left 2
          · go_simp
            constructor
            · rfl
            · rfl
          refine named fun X0_5_7 hX0_5_7 => ?_
          have kz0_5_7 : Hid (Chg NoB W4 X0_5_7) := by show Chg _ _ _; rw [hX0_5_7]; first | exact kz0_5.out.alloc _ | exact (kz0_5.out.alloc _).drew
          have t_0_5_7 : Hid (Row X0_5_7 9 (.slice (some ⟨X0_5.heap.size, 0, none⟩) 1 1) [Value.string key]) := by show Row _ _ _ _; rw [hX0_5_7]; first | exact Row.lit _ _ _ | exact Row.litD _ _ _
          have res_0_5_7 : Hid (Row X0_5_7 9 (.slice a0_5 n0_5 c0_5) (((L.map Prod.fst).take q).map Value.string)) := by show Row _ _ _ _; rw [hX0_5_7]; first | exact Row.al res_0_5.out _ | exact Row.alD res_0_5.out _
          have ores_0_5_7 := ores_0_5
          have nn_0_5_7 := nn_0_5
          clear hX0_5_7
          refine hK.out _ _ ((kz0_5_7.out.cell (fun h => h) bx)) (fun hHeld => ?_)
          clear hK K
          refine norm_ (a' := ?_) ?_ ?_
          rotate_left
          · show Act.put _ (some 38) _ = _
            simp only [Act.put, List.setIfInBounds_toArray, List.set_cons_zero, List.set_cons_succ, i64_w, i32_w]
            rfl
          exact norm_ (by simp only [putAll, Act.put, List.setIfInBounds_toArray, List.set_cons_zero, List.set_cons_succ]) (hCont (W4.heap.size, X0_5.heap.size, (a0_5, n0_5, c0_5)) _ ⟨res_0_5_7.out, t_0_5_7.out, ores_0_5_7.out, nn_0_5_7.out, kz0_5_7.out⟩)
        · skip
          refine value_ (w1 := ?_) (v := ?_) (by rfl) rfl ?_ ?_
          rotate_left 2
          · go_simp
            constructor
            · rfl
            · rfl
          refine named fun X0_7 hX0_7 => ?_
          have kz0_7 : Hid (Chg NoB W4 X0_7) := by show Chg _ _ _; rw [hX0_7]; first | exact kz0.out.alloc _ | exact (kz0.out.alloc _).drew
          have t_0_7 : Hid (Row X0_7 9 (.slice (some ⟨X0.heap.size, 0, none⟩) 1 1) [Value.string key]) := by show Row _ _ _ _; rw [hX0_7]; first | exact Row.lit _ _ _ | exact Row.litD _ _ _
          have z_0_7 : Hid (Row X0_7 9 (.slice (some ⟨W4.heap.size, 0, none⟩) 0 0) []) := by show Row _ _ _ _; rw [hX0_7]; first | exact Row.al z_0.out _ | exact Row.alD z_0.out _
          have bz_0_7 := bz_0
          have ne_0_7 : Hid (W4.heap.size ≠ X0.heap.size) := by show _ ≠ _; have := z_0.out.lt ((own_slice _ _ _ _ _ _).2 rfl); omega
          clear hX0_7
          refine hK.out _ _ ((kz0_7.out.cell (fun h => h) bx)) (fun hHeld => ?_)
          clear hK K
          refine norm_ (a' := ?_) ?_ ?_
          rotate_left
          · show Act.put _ (some 38) _ = _
            simp only [Act.put, List.setIfInBounds_toArray, List.set_cons_zero, List.set_cons_succ, i64_w, i32_w]
            rfl
          refine one_ (i := 5) (N := some 36) #[true, true, true, true, true, true, true, true, false, true, true, true, true, false, false, false] rfl rfl (by kernel_rfl) (by decide) (fun K hK => ?_)
          refine append_step_nn (by rfl) rfl (.tmp 31) (.tmp 35) 34 9 (.string ⟨#[]⟩) 16 rfl Try.underlying34 info9 rfl (.slice (some ⟨W4.heap.size, 0, none⟩) 0 0) (.slice (some ⟨gk, 0, none⟩) q ck) ([]) (((L.map Prod.fst).take q).map Value.string) (by rfl) (by rfl) (z_0_7.out) (t1K.out.chg kz0_7.out (fun _ _ h => h)) (by first | exact str_cell _ | (intro y hy; cases hy)) lAK.out.1 lAK.out.2 ?_
          intro v_0_7_5 X0_7_5 r_0_7_5 o_0_7_5 k_0_7_5 n_0_7_5
          obtain ⟨a0_7_5, n0_7_5, c0_7_5, rfl, l0_7_5⟩ := r_0_7_5.form'
          have nn_0_7_5 := Hid.mk' (n_0_7_5 ⟨_, (own_slice _ _ _ _ _ _).2 rfl⟩)
          have kz0_7_5 : Hid (Chg NoB W4 X0_7_5) := kz0_7.out.trans' k_0_7_5 (fun j hj => by rw [own_slice] at hj; subst hj; exact .inr bz_0_7.out)
          have res_0_7_5 : Hid (Row X0_7_5 9 (.slice a0_7_5 n0_7_5 c0_7_5) (((L.map Prod.fst).take q).map Value.string)) := (by simpa using r_0_7_5 : Row _ _ _ _)
          have ores_0_7_5 : Hid (∀ k, own (.slice a0_7_5 n0_7_5 c0_7_5) k → W4.heap.size ≤ k) := fun k hk => (o_0_7_5 k hk).elim (fun h => by rw [own_slice] at h; subst h; exact bz_0_7.out) fun h => Nat.le_trans kz0_7.out.size h.1
          have t_0_7_5 := Hid.mk' (t_0_7.out.chg k_0_7_5 (fun j a b => by rw [own_slice] at a b; exact ne_0_7.out (b.symm.trans a)))
          clear r_0_7_5 o_0_7_5 k_0_7_5 n_0_7_5
          refine hK.out _ _ ((kz0_7_5.out.cell (fun h => h) bx)) (fun hHeld => ?_)
          clear hK K
          refine norm_ (a' := ?_) ?_ ?_
          rotate_left
          · show Act.put _ (some 36) _ = _
            simp only [Act.put, List.setIfInBounds_toArray, List.set_cons_zero, List.set_cons_succ, i64_w, i32_w]
            rfl
          exact norm_ (by simp only [putAll, Act.put, List.setIfInBounds_toArray, List.set_cons_zero, List.set_cons_succ]) (hCont (W4.heap.size, X0.heap.size, (a0_7_5, n0_7_5, c0_7_5)) _ ⟨res_0_7_5.out, t_0_7_5.out, ores_0_7_5.out, nn_0_7_5.out, kz0_7_5.out⟩)
      · skip
        refine value_ (w1 := ?_) (v := ?_) (by rfl) rfl ?_ ?_
        rotate_left 2
        · go_simp
          constructor
          · rfl
          · rfl
        refine named fun X7 hX7 => ?_
        have kz7 : Hid (Chg NoB W4 X7) := by show Chg _ _ _; rw [hX7]; first | exact ((Chg.refl _ W4).alloc _).drew | exact (Chg.refl _ W4).alloc _
        have t_7 : Hid (Row X7 9 (.slice (some ⟨W4.heap.size, 0, none⟩) 1 1) [Value.string key]) := by show Row _ _ _ _; rw [hX7]; first | exact Row.lit _ _ _ | exact Row.litD _ _ _
        clear hX7
        refine hK.out _ _ ((kz7.out.cell (fun h => h) bx)) (fun hHeld => ?_)
        clear hK K
        refine norm_ (a' := ?_) ?_ ?_
        rotate_left
        · show Act.put _ (some 38) _ = _
          simp only [Act.put, List.setIfInBounds_toArray, List.set_cons_zero, List.set_cons_succ, i64_w, i32_w]
          rfl
        refine one_ (i := 0) (N := some 31) #[true, true, true, true, true, false, true, true, false, true, true, true, true, false, false, false] rfl rfl (by kernel_rfl) (by decide) (fun K hK => ?_)
        refine value_ (w1 := ?_) (v := ?_) (by rfl) rfl ?_ ?_
        rotate_left 2
        · go_simp
          constructor
          · rfl
          · rfl
        refine named fun X7_0 hX7_0 => ?_
        have kz7_0 : Hid (Chg NoB W4 X7_0) := by show Chg _ _ _; rw [hX7_0]; first | exact kz7.out.alloc _ | exact (kz7.out.alloc _).drew
        have z_7_0 : Hid (Row X7_0 9 (.slice (some ⟨X7.heap.size, 0, none⟩) 0 0) []) := by show Row _ _ _ _; rw [hX7_0]; first | exact Row.lit0 _ _ | exact Row.lit0D _ _
        have bz_7_0 : Hid (W4.heap.size ≤ X7.heap.size) := kz7.out.size
        have t_7_0 : Hid (Row X7_0 9 (.slice (some ⟨W4.heap.size, 0, none⟩) 1 1) [Value.string key]) := by show Row _ _ _ _; rw [hX7_0]; first | exact Row.al t_7.out _ | exact Row.alD t_7.out _
        have ne_7_0 : Hid (X7.heap.size ≠ W4.heap.size) := by show _ ≠ _; have := t_7.out.lt ((own_slice _ _ _ _ _ _).2 rfl); omega
        clear hX7_0
        refine hK.out _ _ ((kz7_0.out.cell (fun h => h) bx)) (fun hHeld => ?_)
        clear hK K
        refine norm_ (a' := ?_) ?_ ?_
        rotate_left
        · show Act.put _ (some 31) _ = _
          simp only [Act.put, List.setIfInBounds_toArray, List.set_cons_zero, List.set_cons_succ, i64_w, i32_w]
          rfl
        refine one_ (i := 5) (N := some 36) #[true, true, true, true, true, true, true, true, false, true, true, true, true, false, false, false] rfl rfl (by kernel_rfl) (by decide) (fun K hK => ?_)
        refine append_step_nn (by rfl) rfl (.tmp 31) (.tmp 35) 34 9 (.string ⟨#[]⟩) 16 rfl Try.underlying34 info9 rfl (.slice (some ⟨X7.heap.size, 0, none⟩) 0 0) (.slice (some ⟨gk, 0, none⟩) q ck) ([]) (((L.map Prod.fst).take q).map Value.string) (by rfl) (by rfl) (z_7_0.out) (t1K.out.chg kz7_0.out (fun _ _ h => h)) (by first | exact str_cell _ | (intro y hy; cases hy)) lAK.out.1 lAK.out.2 ?_
        intro v_7_0_5 X7_0_5 r_7_0_5 o_7_0_5 k_7_0_5 n_7_0_5
        obtain ⟨a7_0_5, n7_0_5, c7_0_5, rfl, l7_0_5⟩ := r_7_0_5.form'
        have nn_7_0_5 := Hid.mk' (n_7_0_5 ⟨_, (own_slice _ _ _ _ _ _).2 rfl⟩)
        have kz7_0_5 : Hid (Chg NoB W4 X7_0_5) := kz7_0.out.trans' k_7_0_5 (fun j hj => by rw [own_slice] at hj; subst hj; exact .inr bz_7_0.out)
        have res_7_0_5 : Hid (Row X7_0_5 9 (.slice a7_0_5 n7_0_5 c7_0_5) (((L.map Prod.fst).take q).map Value.string)) := (by simpa using r_7_0_5 : Row _ _ _ _)
        have ores_7_0_5 : Hid (∀ k, own (.slice a7_0_5 n7_0_5 c7_0_5) k → W4.heap.size ≤ k) := fun k hk => (o_7_0_5 k hk).elim (fun h => by rw [own_slice] at h; subst h; exact bz_7_0.out) fun h => Nat.le_trans kz7_0.out.size h.1
        have t_7_0_5 := Hid.mk' (t_7_0.out.chg k_7_0_5 (fun j a b => by rw [own_slice] at a b; exact ne_7_0.out (b.symm.trans a)))
        clear r_7_0_5 o_7_0_5 k_7_0_5 n_7_0_5
        refine hK.out _ _ ((kz7_0_5.out.cell (fun h => h) bx)) (fun hHeld => ?_)
        clear hK K
        refine norm_ (a' := ?_) ?_ ?_
        rotate_left
        · show Act.put _ (some 36) _ = _
          simp only [Act.put, List.setIfInBounds_toArray, List.set_cons_zero, List.set_cons_succ, i64_w, i32_w]
          rfl
        exact norm_ (by simp only [putAll, Act.put, List.setIfInBounds_toArray, List.set_cons_zero, List.set_cons_succ]) (hCont (X7.heap.size, W4.heap.size, (a7_0_5, n7_0_5, c7_0_5)) _ ⟨res_7_0_5.out, t_7_0_5.out, ores_7_0_5.out, nn_7_0_5.out, kz7_0_5.out⟩)
    rintro ⟨gJ1, gJ2, aJ, nJ, cJ⟩ wJ ⟨rJ, litJ, oJ, nnJ, kJ⟩
    replace rJ : Hid (Row wJ 9 (.slice aJ nJ cJ) (((L.map Prod.fst).take q).map Value.string)) := rJ
    replace litJ : Hid (Row wJ 9 (.slice (some ⟨gJ2, 0, none⟩) 1 1) [Value.string key]) := litJ
    replace oJ : Hid (∀ k, own (.slice aJ nJ cJ) k → W4.heap.size ≤ k) := oJ
    replace nnJ : Hid (∃ g, own (.slice aJ nJ cJ) g) := nnJ
    replace kJ := Hid.mk' kJ
    have hHeld : wJ.cell? ⟨b, 1, none⟩ = some (.slice (some ⟨gk, 0, none⟩) nk ck) := kJ.out.cell (fun h => h) bx
    refine norm_ (a' := ?_) ?_ ?_
    rotate_left
    · simp only [putAll, Act.put, List.setIfInBounds_toArray, List.set_cons_zero, List.set_cons_succ]
      rfl
    refine one_ (i := 8) (N := some 39) #[true, true, true, true, true, true, true, true, true, true, true, true, true, false, false, false] rfl rfl (by kernel_rfl) (by decide) (fun K hK => ?_)
    refine append_step_nn (by rfl) rfl (.tmp 36) (.tmp 38) 34 9 (.string ⟨#[]⟩) 16 rfl Try.underlying34 info9 rfl (.slice aJ nJ cJ) (.slice (some ⟨gJ2, 0, none⟩) 1 1) (((L.map Prod.fst).take q).map Value.string) ([Value.string key]) (by rfl) (by rfl) (rJ.out) (litJ.out.src) (by intro y hy; cases List.mem_singleton.1 hy; rfl) lBK.out.1 lBK.out.2 ?_
    intro v8 w8 r8 o8 k8 n8
    obtain ⟨a8, m8, c8, rfl, l8⟩ := r8.form'
    replace n8 := Hid.mk' (n8 nnJ.out)
    have kz8 : Hid (Chg NoB W4 w8) := kJ.out.trans' k8 (fun j hj => .inr (oJ.out j hj))
    have oz8 : Hid (∀ k, own (.slice a8 m8 c8) k → W4.heap.size ≤ k) := fun k hk => (o8 k hk).elim (oJ.out k) fun h => Nat.le_trans kJ.out.size h.1
    replace r8 := Hid.mk' r8
    clear o8 k8
    refine hK.out _ _ ((kz8.out.cell (fun h => h) bx)) (fun hHeld => ?_)
    clear hK K
    refine norm_ (a' := ?_) ?_ ?_
    rotate_left
    · show Act.put _ (some 39) _ = _
      simp only [Act.put, List.setIfInBounds_toArray, List.set_cons_zero, List.set_cons_succ, i64_w, i32_w]
      rfl
    refine one_ (i := 13) (N := some 44) #[true, true, true, true, true, true, true, true, true, true, true, true, true, true, false, false] rfl rfl (by kernel_rfl) (by decide) (fun K hK => ?_)
    refine append_step_nn (by rfl) rfl (.tmp 39) (.tmp 43) 34 9 (.string ⟨#[]⟩) 16 rfl Try.underlying34 info9 rfl (.slice a8 m8 c8) _ ((((L.map Prod.fst).take q).map Value.string) ++ [Value.string key]) (EK) (by rfl) (by rfl) (r8.out) (t2K.out.chg kz8.out (fun _ _ h => h)) ccK.out lCK.out.1 lCK.out.2 ?_
    intro v6 w6 r6 o6 k6 n6
    obtain ⟨a6, m6', c6, rfl, l6⟩ := r6.form'
    replace n6 := Hid.mk' (n6 n8.out)
    have kz6 : Hid (Chg NoB W4 w6) := kz8.out.trans' k6 (fun j hj => .inr (oz8.out j hj))
    have oz6 : Hid (∀ k, own (.slice a6 m6' c6) k → W4.heap.size ≤ k) := fun k hk => (o6 k hk).elim (oz8.out k) fun h => Nat.le_trans kz8.out.size h.1
    replace r6 := Hid.mk' r6
    clear o6 k6
    have hG6 := Hid.mk' ((kz6.out).heap (fun h => h) hG.out)
    have p1 : w6.cell? ⟨g2, 1, none⟩ = some (.slice none 0 0) := by rw [cell_of_row w6 g2 1 _ _ _ hG6.out]; rfl
    have q1 := frozen_of_row w6 g2 1 _ _ hG6.out
    refine hK.out _ _ ((kz6.out.cell (fun h => h) bx)) (fun hHeld => ?_)
    clear hK K
    refine norm_ (a' := ?_) ?_ ?_
    rotate_left
    · show Act.put _ (some 44) _ = _
      simp only [Act.put, List.setIfInBounds_toArray, List.set_cons_zero, List.set_cons_succ, i64_w, i32_w]
      rfl
    refine pure_ (i := 14) (N := some 45) (v := ?_) (a' := ?_) #[true, true, true, true, true, true, true, true, true, true, true, true, true, true, true, false] rfl rfl (by kernel_rfl) (fun _ _ _ h => h) (Or.inl ⟨by rfl, ?_⟩) ?_ ?_
    rotate_left
    · intro w'
      go_simp
      with_reducible rfl
    rotate_left
    · simp only [Act.put, List.setIfInBounds_toArray, List.set_cons_zero, List.set_cons_succ, i64_w, i32_w]
      rfl
    refine last_ (i := 15) (N := none) #[true, true, true, true, true, true, true, true, true, true, true, true, true, true, true, true] rfl rfl (by kernel_rfl) (by decide) (fun K hK => ?_)
    refine skip_ (w1 := ?_) (by rfl) rfl ?_ ?_
    rotate_left
    · go_simp
      rfl
    refine hK.out _ _ ?_
    clear hK K
    refine done_ (by kernel_rfl) ?_
    obtain ⟨g6, hg6⟩ := n6.out
    have ha6 := own_some r6.out hg6
    subst ha6
    obtain ⟨W5, hW5⟩ : ∃ W5, W5 = w6.setCell ⟨g2, 1, none⟩ (.slice (some ⟨g6, 0, none⟩) m6' c6) := ⟨_, rfl⟩
    have kS : Chg (fun k => k = g2) w6 W5 := by rw [hW5]; exact (Chg.refl (fun k => k = g2) _).setCell _ (.inl rfl) _
    have kt : Chg (fun k => k = g2) W4 W5 := (kz6.out.mono fun _ h => h.elim).trans kS
    have hGW5 : Hid (W5.heap[g2]? = some (.cells #[.bool false, .slice (some ⟨g6, 0, none⟩) m6' c6, .slice none 0 0] 42 (0, 0))) := by show _ = _; rw [hW5]; exact heap_setCell_same _ g2 1 _ 42 _ hG6.out
    have hBW5 : Hid (W5.heap[b]? = some (.cells #[.bool false, .slice (some ⟨gk, 0, none⟩) nk ck, .slice (some ⟨gv, 0, none⟩) nv cv] 42 (0, 0))) := kt.heap (fun h => by have := zb.out; omega) hB.out
    have hCW5 : Hid (W5.heap[b + 1]? = some (.cells #[.bool false, .slice none 0 0, .slice none 0 0] 42 (0, 0))) := kt.heap (fun h => by have := zb.out; omega) hC.out
    have res1 : Hid (Row W5 9 (.slice (some ⟨g6, 0, none⟩) m6' c6) (((((L.map Prod.fst).take q).map Value.string) ++ [Value.string key]) ++ EK)) := (r6.out.chg kS fun j a b => by have h1 := oz6.out j a; have h2 := zb.out.2.2; omega)
    have zr1 : Hid (∀ j, own (.slice (some ⟨g6, 0, none⟩) m6' c6) j → g2 < j) := fun j hj => by have h1 := oz6.out j hj; have h2 := zb.out.2.2; omega
    have hkW5 := Hid.mk' hW5
    rw [← hW5]
    have t1V := Hid.mk' ((s1V.out.chg k24.out fun _ _ h => h).chg kt fun j a b => by have := zv.out j ((own_slice _ _ _ _ _ _).2 ((own_slice _ _ _ _ _ _).1 a)); omega)
    have t2V := Hid.mk' ((s2V.out.chg k24.out fun _ _ h => h).chg kt fun j a b => by have := zv.out j ((own_slice _ _ _ _ _ _).2 ((own_slice _ _ _ _ _ _).1 a)); omega)
    have k45 : Hid (Chg (fun k => k = g2) W4 W5) := kt
    obtain ⟨gr, mr, cr, hrr⟩ : ∃ gr mr cr, gr = g6 ∧ mr = m6' ∧ cr = c6 := ⟨_, _, _, rfl, rfl, rfl⟩
    obtain ⟨rfl, rfl, rfl⟩ := hrr
    clear bx hg6 hW5 kS kt n6 r6 oz6 kz6 hG6 p1 q1 r8 n8 oz8 kz8 rJ litJ oJ nnJ kJ l6 l8 hHeld t1K t2K hifK
    go_wp2_with fail
    have hB := hBW5
    have hC := hCW5
    have hG := hGW5
    clear hBW5 hCW5 hGW5
    have bx : W5.cell? ⟨b, 2, none⟩ = some (.slice (some ⟨gv, 0, none⟩) nv cv) := by rw [cell_of_row W5 b 2 _ _ _ hB.out]; rfl
    refine start_ (n := 16) (S := fun w' => w'.cell? ⟨b, 2, none⟩ = some (.slice (some ⟨gv, 0, none⟩) nv cv)) (ds := [15]) #[false, false, false, false, false, false, false, false, false, false, false, false, false, false, false, false] (by kernel_rfl) rfl rfl (bx) (fun hHeld => ?_)
    refine pure_ (i := 1) (N := some 47) (v := ?_) (a' := ?_) #[false, true, false, false, false, false, false, false, false, false, false, false, false, false, false, false] rfl rfl (by kernel_rfl) (fun _ _ _ h => h) (Or.inl ⟨by rfl, ?_⟩) ?_ ?_
    rotate_left
    · intro w'
      go_simp
      with_reducible rfl
    rotate_left
    · simp only [Act.put, List.setIfInBounds_toArray, List.set_cons_zero, List.set_cons_succ, i64_w, i32_w]
      rfl
    refine pure_ (i := 3) (N := some 49) (v := ?_) (a' := ?_) #[false, true, false, true, false, false, false, false, false, false, false, false, false, false, false, false] rfl rfl (by kernel_rfl) (fun _ _ _ h => h) (Or.inl ⟨by rfl, ?_⟩) ?_ ?_
    rotate_left
    · intro w'
      go_simp
      with_reducible rfl
    rotate_left
    · simp only [Act.put, List.setIfInBounds_toArray, List.set_cons_zero, List.set_cons_succ, i64_w, i32_w]
      rfl
    refine pure_ (i := 6) (N := some 52) (v := ?_) (a' := ?_) #[false, true, false, true, false, false, true, false, false, false, false, false, false, false, false, false] rfl rfl (by kernel_rfl) (fun _ _ _ h => h) (Or.inl ⟨by rfl, ?_⟩) ?_ ?_
    rotate_left
    · intro w'
      go_simp
      with_reducible rfl
    rotate_left
    · simp only [Act.put, List.setIfInBounds_toArray, List.set_cons_zero, List.set_cons_succ, i64_w, i32_w]
      rfl
    refine pure_ (i := 9) (N := some 55) (v := ?_) (a' := ?_) #[false, true, false, true, false, false, true, false, false, true, false, false, false, false, false, false] rfl rfl (by kernel_rfl) (fun _ _ _ h => h) (Or.inl ⟨by rfl, ?_⟩) ?_ ?_
    rotate_left
    · intro w'
      go_simp
      with_reducible rfl
    rotate_left
    · simp only [Act.put, List.setIfInBounds_toArray, List.set_cons_zero, List.set_cons_succ, i64_w, i32_w]
      rfl
    refine pure_ (i := 11) (N := some 57) (v := ?_) (a' := ?_) #[false, true, false, true, false, false, true, false, false, true, false, true, false, false, false, false] rfl rfl (by kernel_rfl) (fun _ _ _ h => h) (Or.inl ⟨by rfl, ?_⟩) ?_ ?_
    rotate_left
    · intro w'
      go_simp
      with_reducible rfl
    rotate_left
    · simp only [Act.put, List.setIfInBounds_toArray, List.set_cons_zero, List.set_cons_succ, i64_w, i32_w]
      rfl
    refine take_ (i := 2) (N := some 48) (v := ?_) (a' := ?_) #[false, true, true, true, false, false, true, false, false, true, false, true, false, false, false, false] rfl rfl (by kernel_rfl) (fun _ _ _ h => h) (Or.inl ⟨by rfl, ?_⟩) hHeld ?_ ?_
    rotate_left
    · intro w' s0
      go_simp
      with_reducible rfl
    rotate_left
    · simp only [Act.put, List.setIfInBounds_toArray, List.set_cons_zero, List.set_cons_succ, i64_w, i32_w]
      rfl
    refine pure_ (i := 4) (N := some 50) (v := ?_) (a' := ?_) #[false, true, true, true, true, false, true, false, false, true, false, true, false, false, false, false] rfl rfl (by kernel_rfl) (fun _ _ _ h => h) (Or.inl ⟨by rfl, ?_⟩) ?_ ?_
    rotate_left
    · intro w'
      go_simp
      with_reducible rfl
    rotate_left
    · simp only [Act.put, List.setIfInBounds_toArray, List.set_cons_zero, List.set_cons_succ, i64_w, i32_w]
      rfl
    refine take_ (i := 10) (N := some 56) (v := ?_) (a' := ?_) #[false, true, true, true, true, false, true, false, false, true, true, true, false, false, false, false] rfl rfl (by kernel_rfl) (fun _ _ _ h => h) (Or.inl ⟨by rfl, ?_⟩) hHeld ?_ ?_
    rotate_left
    · intro w' s0
      go_simp
      with_reducible rfl
    rotate_left
    · simp only [Act.put, List.setIfInBounds_toArray, List.set_cons_zero, List.set_cons_succ, i64_w, i32_w]
      rfl
    refine pure_ (i := 12) (N := some 58) (v := ?_) (a' := ?_) #[false, true, true, true, true, false, true, false, false, true, true, true, true, false, false, false] rfl rfl (by kernel_rfl) (fun _ _ _ h => h) (Or.inl ⟨by rfl, ?_⟩) ?_ ?_
    rotate_left
    · intro w'
      go_simp
      with_reducible rfl
    rotate_left
    · simp only [Act.put, List.setIfInBounds_toArray, List.set_cons_zero, List.set_cons_succ, i64_w, i32_w]
      rfl
    refine join_ (σ := Nat × Nat × (Option Addr × Nat × Nat)) 4 #[true, true, true, true, true, true, true, true, false, true, true, true, true, false, false, false] (fun s => [(46, .slice (some ⟨s.1, 0, none⟩) 0 0), (51, .slice s.2.2.1 s.2.2.2.1 s.2.2.2.2), (53, .slice (some ⟨s.2.1, 0, none⟩) 1 1)]) (HalfP W5 3 (((L.map Prod.snd).take q).map (Value.int .i64)) (Value.int .i64 val)) ?_ ?_
    rotate_left
    · intro hCont
      refine two_ (i := 0) (j := 7) (Ni := some 46) (Nj := some 53) #[true, true, true, true, true, false, true, false, false, true, true, true, true, false, false, false] #[false, true, true, true, true, false, true, true, false, true, true, true, true, false, false, false] rfl rfl rfl rfl (by kernel_rfl) (by decide) (by decide) (fun K hK => ?_) (fun K hK => ?_)
      · skip
        refine value_ (w1 := ?_) (v := ?_) (by rfl) rfl ?_ ?_
        rotate_left 2
        · go_simp
          constructor
          · rfl
          · rfl
        refine named fun X0 hX0 => ?_
        have kz0 : Hid (Chg NoB W5 X0) := by show Chg _ _ _; rw [hX0]; first | exact ((Chg.refl _ W5).alloc _).drew | exact (Chg.refl _ W5).alloc _
        have z_0 : Hid (Row X0 3 (.slice (some ⟨W5.heap.size, 0, none⟩) 0 0) []) := by show Row _ _ _ _; rw [hX0]; first | exact Row.lit0 _ _ | exact Row.lit0D _ _
        have bz_0 : Hid (W5.heap.size ≤ W5.heap.size) := Nat.le_refl _
        clear hX0
        refine hK.out _ _ ((kz0.out.cell (fun h => h) bx)) (fun hHeld => ?_)
        clear hK K
        refine norm_ (a' := ?_) ?_ ?_
        rotate_left
        · show Act.put _ (some 46) _ = _
          simp only [Act.put, List.setIfInBounds_toArray, List.set_cons_zero, List.set_cons_succ, i64_w, i32_w]
          rfl
        refine two_ (i := 5) (j := 7) (Ni := some 51) (Nj := some 53) #[true, true, true, true, true, true, true, false, false, true, true, true, true, false, false, false] #[true, true, true, true, true, false, true, true, false, true, true, true, true, false, false, false] rfl rfl rfl rfl (by kernel_rfl) (by decide) (by decide) (fun K hK => ?_) (fun K hK => ?_)
        · skip
          refine append_step_nn (by rfl) rfl (.tmp 46) (.tmp 50) 35 3 (.int .i64 0) 8 rfl Try.underlying35 info3 rfl (.slice (some ⟨W5.heap.size, 0, none⟩) 0 0) (.slice (some ⟨gv, 0, none⟩) q cv) ([]) (((L.map Prod.snd).take q).map (Value.int .i64)) (by rfl) (by rfl) (z_0.out) (t1V.out.chg kz0.out (fun _ _ h => h)) (by first | exact int_cell _ | (intro y hy; cases hy)) lAV.out.1 lAV.out.2 ?_
          intro v_0_5 X0_5 r_0_5 o_0_5 k_0_5 n_0_5
          obtain ⟨a0_5, n0_5, c0_5, rfl, l0_5⟩ := r_0_5.form'
          have nn_0_5 := Hid.mk' (n_0_5 ⟨_, (own_slice _ _ _ _ _ _).2 rfl⟩)
          have kz0_5 : Hid (Chg NoB W5 X0_5) := kz0.out.trans' k_0_5 (fun j hj => by rw [own_slice] at hj; subst hj; exact .inr bz_0.out)
          have res_0_5 : Hid (Row X0_5 3 (.slice a0_5 n0_5 c0_5) (((L.map Prod.snd).take q).map (Value.int .i64))) := (by simpa using r_0_5 : Row _ _ _ _)
          have ores_0_5 : Hid (∀ k, own (.slice a0_5 n0_5 c0_5) k → W5.heap.size ≤ k) := fun k hk => (o_0_5 k hk).elim (fun h => by rw [own_slice] at h; subst h; exact bz_0.out) fun h => Nat.le_trans kz0.out.size h.1
          clear r_0_5 o_0_5 k_0_5 n_0_5
          refine hK.out _ _ ((kz0_5.out.cell (fun h => h) bx)) (fun hHeld => ?_)
          clear hK K
          refine norm_ (a' := ?_) ?_ ?_
          rotate_left
          · show Act.put _ (some 51) _ = _
            simp only [Act.put, List.setIfInBounds_toArray, List.set_cons_zero, List.set_cons_succ, i64_w, i32_w]
            rfl
          refine one_ (i := 7) (N := some 53) #[true, true, true, true, true, true, true, true, false, true, true, true, true, false, false, false] rfl rfl (by kernel_rfl) (by decide) (fun K hK => ?_)
          refine value_ (w1 := ?_) (v := ?_) (by rfl) rfl ?_ ?_
          rotate_left 2
          · go_simp
            constructor
            · rfl
            · rfl
          refine named fun X0_5_7 hX0_5_7 => ?_
          have kz0_5_7 : Hid (Chg NoB W5 X0_5_7) := by show Chg _ _ _; rw [hX0_5_7]; first | exact kz0_5.out.alloc _ | exact (kz0_5.out.alloc _).drew
          have t_0_5_7 : Hid (Row X0_5_7 3 (.slice (some ⟨X0_5.heap.size, 0, none⟩) 1 1) [Value.int .i64 val]) := by show Row _ _ _ _; rw [hX0_5_7]; first | exact Row.lit _ _ _ | exact Row.litD _ _ _
          have res_0_5_7 : Hid (Row X0_5_7 3 (.slice a0_5 n0_5 c0_5) (((L.map Prod.snd).take q).map (Value.int .i64))) := by show Row _ _ _ _; rw [hX0_5_7]; first | exact Row.al res_0_5.out _ | exact Row.alD res_0_5.out _
          have ores_0_5_7 := ores_0_5
          have nn_0_5_7 := nn_0_5
          clear hX0_5_7
          refine hK.out _ _ ((kz0_5_7.out.cell (fun h => h) bx)) (fun hHeld => ?_)
          clear hK K
          refine norm_ (a' := ?_) ?_ ?_
          rotate_left
          · show Act.put _ (some 53) _ = _
            simp only [Act.put, List.setIfInBounds_toArray, List.set_cons_zero, List.set_cons_succ, i64_w, i32_w]
            rfl
          exact norm_ (by simp only [putAll, Act.put, List.setIfInBounds_toArray, List.set_cons_zero, List.set_cons_succ]) (hCont (W5.heap.size, X0_5.heap.size, (a0_5, n0_5, c0_5)) _ ⟨res_0_5_7.out, t_0_5_7.out, ores_0_5_7.out, nn_0_5_7.out, kz0_5_7.out⟩)
        · skip
          refine value_ (w1 := ?_) (v := ?_) (by rfl) rfl ?_ ?_
          rotate_left 2
          · go_simp
            constructor
            · rfl
            · rfl
          refine named fun X0_7 hX0_7 => ?_
          have kz0_7 : Hid (Chg NoB W5 X0_7) := by show Chg _ _ _; rw [hX0_7]; first | exact kz0.out.alloc _ | exact (kz0.out.alloc _).drew
          have t_0_7 : Hid (Row X0_7 3 (.slice (some ⟨X0.heap.size, 0, none⟩) 1 1) [Value.int .i64 val]) := by show Row _ _ _ _; rw [hX0_7]; first | exact Row.lit _ _ _ | exact Row.litD _ _ _
          have z_0_7 : Hid (Row X0_7 3 (.slice (some ⟨W5.heap.size, 0, none⟩) 0 0) []) := by show Row _ _ _ _; rw [hX0_7]; first | exact Row.al z_0.out _ | exact Row.alD z_0.out _
          have bz_0_7 := bz_0
          have ne_0_7 : Hid (W5.heap.size ≠ X0.heap.size) := by show _ ≠ _; have := z_0.out.lt ((own_slice _ _ _ _ _ _).2 rfl); omega
          clear hX0_7
          refine hK.out _ _ ((kz0_7.out.cell (fun h => h) bx)) (fun hHeld => ?_)
          clear hK K
          refine norm_ (a' := ?_) ?_ ?_
          rotate_left
          · show Act.put _ (some 53) _ = _
            simp only [Act.put, List.setIfInBounds_toArray, List.set_cons_zero, List.set_cons_succ, i64_w, i32_w]
            rfl
          refine one_ (i := 5) (N := some 51) #[true, true, true, true, true, true, true, true, false, true, true, true, true, false, false, false] rfl rfl (by kernel_rfl) (by decide) (fun K hK => ?_)
          refine append_step_nn (by rfl) rfl (.tmp 46) (.tmp 50) 35 3 (.int .i64 0) 8 rfl Try.underlying35 info3 rfl (.slice (some ⟨W5.heap.size, 0, none⟩) 0 0) (.slice (some ⟨gv, 0, none⟩) q cv) ([]) (((L.map Prod.snd).take q).map (Value.int .i64)) (by rfl) (by rfl) (z_0_7.out) (t1V.out.chg kz0_7.out (fun _ _ h => h)) (by first | exact int_cell _ | (intro y hy; cases hy)) lAV.out.1 lAV.out.2 ?_
          intro v_0_7_5 X0_7_5 r_0_7_5 o_0_7_5 k_0_7_5 n_0_7_5
          obtain ⟨a0_7_5, n0_7_5, c0_7_5, rfl, l0_7_5⟩ := r_0_7_5.form'
          have nn_0_7_5 := Hid.mk' (n_0_7_5 ⟨_, (own_slice _ _ _ _ _ _).2 rfl⟩)
          have kz0_7_5 : Hid (Chg NoB W5 X0_7_5) := kz0_7.out.trans' k_0_7_5 (fun j hj => by rw [own_slice] at hj; subst hj; exact .inr bz_0_7.out)
          have res_0_7_5 : Hid (Row X0_7_5 3 (.slice a0_7_5 n0_7_5 c0_7_5) (((L.map Prod.snd).take q).map (Value.int .i64))) := (by simpa using r_0_7_5 : Row _ _ _ _)
          have ores_0_7_5 : Hid (∀ k, own (.slice a0_7_5 n0_7_5 c0_7_5) k → W5.heap.size ≤ k) := fun k hk => (o_0_7_5 k hk).elim (fun h => by rw [own_slice] at h; subst h; exact bz_0_7.out) fun h => Nat.le_trans kz0_7.out.size h.1
          have t_0_7_5 := Hid.mk' (t_0_7.out.chg k_0_7_5 (fun j a b => by rw [own_slice] at a b; exact ne_0_7.out (b.symm.trans a)))
          clear r_0_7_5 o_0_7_5 k_0_7_5 n_0_7_5
          refine hK.out _ _ ((kz0_7_5.out.cell (fun h => h) bx)) (fun hHeld => ?_)
          clear hK K
          refine norm_ (a' := ?_) ?_ ?_
          rotate_left
          · show Act.put _ (some 51) _ = _
            simp only [Act.put, List.setIfInBounds_toArray, List.set_cons_zero, List.set_cons_succ, i64_w, i32_w]
            rfl
          exact norm_ (by simp only [putAll, Act.put, List.setIfInBounds_toArray, List.set_cons_zero, List.set_cons_succ]) (hCont (W5.heap.size, X0.heap.size, (a0_7_5, n0_7_5, c0_7_5)) _ ⟨res_0_7_5.out, t_0_7_5.out, ores_0_7_5.out, nn_0_7_5.out, kz0_7_5.out⟩)
      · skip
        refine value_ (w1 := ?_) (v := ?_) (by rfl) rfl ?_ ?_
        rotate_left 2
        · go_simp
          constructor
          · rfl
          · rfl
        refine named fun X7 hX7 => ?_
        have kz7 : Hid (Chg NoB W5 X7) := by show Chg _ _ _; rw [hX7]; first | exact ((Chg.refl _ W5).alloc _).drew | exact (Chg.refl _ W5).alloc _
        have t_7 : Hid (Row X7 3 (.slice (some ⟨W5.heap.size, 0, none⟩) 1 1) [Value.int .i64 val]) := by show Row _ _ _ _; rw [hX7]; first | exact Row.lit _ _ _ | exact Row.litD _ _ _
        clear hX7
        refine hK.out _ _ ((kz7.out.cell (fun h => h) bx)) (fun hHeld => ?_)
        clear hK K
        refine norm_ (a' := ?_) ?_ ?_
        rotate_left
        · show Act.put _ (some 53) _ = _
          simp only [Act.put, List.setIfInBounds_toArray, List.set_cons_zero, List.set_cons_succ, i64_w, i32_w]
          rfl
        refine one_ (i := 0) (N := some 46) #[true, true, true, true, true, false, true, true, false, true, true, true, true, false, false, false] rfl rfl (by kernel_rfl) (by decide) (fun K hK => ?_)
        refine value_ (w1 := ?_) (v := ?_) (by rfl) rfl ?_ ?_
        rotate_left 2
        · go_simp
          constructor
          · rfl
          · rfl
        refine named fun X7_0 hX7_0 => ?_
        have kz7_0 : Hid (Chg NoB W5 X7_0) := by show Chg _ _ _; rw [hX7_0]; first | exact kz7.out.alloc _ | exact (kz7.out.alloc _).drew
        have z_7_0 : Hid (Row X7_0 3 (.slice (some ⟨X7.heap.size, 0, none⟩) 0 0) []) := by show Row _ _ _ _; rw [hX7_0]; first | exact Row.lit0 _ _ | exact Row.lit0D _ _
        have bz_7_0 : Hid (W5.heap.size ≤ X7.heap.size) := kz7.out.size
        have t_7_0 : Hid (Row X7_0 3 (.slice (some ⟨W5.heap.size, 0, none⟩) 1 1) [Value.int .i64 val]) := by show Row _ _ _ _; rw [hX7_0]; first | exact Row.al t_7.out _ | exact Row.alD t_7.out _
        have ne_7_0 : Hid (X7.heap.size ≠ W5.heap.size) := by show _ ≠ _; have := t_7.out.lt ((own_slice _ _ _ _ _ _).2 rfl); omega
        clear hX7_0
        refine hK.out _ _ ((kz7_0.out.cell (fun h => h) bx)) (fun hHeld => ?_)
        clear hK K
        refine norm_ (a' := ?_) ?_ ?_
        rotate_left
        · show Act.put _ (some 46) _ = _
          simp only [Act.put, List.setIfInBounds_toArray, List.set_cons_zero, List.set_cons_succ, i64_w, i32_w]
          rfl
        refine one_ (i := 5) (N := some 51) #[true, true, true, true, true, true, true, true, false, true, true, true, true, false, false, false] rfl rfl (by kernel_rfl) (by decide) (fun K hK => ?_)
        refine append_step_nn (by rfl) rfl (.tmp 46) (.tmp 50) 35 3 (.int .i64 0) 8 rfl Try.underlying35 info3 rfl (.slice (some ⟨X7.heap.size, 0, none⟩) 0 0) (.slice (some ⟨gv, 0, none⟩) q cv) ([]) (((L.map Prod.snd).take q).map (Value.int .i64)) (by rfl) (by rfl) (z_7_0.out) (t1V.out.chg kz7_0.out (fun _ _ h => h)) (by first | exact int_cell _ | (intro y hy; cases hy)) lAV.out.1 lAV.out.2 ?_
        intro v_7_0_5 X7_0_5 r_7_0_5 o_7_0_5 k_7_0_5 n_7_0_5
        obtain ⟨a7_0_5, n7_0_5, c7_0_5, rfl, l7_0_5⟩ := r_7_0_5.form'
        have nn_7_0_5 := Hid.mk' (n_7_0_5 ⟨_, (own_slice _ _ _ _ _ _).2 rfl⟩)
        have kz7_0_5 : Hid (Chg NoB W5 X7_0_5) := kz7_0.out.trans' k_7_0_5 (fun j hj => by rw [own_slice] at hj; subst hj; exact .inr bz_7_0.out)
        have res_7_0_5 : Hid (Row X7_0_5 3 (.slice a7_0_5 n7_0_5 c7_0_5) (((L.map Prod.snd).take q).map (Value.int .i64))) := (by simpa using r_7_0_5 : Row _ _ _ _)
        have ores_7_0_5 : Hid (∀ k, own (.slice a7_0_5 n7_0_5 c7_0_5) k → W5.heap.size ≤ k) := fun k hk => (o_7_0_5 k hk).elim (fun h => by rw [own_slice] at h; subst h; exact bz_7_0.out) fun h => Nat.le_trans kz7_0.out.size h.1
        have t_7_0_5 := Hid.mk' (t_7_0.out.chg k_7_0_5 (fun j a b => by rw [own_slice] at a b; exact ne_7_0.out (b.symm.trans a)))
        clear r_7_0_5 o_7_0_5 k_7_0_5 n_7_0_5
        refine hK.out _ _ ((kz7_0_5.out.cell (fun h => h) bx)) (fun hHeld => ?_)
        clear hK K
        refine norm_ (a' := ?_) ?_ ?_
        rotate_left
        · show Act.put _ (some 51) _ = _
          simp only [Act.put, List.setIfInBounds_toArray, List.set_cons_zero, List.set_cons_succ, i64_w, i32_w]
          rfl
        exact norm_ (by simp only [putAll, Act.put, List.setIfInBounds_toArray, List.set_cons_zero, List.set_cons_succ]) (hCont (X7.heap.size, W5.heap.size, (a7_0_5, n7_0_5, c7_0_5)) _ ⟨res_7_0_5.out, t_7_0_5.out, ores_7_0_5.out, nn_7_0_5.out, kz7_0_5.out⟩)
    rintro ⟨gJ1, gJ2, aJ, nJ, cJ⟩ wJ ⟨rJ, litJ, oJ, nnJ, kJ⟩
    replace rJ : Hid (Row wJ 3 (.slice aJ nJ cJ) (((L.map Prod.snd).take q).map (Value.int .i64))) := rJ
    replace litJ : Hid (Row wJ 3 (.slice (some ⟨gJ2, 0, none⟩) 1 1) [Value.int .i64 val]) := litJ
    replace oJ : Hid (∀ k, own (.slice aJ nJ cJ) k → W5.heap.size ≤ k) := oJ
    replace nnJ : Hid (∃ g, own (.slice aJ nJ cJ) g) := nnJ
    replace kJ := Hid.mk' kJ
    have hHeld : wJ.cell? ⟨b, 2, none⟩ = some (.slice (some ⟨gv, 0, none⟩) nv cv) := kJ.out.cell (fun h => h) bx
    refine norm_ (a' := ?_) ?_ ?_
    rotate_left
    · simp only [putAll, Act.put, List.setIfInBounds_toArray, List.set_cons_zero, List.set_cons_succ]
      rfl
    refine one_ (i := 8) (N := some 54) #[true, true, true, true, true, true, true, true, true, true, true, true, true, false, false, false] rfl rfl (by kernel_rfl) (by decide) (fun K hK => ?_)
    refine append_step_nn (by rfl) rfl (.tmp 51) (.tmp 53) 35 3 (.int .i64 0) 8 rfl Try.underlying35 info3 rfl (.slice aJ nJ cJ) (.slice (some ⟨gJ2, 0, none⟩) 1 1) (((L.map Prod.snd).take q).map (Value.int .i64)) ([Value.int .i64 val]) (by rfl) (by rfl) (rJ.out) (litJ.out.src) (by intro y hy; cases List.mem_singleton.1 hy; rfl) lBV.out.1 lBV.out.2 ?_
    intro v8 w8 r8 o8 k8 n8
    obtain ⟨a8, m8, c8, rfl, l8⟩ := r8.form'
    replace n8 := Hid.mk' (n8 nnJ.out)
    have kz8 : Hid (Chg NoB W5 w8) := kJ.out.trans' k8 (fun j hj => .inr (oJ.out j hj))
    have oz8 : Hid (∀ k, own (.slice a8 m8 c8) k → W5.heap.size ≤ k) := fun k hk => (o8 k hk).elim (oJ.out k) fun h => Nat.le_trans kJ.out.size h.1
    replace r8 := Hid.mk' r8
    clear o8 k8
    refine hK.out _ _ ((kz8.out.cell (fun h => h) bx)) (fun hHeld => ?_)
    clear hK K
    refine norm_ (a' := ?_) ?_ ?_
    rotate_left
    · show Act.put _ (some 54) _ = _
      simp only [Act.put, List.setIfInBounds_toArray, List.set_cons_zero, List.set_cons_succ, i64_w, i32_w]
      rfl
    refine one_ (i := 13) (N := some 59) #[true, true, true, true, true, true, true, true, true, true, true, true, true, true, false, false] rfl rfl (by kernel_rfl) (by decide) (fun K hK => ?_)
    refine append_step_nn (by rfl) rfl (.tmp 54) (.tmp 58) 35 3 (.int .i64 0) 8 rfl Try.underlying35 info3 rfl (.slice a8 m8 c8) _ ((((L.map Prod.snd).take q).map (Value.int .i64)) ++ [Value.int .i64 val]) (EV) (by rfl) (by rfl) (r8.out) (t2V.out.chg kz8.out (fun _ _ h => h)) ccV.out lCV.out.1 lCV.out.2 ?_
    intro v6 w9 r6 o6 k6 n6
    obtain ⟨a6, m6', c6, rfl, l6⟩ := r6.form'
    replace n6 := Hid.mk' (n6 n8.out)
    have kz6 : Hid (Chg NoB W5 w9) := kz8.out.trans' k6 (fun j hj => .inr (oz8.out j hj))
    have oz6 : Hid (∀ k, own (.slice a6 m6' c6) k → W5.heap.size ≤ k) := fun k hk => (o6 k hk).elim (oz8.out k) fun h => Nat.le_trans kz8.out.size h.1
    replace r6 := Hid.mk' r6
    clear o6 k6
    have hG6 := Hid.mk' ((kz6.out).heap (fun h => h) hG.out)
    have p2 : w9.cell? ⟨g2, 2, none⟩ = some (.slice none 0 0) := by rw [cell_of_row w9 g2 2 _ _ _ hG6.out]; rfl
    have q2 := frozen_of_row w9 g2 2 _ _ hG6.out
    refine hK.out _ _ ((kz6.out.cell (fun h => h) bx)) (fun hHeld => ?_)
    clear hK K
    refine norm_ (a' := ?_) ?_ ?_
    rotate_left
    · show Act.put _ (some 59) _ = _
      simp only [Act.put, List.setIfInBounds_toArray, List.set_cons_zero, List.set_cons_succ, i64_w, i32_w]
      rfl
    refine pure_ (i := 14) (N := some 60) (v := ?_) (a' := ?_) #[true, true, true, true, true, true, true, true, true, true, true, true, true, true, true, false] rfl rfl (by kernel_rfl) (fun _ _ _ h => h) (Or.inl ⟨by rfl, ?_⟩) ?_ ?_
    rotate_left
    · intro w'
      go_simp
      with_reducible rfl
    rotate_left
    · simp only [Act.put, List.setIfInBounds_toArray, List.set_cons_zero, List.set_cons_succ, i64_w, i32_w]
      rfl
    refine last_ (i := 15) (N := none) #[true, true, true, true, true, true, true, true, true, true, true, true, true, true, true, true] rfl rfl (by kernel_rfl) (by decide) (fun K hK => ?_)
    refine skip_ (w1 := ?_) (by rfl) rfl ?_ ?_
    rotate_left
    · go_simp
      rfl
    refine hK.out _ _ ?_
    clear hK K
    refine done_ (by kernel_rfl) ?_
    obtain ⟨g6, hg6⟩ := n6.out
    have ha6 := own_some r6.out hg6
    subst ha6
    obtain ⟨W6, hW6⟩ : ∃ W6, W6 = w9.setCell ⟨g2, 2, none⟩ (.slice (some ⟨g6, 0, none⟩) m6' c6) := ⟨_, rfl⟩
    have kS : Chg (fun k => k = g2) w9 W6 := by rw [hW6]; exact (Chg.refl (fun k => k = g2) _).setCell _ (.inl rfl) _
    have kt : Chg (fun k => k = g2) W5 W6 := (kz6.out.mono fun _ h => h.elim).trans kS
    have sz5 : W4.heap.size ≤ W5.heap.size := k45.out.size
    have hG9 : W6.heap[g2]? = some (.cells #[.bool false, .slice (some ⟨gr, 0, none⟩) mr cr, .slice (some ⟨g6, 0, none⟩) m6' c6] 42 (0, 0)) := by rw [hW6]; exact heap_setCell_same _ g2 2 _ 42 _ hG6.out
    have hc2 : Hid (W6.heap[b + 1]? = some (.cells #[.bool false, .slice none 0 0, .slice none 0 0] 42 (0, 0))) := kt.heap (fun h => by have := zb.out; omega) hC.out
    have res2 : Hid (Row W6 3 (.slice (some ⟨g6, 0, none⟩) m6' c6) (((((L.map Prod.snd).take q).map (Value.int .i64)) ++ [Value.int .i64 val]) ++ EV)) := (r6.out.chg kS fun j a b => by have h1 := oz6.out j a; have h2 := zb.out.2.2; omega)
    have res1' : Hid (Row W6 9 (.slice (some ⟨gr, 0, none⟩) mr cr) (((((L.map Prod.fst).take q).map Value.string) ++ [Value.string key]) ++ EK)) := res1.out.chg kt fun j a b => by have := zr1.out j a; omega
    have res2z : Hid (∀ j, own (.slice (some ⟨g6, 0, none⟩) m6' c6) j → g2 < j) := fun j hj => by have h1 := oz6.out j hj; have h2 := zb.out.2.2; omega
    have kall : Hid (Chg NoB w W6) := ((k12'.out.trans k24.out).trans' k45.out fun j hj => .inr (by have := zb.out; omega)).trans' kt fun j hj => .inr (by have := zb.out; omega)
    have e0 : W6.cell? ⟨g2, 0, none⟩ = some (.bool false) := by rw [cell_of_row W6 g2 0 _ _ _ hG9]; rfl
    have e1 : W6.cell? ⟨g2, 1, none⟩ = some (.slice (some ⟨gr, 0, none⟩) mr cr) := by rw [cell_of_row W6 g2 1 _ _ _ hG9]; rfl
    have e2 : W6.cell? ⟨g2, 2, none⟩ = some (.slice (some ⟨g6, 0, none⟩) m6' c6) := by rw [cell_of_row W6 g2 2 _ _ _ hG9]; rfl
    clear p2 q2 hG9
    have p0 : W6.cell? ⟨b + 1, 0, none⟩ = some (.bool false) := by rw [cell_of_row W6 (b + 1) 0 _ _ _ hc2.out]; rfl
    have p1 : W6.cell? ⟨b + 1, 1, none⟩ = some (.slice none 0 0) := by rw [cell_of_row W6 (b + 1) 1 _ _ _ hc2.out]; rfl
    have p2 : W6.cell? ⟨b + 1, 2, none⟩ = some (.slice none 0 0) := by rw [cell_of_row W6 (b + 1) 2 _ _ _ hc2.out]; rfl
    have q0 := frozen_of_row W6 (b + 1) 0 _ _ hc2.out
    have q1 := frozen_of_row W6 (b + 1) 1 _ _ hc2.out
    have q2 := frozen_of_row W6 (b + 1) 2 _ _ hc2.out
    rw [← hW6]
    have hzb : Hid (w.heap.size ≤ b + 1) := by show _ ≤ _; have := zb.out; omega
    clear bx hg6 hW6 kS kt n6 r6 oz6 kz6 hG6 r8 n8 oz8 kz8 rJ litJ oJ nnJ kJ l6 l8 hHeld t1V t2V
    go_wp2_with fail
    refine bodyPost_ret (ret_ctt rfl _ _ (b + 1) 42 #[.bool false, .slice (some ⟨gr, 0, none⟩) mr cr, .slice (some ⟨g6, 0, none⟩) m6' c6] _ rfl (blk3 hc2.out _ _ _) Try.underlying42 rfl (by kernel_rfl)) rfl ?_
    have kf : Chg (fun k => k = b + 1) W6 (((W6.setCell ⟨b + 1, 0, none⟩ (.bool false)).setCell ⟨b + 1, 1, none⟩ (.slice (some ⟨gr, 0, none⟩) mr cr)).setCell ⟨b + 1, 2, none⟩ (.slice (some ⟨g6, 0, none⟩) m6' c6)) := (((Chg.refl (fun k => k = b + 1) W6).setCell _ (.inl rfl) _).setCell _ (.inl rfl) _).setCell _ (.inl rfl) _
    refine ⟨_, rfl, .inr ⟨gr, mr, cr, g6, m6', c6, rfl, ?_, ?_, hia.out⟩, fun j hj => by have h2 := zb.out; rcases hj with hj | hj; (have h1 := zr1.out j hj; omega); (have h1 := res2z.out j hj; omega), chg3 kall.out hzb.out _ _ _⟩
    · have := res1'.out.chg kf fun j a b => by have h1 := zr1.out j a; have h2 := zb.out; omega
      rwa [fK.out] at this
    · have := res2.out.chg kf fun j a b => by have h1 := res2z.out j a; have h2 := zb.out; omega
      rwa [fV.out] at this
end Go.Proofs.Ytamnmoejjjaegaa
