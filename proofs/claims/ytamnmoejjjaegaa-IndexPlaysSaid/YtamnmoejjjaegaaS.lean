/- What slices.Clone, slices.Delete (of one element) and slices.Insert (of one element) do to a row of strings, of ints and of pointers to nodes. Conditions: rows of at most 1048576 elements. -/
import Derived.Test.YtamnmoejjjaegaaA1
import Derived.Test.YtamnmoejjjaegaaProg
import Derived.Lib.SliceRun
import Derived.Lib.Walk
import Derived.Lib.AppendZerosOnto
import Derived.Lib.Overlaps
import Derived.Laws.Externs
import Derived.Laws.NewBlocks
import Derived.Deep.RegionLaw
import Derived.Deep.AppendLies
set_option linter.unusedVariables false
set_option linter.unusedSimpArgs false
namespace Go.Proofs.Ytamnmoejjjaegaa
open Go Go.RowKit


theorem info9 : (Try.prog.info? 9).map (fun i => (i.zero, i.size, i.bytes)) = some (some (.string ⟨#[]⟩), 1, 16) := by kernel_rfl
theorem zero9 (w : World) : (zeroValue 9).run Try.prog w = .ok (.string ⟨#[]⟩) w := by kernel_rfl

set_option maxHeartbeats 400000 in
theorem cloneS (a : Option Addr) (n c : Nat) (xs : List Value) (w : World) (hn : n = xs.length) (hnil : a = none → xs = [] ∧ c = 0)
    (hcs : ∀ ad, a = some ad → ∀ j u, xs[j]? = some u → w.cell? (ad.add j) = some u) (h1 : ∀ u ∈ xs, u.oneCell' = true) (hb : xs.length ≤ 1048576) :
    Calls Try.prog 43 #[.slice a n c] w fun e w' => ∃ v', e = .returned v' ∧ Row w' 9 v' xs ∧ (∀ k, own v' k → w.heap.size ≤ k ∧ k < w'.heap.size) ∧ Chg NoB w w' := by
  subst hn
  cases a with
  | none =>
    obtain ⟨rfl, rfl⟩ := hnil rfl
    have he := fun w => Lib.run_eql_slice_nil (P := Try.prog) w 34 9 none 0 0 0 0 Try.underlying34
    go_enter Try.func43, Try.ntmps43
    go_wp2
    go_ret
    exact ⟨_, rfl, Row.nil w 9, fun k hk => (own_none 0 0 k hk).elim, Chg.refl _ _⟩
  | some ad =>
    have he := fun w => Lib.run_eql_slice_nil (P := Try.prog) w 34 9 (some ad) xs.length c 0 0 Try.underlying34
    have hc : ∀ j u, xs[j]? = some u → (w.alloc (Obj.cells #[] 9)).cell? (ad.add j) = some u := fun j u h => Lib.cell?_alloc_some _ (hcs ad rfl j u h)
    obtain ⟨i0, hi, hz0, hz1, hz2⟩ := info_parts info9
    clear hnil hcs
    go_enter Try.func43, Try.ntmps43
    go_wp2_with (at_builtin; refine wpList_append_own _ rfl _ _ 34 rfl w.heap.size 9 i0 (.string ⟨#[]⟩) 1 16 Try.underlying34 hi hz0 hz1 hz2 rfl (by decide) (.slice (some ⟨w.heap.size, 0, none⟩) 0 0) 0 [] rfl (World.ownsRow_made w #[] 0 (Nat.le_refl _) (by simp [maxLen]) rfl) ad xs.length c xs rfl (by omega) hc h1 (by unfold maxLen; omega) (by omega) (by simp) ?_; intro v' w' hown hg _)
    go_ret
    have hr := Row.of_owns hown
    exact ⟨_, rfl, by simpa using hr, fun k hk => ⟨(hown.lt k hk).1, hr.lt hk⟩, ((Chg.refl NoB w).alloc _).grown hg (fun k hk => .inr (Nat.le_of_eq (by simpa [Value.ownBlock] using hk)))⟩

set_option maxHeartbeats 1000000 in
set_option maxRecDepth 100000 in
theorem delS (g n c i : Nat) (vi vj : Int) (xs : List Value) (w : World) (h : Row w 9 (.slice (some ⟨g, 0, none⟩) n c) xs) (hi : i < xs.length) (hvi : vi = i) (hvj : vj = (i : Int) + 1)
    (h1 : ∀ u ∈ xs, u.oneCell' = true) :
    Calls Try.prog 38 #[.slice (some ⟨g, 0, none⟩) n c, .int .i64 vi, .int .i64 vj] w fun e w' =>
      e = .returned (.slice (some ⟨g, 0, none⟩) (n - 1) c) ∧ Row w' 9 (.slice (some ⟨g, 0, none⟩) (n - 1) c) (xs.take i ++ xs.drop (i + 1)) ∧ Chg (fun k => k = g) w w' := by
  obtain ⟨hn, hnc, hc63⟩ := h.cap_le
  unfold maxLen at hc63
  obtain ⟨_, hg, _, hcell, hfz, _⟩ := h.at (by omega)
  cases hg
  obtain ⟨i0, hi0, hz0, hz1, hz2⟩ := info_parts info9
  have hv0 := zero9
  obtain ⟨news, hnews⟩ : ∃ news, news = xs.drop (i + 1) := ⟨_, rfl⟩
  have hlen : news.length = n - (i + 1) := by rw [hnews]; simp; omega
  have hnl : Hid (news = xs.drop (i + 1)) := hnews
  obtain ⟨A, hA, hsrc⟩ : ∃ A : Addr, (if c = i + 1 then some (⟨g, 0, none⟩ : Addr) else some ⟨g, i + 1, none⟩) = some A ∧ Hid (∀ t u, news[t]? = some u → w.drew.cell? (A.add t) = some u) := by
    by_cases hci : c = i + 1
    · refine ⟨⟨g, 0, none⟩, by simp [hci], fun t u hu => ?_⟩
      have h0 : news.length = 0 := by rw [hlen]; omega
      rw [List.length_eq_zero_iff.1 h0] at hu
      simp at hu
    · refine ⟨⟨g, i + 1, none⟩, by simp [hci], fun t u hu => ?_⟩
      rw [hnews, List.getElem?_drop] at hu
      rw [Addr.add_lit]
      exact hcell _ _ hu
  have hsome : ∀ j, j < n → (w.cell? ⟨g, j, none⟩).isSome = true := fun j hj => by rw [hcell j _ (List.getElem?_eq_getElem (by omega))]; rfl
  have s1 : Hid (news.length = (n - (i + 1)) * 1) := by show _ = _; rw [Nat.mul_one]; exact hlen
  have s2 : Hid (∀ u ∈ news, u.oneCell' = true) := fun u hu => h1 u (List.mem_of_mem_drop (by rw [← hnews]; exact hu))
  have s3 : Hid (∀ t, t < news.length → (w.drew.cell? ⟨g, 0 + i * 1 + t, none⟩).isSome = true ∧ w.drew.frozen? ⟨g, 0 + i * 1 + t, none⟩ = false) := by
    intro t ht
    rw [hlen] at ht
    rw [Nat.mul_one, Nat.zero_add]
    exact ⟨hsome (i + t) (by omega), hfz (i + t)⟩
  have hR0 : Row w.drew 9 (.slice (some ⟨g, 0, none⟩) n c) xs := h
  have hR1 := hR0.setCells_in i news (by rw [hlen]; omega)
  obtain ⟨W1, hW1⟩ : ∃ W1, W1 = w.drew.setCells g (0 + i * 1) news := ⟨_, rfl⟩
  have hW1' : W1 = w.drew.setCells g i news := by rw [hW1]; simp
  rw [← hW1'] at hR1
  have hC1 : Chg (fun k => k = g) w W1 := by rw [hW1']; exact (Chg.refl _ w).drew.setCells g i news (.inl rfl)
  have hl1 : (xs.take i ++ news ++ xs.drop (i + news.length)).length = n := by simp [hlen]; omega
  obtain ⟨_, hg1, _, hcell1, hfz1, _⟩ := hR1.at (by omega)
  cases hg1
  have hn1 : i + (n - (i + 1)) = n - 1 := by omega
  have hcl : ∀ ty, (Builtin.clear_ #[34] ty #[.slice (some ⟨g, n - 1, none⟩) (n - (n - 1)) (c - (n - 1))]).run Try.prog W1 = .ok (.tuple #[]) (W1.setCells g (n - 1) (List.replicate (n - (n - 1)) (.string ⟨#[]⟩))) :=
    fun ty => Lib.run_clear_slice W1 _ _ ty _ Try.underlying34 hv0 rfl rfl g (n - 1) _ _ (by omega) (fun t ht => by rw [hcell1 _ _ (List.getElem?_eq_getElem (by omega))]; rfl) (fun t ht => hfz1 _)
  have hR2 := ((hR1.cut (n - 1) (by omega)).setCells_out (n - 1) (List.replicate (n - (n - 1)) (.string ⟨#[]⟩)) (Nat.le_refl _) (by simp; omega))
  have e2 : (xs.take i ++ news ++ xs.drop (i + news.length)).take (n - 1) = xs.take i ++ xs.drop (i + 1) := by
    rw [List.take_append_of_le_length (by simp [hlen]; omega), List.take_of_length_le (by simp [hlen]; omega), hnews]
  rw [e2] at hR2
  have hR2' := Hid.mk' hR2
  have hC2 := Hid.mk' (hC1.setCells g (n - 1) (List.replicate (n - (n - 1)) (.string ⟨#[]⟩)) (.inl rfl))
  have hW : Hid (W1 = w.drew.setCells g (0 + i * 1) news) := hW1
  have hic : i ≤ c := by omega
  have hjc : i + 1 ≤ c := by omega
  have hjn : i + 1 ≤ n := by omega
  have hne : ¬ c = n - 1 := by omega
  have hn1' := Hid.mk' hn1
  have b1 : (0 : Int) ≤ (i : Int) + 1 := by omega
  have b2 : (i : Int) + 1 ≤ (n : Int) := by omega
  have b3 : ((i : Int) + 1).toNat = i + 1 := by omega
  have b4 : ¬ ((i : Int) = (i : Int) + 1) := by omega
  subst hvi hvj
  clear hW1 hW1' hR1 hR2 e2 hC1 hl1 hcell1 hfz1 hR0 hsome hnews hlen hn hcell hfz hn1 h h1
  go_enter Try.func38, Try.ntmps38
  go_wp2_with fail
  go_region_law (refine step_append_room rfl (.tmp 22) (.tmp 25) 34 rfl 9 i0 1 Try.underlying34 hi0 hz1 g 0 i c (by simp [Act.eval, Act.put]) A (n - (i + 1)) (c - (i + 1)) news (by simp [Act.eval, Act.put]) s1.out hsrc.out s2.out (by omega) s3.out ?_; rw [← hW.out, hn1'.out])
  go_wp2
  go_ret
  exact ⟨rfl, hR2'.out, hC2.out⟩

set_option maxHeartbeats 1000000 in
set_option maxRecDepth 100000 in
theorem insEndS (v : Value) (vi : Int) (vb : Nat) (x : Value) (xs : List Value) (w : World) (h : Row w 9 v xs) (hvi : vi = xs.length) (hx : Row w 9 (.slice (some ⟨vb, 0, none⟩) 1 1) [x]) (h1 : x.oneCell' = true) (hb : xs.length ≤ 1048576) :
    Calls Try.prog 46 #[v, .int .i64 vi, .slice (some ⟨vb, 0, none⟩) 1 1] w fun e w' =>
      ∃ v', e = .returned v' ∧ Row w' 9 v' (xs ++ [x]) ∧ (∀ k, own v' k → own v k ∨ (w.heap.size ≤ k ∧ k < w'.heap.size)) ∧ Chg (own v) w w' := by
  obtain ⟨a, c, rfl⟩ := h.form
  obtain ⟨-, hnc, hc63⟩ := h.cap_le
  unfold maxLen at hc63
  subst hvi
  have hH := Hid.mk' h
  have hX := Hid.mk' hx
  have hne : (((xs.length : Nat) : Int) == ((xs.length : Nat) : Int)) = true := by simp
  clear h hx
  by_cases hcc : c = xs.length
  all_goals
    go_enter Try.func46, Try.ntmps46
    go_wp2_with (at_builtin; refine wpList_append_row _ rfl _ _ 34 9 (.string ⟨#[]⟩) 16 rfl Try.underlying34 info9 rfl (.slice a xs.length c) (.slice (some ⟨vb, 0, none⟩) 1 1) xs [x] rfl rfl hH.out hX.out (by simp [h1]) (by simp; omega) (by simp; omega) ?_; intro v' w' hr ho hc)
    go_ret
    exact ⟨_, rfl, hr, ho, hc⟩

set_option maxHeartbeats 4000000 in
set_option maxRecDepth 100000 in
theorem insShiftS (g n c : Nat) (i : Nat) (vi : Int) (vb : Nat) (x : Value) (xs : List Value) (w : World) (h : Row w 9 (.slice (some ⟨g, 0, none⟩) n c) xs) (hi : i < n) (hvi : vi = i) (hroom : n + 1 ≤ c)
    (hx : Row w 9 (.slice (some ⟨vb, 0, none⟩) 1 1) [x]) (hvb : vb ≠ g) (h1x : x.oneCell' = true) (h1c : ∀ u ∈ xs, u.oneCell' = true) :
    Calls Try.prog 46 #[.slice (some ⟨g, 0, none⟩) n c, .int .i64 vi, .slice (some ⟨vb, 0, none⟩) 1 1] w fun e w' =>
      e = .returned (.slice (some ⟨g, 0, none⟩) (n + 1) c) ∧ Row w' 9 (.slice (some ⟨g, 0, none⟩) (n + 1) c) (xs.take i ++ x :: xs.drop i) ∧ Chg (fun k => k = g) w w' := by
  obtain ⟨hn, hnc, hc63⟩ := h.cap_le
  unfold maxLen at hc63
  subst hvi
  obtain ⟨_, hg, _, hcell, hfz, hgw⟩ := h.at (by omega)
  cases hg
  obtain ⟨_, hgx, _, hcx, hfx, hvw⟩ := hx.at (by simp)
  cases hgx
  have hx0 := hcx 0 x rfl
  -- the row as it lies
  rcases h with ⟨h0, _⟩ | ⟨g', cap, cur, h0, hg1, hg2, hg3, hg4, hg5⟩
  · simp at h0
  simp only [Value.slice.injEq, Option.some.injEq, Addr.mk.injEq, and_true] at h0
  obtain ⟨rfl, -, rfl⟩ := h0
  rcases hx with ⟨h0, _⟩ | ⟨gx, capx, curx, h0, hx1, hx2, hx3, hx4, hx5⟩
  · simp at h0
  simp only [Value.slice.injEq, Option.some.injEq, Addr.mk.injEq, and_true] at h0
  obtain ⟨rfl, -, rfl⟩ := h0
  have hspare : ∀ j, j < c → (w.cell? ⟨g, j, none⟩).isSome = true := fun j hj => by
    rw [cell_of_row w g j cur 9 (0, 0) hg1, Array.getElem?_eq_getElem (by omega)]; rfl
  have hsa : w.shape? vb = some (9, 1) := by simp [World.shape?, hx1, hx4]
  have hsb : w.shape? g = some (9, c) := by simp [World.shape?, hg1, hg4]
  have hsz : (Try.prog.info? 9).map (·.size) = some 1 := by
    obtain ⟨i0, hi0, _, hs0, _⟩ := info_parts info9
    rw [hi0]; simp [hs0]
  have hszS : ∀ w, (Go.sizeOf 9).run Try.prog w = .ok 1 w := fun w => by kernel_rfl
  have hov : ∀ lb cb, (callFunc 54 #[.slice (some ⟨vb, 0, none⟩) 1 1, .slice (some ⟨g, i + 1, none⟩) lb cb]).run Try.prog w = .ok (.value (.bool false)) w := fun lb cb => by
    rw [run_callFunc_extern Try.func54 (by kernel_rfl) (by kernel_rfl) (by kernel_rfl) (e := Extern.SlicesOverlaps.overlaps #[34, 34] #[4]) (by kernel_rfl),
      Lib.run_overlaps_apart w 34 4 9 Try.underlying34 1 hszS ⟨vb, 0, none⟩ ⟨g, i + 1, none⟩ 1 1 lb cb hvb 9 9 1 c hsa hsb (by omega) (hfx 0) (hfx 1)]
    rfl
  have hdl : (xs.drop i).length = n - i := by rw [List.length_drop]; omega
  have hcp1 : ∀ ty dc sc, (Builtin.copy_ #[34, 34] ty #[.slice (some ⟨g, i + 1, none⟩) (n - i) dc, .slice (some ⟨g, i, none⟩) (n + 1 - i) sc]).run Try.prog w.drew = .ok (goInt (xs.drop i).length) (w.drew.setCells g (i + 1) (xs.drop i)) := fun ty dc sc =>
    run_copy_cells w.drew _ _ ty 9 g (i + 1) (n - i) dc ⟨g, i, none⟩ (n + 1 - i) sc (xs.drop i) Try.underlying34 hsz (by rw [hdl]; simp only [Nat.min_def]; split <;> omega)
      (fun j v hj => by rw [Addr.add_lit]; exact hcell (i + j) v (by rwa [List.getElem?_drop] at hj))
      (fun j hj => hspare _ (by omega)) (fun j hj => hfz _) (fun v hv => h1c v (List.mem_of_mem_drop hv))
  obtain ⟨W1, hW1⟩ : ∃ W1, W1 = w.drew.setCells g (i + 1) (xs.drop i) := ⟨_, rfl⟩
  have hR1 : Row W1 9 (.slice (some ⟨g, 0, none⟩) (n + 1) c) (xs.take i ++ (xs[i]'(by omega)) :: xs.drop i) := by
    have hR0 : Row w.drew 9 (.slice (some ⟨g, 0, none⟩) n c) xs := .inr ⟨g, c, cur, by rw [hn], hg1, by omega, hg3, hg4, hg5⟩
    have := hR0.setCells (i + 1) (xs.drop i) (by omega) (by omega) (by omega)
    rw [← hW1] at this
    have e1 : i + 1 + (xs.drop i).length = n + 1 := by omega
    rw [e1, List.take_succ_eq_append_getElem (by omega), List.append_assoc, List.singleton_append] at this
    exact this
  obtain ⟨_, hgr, _, hcell1, hfz1, _⟩ := hR1.at (by simp; omega)
  cases hgr
  have hl1 : (xs.take i ++ (xs[i]'(by omega)) :: xs.drop i).length = n + 1 := by simp; omega
  have hC1 : Chg (fun k => k = g) w W1 := by rw [hW1]; exact (Chg.refl _ w).drew.setCells g _ _ (.inl rfl)
  have hcp2 : ∀ ty dc, (Builtin.copy_ #[34, 34] ty #[.slice (some ⟨g, i, none⟩) (n + 1 - i) dc, .slice (some ⟨vb, 0, none⟩) 1 1]).run Try.prog W1 = .ok (goInt [x].length) (W1.setCells g i [x]) := fun ty dc =>
    run_copy_cells W1 _ _ ty 9 g i (n + 1 - i) dc ⟨vb, 0, none⟩ 1 1 [x] Try.underlying34 hsz (by simp only [Nat.min_def, List.length_singleton]; split <;> omega)
      (fun j v hj => by
        rw [Addr.add_lit, Nat.zero_add]
        exact hC1.cell (by exact hvb) (hcx j v hj))
      (fun j hj => by rw [hcell1 _ _ (List.getElem?_eq_getElem (by simp at hj; omega))]; rfl) (fun j hj => hfz1 _) (by simpa using h1x)
  have hR2 := hR1.setCells_in i [x] (by simp; omega)
  have e2 : (xs.take i ++ (xs[i]'(by omega)) :: xs.drop i).take i ++ [x] ++ (xs.take i ++ (xs[i]'(by omega)) :: xs.drop i).drop (i + [x].length) = xs.take i ++ x :: xs.drop i := by
    have hti : (xs.take i).length = i := by simp; omega
    rw [List.take_append_of_le_length (by omega), List.take_of_length_le (by omega), List.drop_append, hti, List.drop_of_length_le (by simp; omega)]
    simp
  rw [e2] at hR2
  have hR2' := Hid.mk' hR2
  have hC2 := Hid.mk' (hC1.setCells g i [x] (.inl rfl))
  rw [← hW1] at hcp1
  have hw1 : IntKind.i64.wrap ((i : Int) + (1 : Int)) = (i : Int) + (1 : Int) := by rw [IntKind.wrap_i64]; omega
  have hb1 : (0 : Int) ≤ (i : Int) + (1 : Int) := by omega
  have hin : i ≤ n := by omega
  have htn : ((i : Int) + (1 : Int)).toNat = i + 1 := by omega
  have hb2 : ¬ (c = i + 1) := by omega
  have hb3 : (i : Int) ≤ (n : Int) + (1 : Int) := by omega
  have hb4 : ¬ (c = i) := by omega
  have hz2 : ¬ ((i : Int) = (n : Int)) := by omega
  clear hR1 hR2 e2 hC1 hl1 hcell1 hfz1 hW1 hn hg1 hg2 hg3 hg4 hg5 hx1 hx2 hx3 hx4 hx5 hdl hspare hsa hsb hcell hfz hcx hfx hx0 hsz hszS h1c
  go_enter Try.func46, Try.ntmps46
  go_wp2_with (simp only [hov])
  go_region_law (refine Lib2.step_copy_run rfl _ _ 34 34 rfl _ _ (by simp [Act.eval, Act.put]) (by simp [Act.eval, Act.put]) (hcp1 _ _ _) ?_)
  go_wp2_with (at_builtin; refine Lib2.wpList_copy_run _ rfl _ _ 34 34 rfl _ _ rfl rfl (hcp2 _ _) ?_)
  go_ret
  exact ⟨rfl, hR2'.out, hC2.out⟩

set_option maxHeartbeats 4000000 in
set_option maxRecDepth 100000 in
theorem insGrowS (g n c : Nat) (i : Nat) (vi : Int) (vb : Nat) (x : Value) (xs : List Value) (w : World) (h : Row w 9 (.slice (some ⟨g, 0, none⟩) n c) xs) (hi : i < n) (hvi : vi = i) (hroom : c < n + 1)
    (hx : Row w 9 (.slice (some ⟨vb, 0, none⟩) 1 1) [x]) (h1x : x.oneCell' = true) (h1c : ∀ u ∈ xs, u.oneCell' = true) (hbig : n ≤ 1048576) :
    Calls Try.prog 46 #[.slice (some ⟨g, 0, none⟩) n c, .int .i64 vi, .slice (some ⟨vb, 0, none⟩) 1 1] w fun e w' =>
      ∃ v', e = .returned v' ∧ Row w' 9 v' (xs.take i ++ x :: xs.drop i) ∧ (∀ k, own v' k → w.heap.size ≤ k ∧ k < w'.heap.size) ∧ Chg NoB w w' := by
  obtain ⟨hn, hnc, hc63⟩ := h.cap_le
  subst hvi
  obtain ⟨_, hg, _, hcell, hfz, hgw⟩ := h.at (by omega)
  cases hg
  obtain ⟨_, hgx, _, hcx, hfx, hvw⟩ := hx.at (by simp)
  cases hgx
  obtain ⟨i0, hi0, hz0, hzs, hzb⟩ := info_parts info9
  have hz2 : ¬ ((i : Int) = (n : Int)) := by omega
  have hz3 : (c : Int) < (n : Int) + (1 : Int) := by omega
  have hsz : (Try.prog.info? 9).map (·.size) = some 1 := by rw [hi0]; simp [hzs]
  have hkk : (n : Int) + (1 : Int) - (i : Int) = ((n + 1 - i : Nat) : Int) := by omega
  have hik : i + (n + 1 - i) = n + 1 := by omega
  have hold : (Builtin.firstCells i0.size i (.slice (some ⟨g, 0, none⟩) i c)).run Try.prog w.drew = .ok (xs.take i).toArray w.drew := by
    rw [hzs]
    exact run_firstCells_some w.drew 1 i ⟨g, 0, none⟩ i c (xs.take i) (by rw [List.length_take]; omega) (fun j v hj => by
      rw [Addr.add_lit, Nat.zero_add]
      rw [List.getElem?_take] at hj
      split at hj
      · exact hcell j v hj
      · cases hj)
  have hrz : ∀ ty, (Builtin.append_ #[34, 3] ty #[.slice (some ⟨g, 0, none⟩) i c, .int .i64 ((n : Int) + (1 : Int) - (i : Int))]).run Try.prog w =
      .ok (.slice (some ⟨w.heap.size, 0, none⟩) (n + 1) (grownCap w (n + 1) c 9)) (w.drew.alloc (.cells ((xs.take i).toArray ++ Builtin.zeroCells (.string ⟨#[]⟩ : Value).cells (n + 1 - i) ++ Builtin.zeroCells (.string ⟨#[]⟩ : Value).cells (grownCap w (n + 1) c 9 - (n + 1))) 9)) := fun ty => by
    have h := Lib.run_append_grow_zeros w 34 3 ty 9 i0 _ .i64 .i64 Try.underlying34 Try.underlying3 hi0 hz0 (some ⟨g, 0, none⟩) i c (xs.take i) hold (n + 1 - i) (by omega) (by omega) (by omega) (by omega) (by rw [hzb]; omega) (by rw [hzb, hik]; exact growslice_fits hroom (by omega))
    rw [hik] at h
    rw [hkk]
    exact h
  obtain ⟨G, hG⟩ : ∃ G, G = grownCap w (n + 1) c 9 := ⟨_, rfl⟩
  rw [← hG] at hrz
  have hGn : n + 1 ≤ G := by rw [hG]; exact grownCap_ge w _ _ _
  have hG63 : G ≤ maxLen := by
    have := grownCap_le_maxLen w (n + 1) c 9 (by unfold maxLen; omega)
    rw [← hG] at this
    exact this
  obtain ⟨W1, hW1⟩ : ∃ W1, W1 = w.drew.alloc (.cells ((xs.take i).toArray ++ Builtin.zeroCells (.string ⟨#[]⟩ : Value).cells (n + 1 - i) ++ Builtin.zeroCells (.string ⟨#[]⟩ : Value).cells (G - (n + 1))) 9) := ⟨_, rfl⟩
  rw [← hW1] at hrz
  have hR1 : Row W1 9 (.slice (some ⟨w.heap.size, 0, none⟩) (n + 1) G) (xs.take i ++ (Builtin.zeroCells (.string ⟨#[]⟩ : Value).cells (n + 1 - i)).toList) := by
    have := Row.made w.drew 9 (xs.take i ++ (Builtin.zeroCells (.string ⟨#[]⟩ : Value).cells (n + 1 - i)).toList) G (Builtin.zeroCells (.string ⟨#[]⟩ : Value).cells (G - (n + 1))).toList (by simp [size_zeroCells, Value.cells]; omega) hG63
    have e1 : (xs.take i ++ (Builtin.zeroCells (.string ⟨#[]⟩ : Value).cells (n + 1 - i)).toList).length = n + 1 := by simp [size_zeroCells, Value.cells]; omega
    have e2 : (xs.take i ++ (Builtin.zeroCells (.string ⟨#[]⟩ : Value).cells (n + 1 - i)).toList ++ (Builtin.zeroCells (.string ⟨#[]⟩ : Value).cells (G - (n + 1))).toList).toArray = (xs.take i).toArray ++ Builtin.zeroCells (.string ⟨#[]⟩ : Value).cells (n + 1 - i) ++ Builtin.zeroCells (.string ⟨#[]⟩ : Value).cells (G - (n + 1)) := by
      apply Array.ext'; simp
    rw [e1, e2, ← hW1] at this
    exact this
  have hC1 : Chg NoB w W1 := by rw [hW1]; exact (Chg.refl _ w).drew.alloc _
  obtain ⟨N, hN⟩ : ∃ N, N = w.heap.size := ⟨_, rfl⟩
  rw [← hN] at hR1 hrz
  have hgN : g ≠ N := by omega
  have hvN : vb ≠ N := by omega
  have hNW : N < W1.heap.size := hR1.lt (by simp [own, Value.ownBlock])
  have hsnd : ∀ (W : World) (ys : List Value) (h : Row W 9 (.slice (some ⟨N, 0, none⟩) (n + 1) G) ys) (j : Nat), j < n + 1 → (W.cell? ⟨N, j, none⟩).isSome = true ∧ W.frozen? ⟨N, j, none⟩ = false := fun W ys h j hj => by
    obtain ⟨hl, _⟩ := h.cap_le
    obtain ⟨_, hg, _, hc, hf, _⟩ := h.at (by omega)
    cases hg
    exact ⟨by rw [hc j _ (List.getElem?_eq_getElem (by omega))]; rfl, hf j⟩
  obtain ⟨W2, hW2⟩ : ∃ W2, W2 = W1.setCells N i [x] := ⟨_, rfl⟩
  have hcpA : ∀ ty dc, (Builtin.copy_ #[34, 34] ty #[.slice (some ⟨N, i, none⟩) (n + 1 - i) dc, .slice (some ⟨vb, 0, none⟩) 1 1]).run Try.prog W1 = .ok (goInt [x].length) W2 := fun ty dc => by
    rw [hW2]
    exact run_copy_cells W1 _ _ ty 9 N i (n + 1 - i) dc ⟨vb, 0, none⟩ 1 1 [x] Try.underlying34 hsz (by simp only [Nat.min_def, List.length_singleton]; split <;> omega)
      (fun j v hj => by rw [Addr.add_lit, Nat.zero_add]; exact hC1.cell (fun h => h) (hcx j v hj))
      (fun j hj => (hsnd W1 _ hR1 _ (by simp at hj; omega)).1) (fun j hj => (hsnd W1 _ hR1 _ (by simp at hj; omega)).2) (by simpa using h1x)
  have hR2 := hR1.setCells_in i [x] (by simp; omega)
  rw [← hW2] at hR2
  have hC2 : Chg NoB w W2 := by rw [hW2]; exact hC1.setCells N i [x] (.inr (by omega))
  obtain ⟨W3, hW3⟩ : ∃ W3, W3 = W2.drew.setCells N (i + 1) (xs.drop i) := ⟨_, rfl⟩
  have hdl : (xs.drop i).length = n - i := by rw [List.length_drop]; omega
  have hcpB : ∀ ty dc sc, (Builtin.copy_ #[34, 34] ty #[.slice (some ⟨N, i + 1, none⟩) (n + 1 - (i + 1)) dc, .slice (some ⟨g, i, none⟩) (n - i) sc]).run Try.prog W2.drew = .ok (goInt (xs.drop i).length) W3 := fun ty dc sc => by
    rw [hW3]
    exact run_copy_cells W2.drew _ _ ty 9 N (i + 1) (n + 1 - (i + 1)) dc ⟨g, i, none⟩ (n - i) sc (xs.drop i) Try.underlying34 hsz (by rw [hdl]; simp only [Nat.min_def]; split <;> omega)
      (fun j v hj => by
        rw [Addr.add_lit]
        exact hC2.cell (fun h => h) (hcell (i + j) v (by rwa [List.getElem?_drop] at hj)))
      (fun j hj => (hsnd W2 _ hR2 _ (by omega)).1) (fun j hj => (hsnd W2 _ hR2 _ (by omega)).2) (fun v hv => h1c v (List.mem_of_mem_drop hv))
  have hR2d : Row W2.drew 9 (.slice (some ⟨N, 0, none⟩) (n + 1) G) _ := hR2
  have hR3 := hR2d.setCells (i + 1) (xs.drop i) (by omega) (by omega) (by omega)
  rw [← hW3, hdl, show i + 1 + (n - i) = n + 1 by omega] at hR3
  have e3 : ((xs.take i ++ (Builtin.zeroCells (.string ⟨#[]⟩ : Value).cells (n + 1 - i)).toList).take i ++ [x] ++ (xs.take i ++ (Builtin.zeroCells (.string ⟨#[]⟩ : Value).cells (n + 1 - i)).toList).drop (i + [x].length)).take (i + 1) ++ xs.drop i = xs.take i ++ x :: xs.drop i := by
    have hti : (xs.take i).length = i := by simp; omega
    rw [List.take_append_of_le_length (l₁ := xs.take i) (by omega), List.take_of_length_le (by omega : (xs.take i).length ≤ i), List.take_append_of_le_length (by simp; omega), List.take_of_length_le (by simp; omega)]
    simp
  rw [e3] at hR3
  have hC3 : Chg NoB w W3 := by rw [hW3]; exact hC2.drew.setCells N _ _ (.inr (by omega))
  have hNW3 : N < W3.heap.size := hR3.lt (by simp [own, Value.ownBlock])
  have fR := Hid.mk' hR3
  have fC := Hid.mk' hC3
  have fN := Hid.mk' hN
  unfold maxLen at hc63 hG63
  have hGi : ¬ (G = i) := by omega
  have hGim : ¬ (G = i + 1) := by omega
  have hci : ¬ (c = i) := by omega
  have hw1 : IntKind.i64.wrap ((i : Int) + (1 : Int)) = (i : Int) + (1 : Int) := by rw [IntKind.wrap_i64]; omega
  have hb1 : (0 : Int) ≤ (i : Int) + (1 : Int) := by omega
  have hin : i ≤ n := by omega
  have htn : ((i : Int) + (1 : Int)).toNat = i + 1 := by omega
  have hb3 : (i : Int) ≤ (n : Int) := by omega
  clear hkk hik hold hR1 hR2 hR2d hR3 hC1 hC2 hC3 e3 hdl hsnd hcell hfz hcx hfx hG hW1 hW2 hW3 hN hn h hx hNW hsz hz0 hi0 hzs hzb
  go_enter Try.func46, Try.ntmps46
  go_wp2_with (first
    | (at_builtin; refine Lib.wpList_append_run _ rfl _ _ 34 3 rfl _ _ rfl rfl _ _ (hrz _) ?_)
    | (at_builtin; refine Lib2.wpList_copy_run _ rfl _ _ 34 34 rfl _ _ rfl rfl (hcpA _ _) ?_))
  go_region_law (refine Lib2.step_copy_run rfl _ _ 34 34 rfl (.slice (some ⟨N, i + 1, none⟩) (n + 1 - (i + 1)) (G - (i + 1))) (.slice (some ⟨g, i, none⟩) (n - i) (c - i)) (by simp [Act.eval, Act.put]) (by simp [Act.eval, Act.put]) (hcpB _ _ _) ?_)
  go_wp2
  go_ret
  exact ⟨.slice (some ⟨N, 0, none⟩) (n + 1) G, rfl, fR.out, fun k hk => by simp only [own, Value.ownBlock, Option.some.injEq] at hk; subst hk; exact ⟨by rw [fN.out]; exact Nat.le_refl _, hNW3⟩, fC.out⟩

/-- slices.Insert of one element. -/
theorem insS (v : Value) (i : Nat) (vi : Int) (vb : Nat) (x : Value) (xs : List Value) (w : World) (h : Row w 9 v xs) (hi : i ≤ xs.length) (hvi : vi = i) (hx : Row w 9 (.slice (some ⟨vb, 0, none⟩) 1 1) [x]) (hvb : ¬ own v vb)
    (h1x : x.oneCell' = true) (h1c : ∀ u ∈ xs, u.oneCell' = true) (hb : xs.length ≤ 1048576) :
    Calls Try.prog 46 #[v, .int .i64 vi, .slice (some ⟨vb, 0, none⟩) 1 1] w fun e w' =>
      ∃ v', e = .returned v' ∧ Row w' 9 v' (xs.take i ++ x :: xs.drop i) ∧ (∀ k, own v' k → own v k ∨ (w.heap.size ≤ k ∧ k < w'.heap.size)) ∧ Chg (own v) w w' := by
  by_cases he : i = xs.length
  · subst he
    refine (insEndS v vi vb x xs w h hvi hx h1x hb).mono ?_
    rintro e w' ⟨v', rfl, h1, h2, h3⟩
    exact ⟨v', rfl, by simpa using h1, h2, h3⟩
  · obtain ⟨a, c, rfl⟩ := h.form
    obtain ⟨g, rfl, hog, _⟩ := h.at (by omega)
    have hs : (fun k => k = g) = own (.slice (some ⟨g, 0, none⟩) xs.length c) := by
      funext k; exact propext (own_slice g xs.length c 0 none k).symm
    by_cases hr : xs.length + 1 ≤ c
    · refine (insShiftS g xs.length c i vi vb x xs w h (by omega) hvi hr hx (fun h => hvb (h ▸ hog)) h1x h1c).mono ?_
      rintro e w' ⟨rfl, h1, h2⟩
      exact ⟨_, rfl, h1, fun k hk => .inl (by rwa [own_slice] at hk ⊢), hs ▸ h2⟩
    · refine (insGrowS g xs.length c i vi vb x xs w h (by omega) hvi (by omega) hx h1x h1c hb).mono ?_
      rintro e w' ⟨v', rfl, h1, h2, h3⟩
      exact ⟨v', rfl, h1, fun k hk => .inr (h2 k hk), h3.mono fun _ h => h.elim⟩

theorem info3 : (Try.prog.info? 3).map (fun i => (i.zero, i.size, i.bytes)) = some (some (.int .i64 0), 1, 8) := by kernel_rfl
theorem zero3 (w : World) : (zeroValue 3).run Try.prog w = .ok (.int .i64 0) w := by kernel_rfl

set_option maxHeartbeats 400000 in
theorem cloneI (a : Option Addr) (n c : Nat) (xs : List Value) (w : World) (hn : n = xs.length) (hnil : a = none → xs = [] ∧ c = 0)
    (hcs : ∀ ad, a = some ad → ∀ j u, xs[j]? = some u → w.cell? (ad.add j) = some u) (h1 : ∀ u ∈ xs, u.oneCell' = true) (hb : xs.length ≤ 1048576) :
    Calls Try.prog 44 #[.slice a n c] w fun e w' => ∃ v', e = .returned v' ∧ Row w' 3 v' xs ∧ (∀ k, own v' k → w.heap.size ≤ k ∧ k < w'.heap.size) ∧ Chg NoB w w' := by
  subst hn
  cases a with
  | none =>
    obtain ⟨rfl, rfl⟩ := hnil rfl
    have he := fun w => Lib.run_eql_slice_nil (P := Try.prog) w 35 3 none 0 0 0 0 Try.underlying35
    go_enter Try.func44, Try.ntmps44
    go_wp2
    go_ret
    exact ⟨_, rfl, Row.nil w 3, fun k hk => (own_none 0 0 k hk).elim, Chg.refl _ _⟩
  | some ad =>
    have he := fun w => Lib.run_eql_slice_nil (P := Try.prog) w 35 3 (some ad) xs.length c 0 0 Try.underlying35
    have hc : ∀ j u, xs[j]? = some u → (w.alloc (Obj.cells #[] 3)).cell? (ad.add j) = some u := fun j u h => Lib.cell?_alloc_some _ (hcs ad rfl j u h)
    obtain ⟨i0, hi, hz0, hz1, hz2⟩ := info_parts info3
    clear hnil hcs
    go_enter Try.func44, Try.ntmps44
    go_wp2_with (at_builtin; refine wpList_append_own _ rfl _ _ 35 rfl w.heap.size 3 i0 (.int .i64 0) 1 8 Try.underlying35 hi hz0 hz1 hz2 rfl (by decide) (.slice (some ⟨w.heap.size, 0, none⟩) 0 0) 0 [] rfl (World.ownsRow_made w #[] 0 (Nat.le_refl _) (by simp [maxLen]) rfl) ad xs.length c xs rfl (by omega) hc h1 (by unfold maxLen; omega) (by omega) (by simp) ?_; intro v' w' hown hg _)
    go_ret
    have hr := Row.of_owns hown
    exact ⟨_, rfl, by simpa using hr, fun k hk => ⟨(hown.lt k hk).1, hr.lt hk⟩, ((Chg.refl NoB w).alloc _).grown hg (fun k hk => .inr (Nat.le_of_eq (by simpa [Value.ownBlock] using hk)))⟩

set_option maxHeartbeats 1000000 in
set_option maxRecDepth 100000 in
theorem delI (g n c i : Nat) (vi vj : Int) (xs : List Value) (w : World) (h : Row w 3 (.slice (some ⟨g, 0, none⟩) n c) xs) (hi : i < xs.length) (hvi : vi = i) (hvj : vj = (i : Int) + 1)
    (h1 : ∀ u ∈ xs, u.oneCell' = true) :
    Calls Try.prog 39 #[.slice (some ⟨g, 0, none⟩) n c, .int .i64 vi, .int .i64 vj] w fun e w' =>
      e = .returned (.slice (some ⟨g, 0, none⟩) (n - 1) c) ∧ Row w' 3 (.slice (some ⟨g, 0, none⟩) (n - 1) c) (xs.take i ++ xs.drop (i + 1)) ∧ Chg (fun k => k = g) w w' := by
  obtain ⟨hn, hnc, hc63⟩ := h.cap_le
  unfold maxLen at hc63
  obtain ⟨_, hg, _, hcell, hfz, _⟩ := h.at (by omega)
  cases hg
  obtain ⟨i0, hi0, hz0, hz1, hz2⟩ := info_parts info3
  have hv0 := zero3
  obtain ⟨news, hnews⟩ : ∃ news, news = xs.drop (i + 1) := ⟨_, rfl⟩
  have hlen : news.length = n - (i + 1) := by rw [hnews]; simp; omega
  have hnl : Hid (news = xs.drop (i + 1)) := hnews
  obtain ⟨A, hA, hsrc⟩ : ∃ A : Addr, (if c = i + 1 then some (⟨g, 0, none⟩ : Addr) else some ⟨g, i + 1, none⟩) = some A ∧ Hid (∀ t u, news[t]? = some u → w.drew.cell? (A.add t) = some u) := by
    by_cases hci : c = i + 1
    · refine ⟨⟨g, 0, none⟩, by simp [hci], fun t u hu => ?_⟩
      have h0 : news.length = 0 := by rw [hlen]; omega
      rw [List.length_eq_zero_iff.1 h0] at hu
      simp at hu
    · refine ⟨⟨g, i + 1, none⟩, by simp [hci], fun t u hu => ?_⟩
      rw [hnews, List.getElem?_drop] at hu
      rw [Addr.add_lit]
      exact hcell _ _ hu
  have hsome : ∀ j, j < n → (w.cell? ⟨g, j, none⟩).isSome = true := fun j hj => by rw [hcell j _ (List.getElem?_eq_getElem (by omega))]; rfl
  have s1 : Hid (news.length = (n - (i + 1)) * 1) := by show _ = _; rw [Nat.mul_one]; exact hlen
  have s2 : Hid (∀ u ∈ news, u.oneCell' = true) := fun u hu => h1 u (List.mem_of_mem_drop (by rw [← hnews]; exact hu))
  have s3 : Hid (∀ t, t < news.length → (w.drew.cell? ⟨g, 0 + i * 1 + t, none⟩).isSome = true ∧ w.drew.frozen? ⟨g, 0 + i * 1 + t, none⟩ = false) := by
    intro t ht
    rw [hlen] at ht
    rw [Nat.mul_one, Nat.zero_add]
    exact ⟨hsome (i + t) (by omega), hfz (i + t)⟩
  have hR0 : Row w.drew 3 (.slice (some ⟨g, 0, none⟩) n c) xs := h
  have hR1 := hR0.setCells_in i news (by rw [hlen]; omega)
  obtain ⟨W1, hW1⟩ : ∃ W1, W1 = w.drew.setCells g (0 + i * 1) news := ⟨_, rfl⟩
  have hW1' : W1 = w.drew.setCells g i news := by rw [hW1]; simp
  rw [← hW1'] at hR1
  have hC1 : Chg (fun k => k = g) w W1 := by rw [hW1']; exact (Chg.refl _ w).drew.setCells g i news (.inl rfl)
  have hl1 : (xs.take i ++ news ++ xs.drop (i + news.length)).length = n := by simp [hlen]; omega
  obtain ⟨_, hg1, _, hcell1, hfz1, _⟩ := hR1.at (by omega)
  cases hg1
  have hn1 : i + (n - (i + 1)) = n - 1 := by omega
  have hcl : ∀ ty, (Builtin.clear_ #[35] ty #[.slice (some ⟨g, n - 1, none⟩) (n - (n - 1)) (c - (n - 1))]).run Try.prog W1 = .ok (.tuple #[]) (W1.setCells g (n - 1) (List.replicate (n - (n - 1)) (.int .i64 0))) :=
    fun ty => Lib.run_clear_slice W1 _ _ ty _ Try.underlying35 hv0 rfl rfl g (n - 1) _ _ (by omega) (fun t ht => by rw [hcell1 _ _ (List.getElem?_eq_getElem (by omega))]; rfl) (fun t ht => hfz1 _)
  have hR2 := ((hR1.cut (n - 1) (by omega)).setCells_out (n - 1) (List.replicate (n - (n - 1)) (.int .i64 0)) (Nat.le_refl _) (by simp; omega))
  have e2 : (xs.take i ++ news ++ xs.drop (i + news.length)).take (n - 1) = xs.take i ++ xs.drop (i + 1) := by
    rw [List.take_append_of_le_length (by simp [hlen]; omega), List.take_of_length_le (by simp [hlen]; omega), hnews]
  rw [e2] at hR2
  have hR2' := Hid.mk' hR2
  have hC2 := Hid.mk' (hC1.setCells g (n - 1) (List.replicate (n - (n - 1)) (.int .i64 0)) (.inl rfl))
  have hW : Hid (W1 = w.drew.setCells g (0 + i * 1) news) := hW1
  have hic : i ≤ c := by omega
  have hjc : i + 1 ≤ c := by omega
  have hjn : i + 1 ≤ n := by omega
  have hne : ¬ c = n - 1 := by omega
  have hn1' := Hid.mk' hn1
  have b1 : (0 : Int) ≤ (i : Int) + 1 := by omega
  have b2 : (i : Int) + 1 ≤ (n : Int) := by omega
  have b3 : ((i : Int) + 1).toNat = i + 1 := by omega
  have b4 : ¬ ((i : Int) = (i : Int) + 1) := by omega
  subst hvi hvj
  clear hW1 hW1' hR1 hR2 e2 hC1 hl1 hcell1 hfz1 hR0 hsome hnews hlen hn hcell hfz hn1 h h1
  go_enter Try.func39, Try.ntmps39
  go_wp2_with fail
  go_region_law (refine step_append_room rfl (.tmp 22) (.tmp 25) 35 rfl 3 i0 1 Try.underlying35 hi0 hz1 g 0 i c (by simp [Act.eval, Act.put]) A (n - (i + 1)) (c - (i + 1)) news (by simp [Act.eval, Act.put]) s1.out hsrc.out s2.out (by omega) s3.out ?_; rw [← hW.out, hn1'.out])
  go_wp2
  go_ret
  exact ⟨rfl, hR2'.out, hC2.out⟩

set_option maxHeartbeats 1000000 in
set_option maxRecDepth 100000 in
theorem insEndI (v : Value) (vi : Int) (vb : Nat) (x : Value) (xs : List Value) (w : World) (h : Row w 3 v xs) (hvi : vi = xs.length) (hx : Row w 3 (.slice (some ⟨vb, 0, none⟩) 1 1) [x]) (h1 : x.oneCell' = true) (hb : xs.length ≤ 1048576) :
    Calls Try.prog 47 #[v, .int .i64 vi, .slice (some ⟨vb, 0, none⟩) 1 1] w fun e w' =>
      ∃ v', e = .returned v' ∧ Row w' 3 v' (xs ++ [x]) ∧ (∀ k, own v' k → own v k ∨ (w.heap.size ≤ k ∧ k < w'.heap.size)) ∧ Chg (own v) w w' := by
  obtain ⟨a, c, rfl⟩ := h.form
  obtain ⟨-, hnc, hc63⟩ := h.cap_le
  unfold maxLen at hc63
  subst hvi
  have hH := Hid.mk' h
  have hX := Hid.mk' hx
  have hne : (((xs.length : Nat) : Int) == ((xs.length : Nat) : Int)) = true := by simp
  clear h hx
  by_cases hcc : c = xs.length
  all_goals
    go_enter Try.func47, Try.ntmps47
    go_wp2_with (at_builtin; refine wpList_append_row _ rfl _ _ 35 3 (.int .i64 0) 8 rfl Try.underlying35 info3 rfl (.slice a xs.length c) (.slice (some ⟨vb, 0, none⟩) 1 1) xs [x] rfl rfl hH.out hX.out (by simp [h1]) (by simp; omega) (by simp; omega) ?_; intro v' w' hr ho hc)
    go_ret
    exact ⟨_, rfl, hr, ho, hc⟩

set_option maxHeartbeats 4000000 in
set_option maxRecDepth 100000 in
theorem insShiftI (g n c : Nat) (i : Nat) (vi : Int) (vb : Nat) (x : Value) (xs : List Value) (w : World) (h : Row w 3 (.slice (some ⟨g, 0, none⟩) n c) xs) (hi : i < n) (hvi : vi = i) (hroom : n + 1 ≤ c)
    (hx : Row w 3 (.slice (some ⟨vb, 0, none⟩) 1 1) [x]) (hvb : vb ≠ g) (h1x : x.oneCell' = true) (h1c : ∀ u ∈ xs, u.oneCell' = true) :
    Calls Try.prog 47 #[.slice (some ⟨g, 0, none⟩) n c, .int .i64 vi, .slice (some ⟨vb, 0, none⟩) 1 1] w fun e w' =>
      e = .returned (.slice (some ⟨g, 0, none⟩) (n + 1) c) ∧ Row w' 3 (.slice (some ⟨g, 0, none⟩) (n + 1) c) (xs.take i ++ x :: xs.drop i) ∧ Chg (fun k => k = g) w w' := by
  obtain ⟨hn, hnc, hc63⟩ := h.cap_le
  unfold maxLen at hc63
  subst hvi
  obtain ⟨_, hg, _, hcell, hfz, hgw⟩ := h.at (by omega)
  cases hg
  obtain ⟨_, hgx, _, hcx, hfx, hvw⟩ := hx.at (by simp)
  cases hgx
  have hx0 := hcx 0 x rfl
  -- the row as it lies
  rcases h with ⟨h0, _⟩ | ⟨g', cap, cur, h0, hg1, hg2, hg3, hg4, hg5⟩
  · simp at h0
  simp only [Value.slice.injEq, Option.some.injEq, Addr.mk.injEq, and_true] at h0
  obtain ⟨rfl, -, rfl⟩ := h0
  rcases hx with ⟨h0, _⟩ | ⟨gx, capx, curx, h0, hx1, hx2, hx3, hx4, hx5⟩
  · simp at h0
  simp only [Value.slice.injEq, Option.some.injEq, Addr.mk.injEq, and_true] at h0
  obtain ⟨rfl, -, rfl⟩ := h0
  have hspare : ∀ j, j < c → (w.cell? ⟨g, j, none⟩).isSome = true := fun j hj => by
    rw [cell_of_row w g j cur 3 (0, 0) hg1, Array.getElem?_eq_getElem (by omega)]; rfl
  have hsa : w.shape? vb = some (3, 1) := by simp [World.shape?, hx1, hx4]
  have hsb : w.shape? g = some (3, c) := by simp [World.shape?, hg1, hg4]
  have hsz : (Try.prog.info? 3).map (·.size) = some 1 := by
    obtain ⟨i0, hi0, _, hs0, _⟩ := info_parts info3
    rw [hi0]; simp [hs0]
  have hszS : ∀ w, (Go.sizeOf 3).run Try.prog w = .ok 1 w := fun w => by kernel_rfl
  have hov : ∀ lb cb, (callFunc 56 #[.slice (some ⟨vb, 0, none⟩) 1 1, .slice (some ⟨g, i + 1, none⟩) lb cb]).run Try.prog w = .ok (.value (.bool false)) w := fun lb cb => by
    rw [run_callFunc_extern Try.func56 (by kernel_rfl) (by kernel_rfl) (by kernel_rfl) (e := Extern.SlicesOverlaps.overlaps #[35, 35] #[4]) (by kernel_rfl),
      Lib.run_overlaps_apart w 35 4 3 Try.underlying35 1 hszS ⟨vb, 0, none⟩ ⟨g, i + 1, none⟩ 1 1 lb cb hvb 3 3 1 c hsa hsb (by omega) (hfx 0) (hfx 1)]
    rfl
  have hdl : (xs.drop i).length = n - i := by rw [List.length_drop]; omega
  have hcp1 : ∀ ty dc sc, (Builtin.copy_ #[35, 35] ty #[.slice (some ⟨g, i + 1, none⟩) (n - i) dc, .slice (some ⟨g, i, none⟩) (n + 1 - i) sc]).run Try.prog w.drew = .ok (goInt (xs.drop i).length) (w.drew.setCells g (i + 1) (xs.drop i)) := fun ty dc sc =>
    run_copy_cells w.drew _ _ ty 3 g (i + 1) (n - i) dc ⟨g, i, none⟩ (n + 1 - i) sc (xs.drop i) Try.underlying35 hsz (by rw [hdl]; simp only [Nat.min_def]; split <;> omega)
      (fun j v hj => by rw [Addr.add_lit]; exact hcell (i + j) v (by rwa [List.getElem?_drop] at hj))
      (fun j hj => hspare _ (by omega)) (fun j hj => hfz _) (fun v hv => h1c v (List.mem_of_mem_drop hv))
  obtain ⟨W1, hW1⟩ : ∃ W1, W1 = w.drew.setCells g (i + 1) (xs.drop i) := ⟨_, rfl⟩
  have hR1 : Row W1 3 (.slice (some ⟨g, 0, none⟩) (n + 1) c) (xs.take i ++ (xs[i]'(by omega)) :: xs.drop i) := by
    have hR0 : Row w.drew 3 (.slice (some ⟨g, 0, none⟩) n c) xs := .inr ⟨g, c, cur, by rw [hn], hg1, by omega, hg3, hg4, hg5⟩
    have := hR0.setCells (i + 1) (xs.drop i) (by omega) (by omega) (by omega)
    rw [← hW1] at this
    have e1 : i + 1 + (xs.drop i).length = n + 1 := by omega
    rw [e1, List.take_succ_eq_append_getElem (by omega), List.append_assoc, List.singleton_append] at this
    exact this
  obtain ⟨_, hgr, _, hcell1, hfz1, _⟩ := hR1.at (by simp; omega)
  cases hgr
  have hl1 : (xs.take i ++ (xs[i]'(by omega)) :: xs.drop i).length = n + 1 := by simp; omega
  have hC1 : Chg (fun k => k = g) w W1 := by rw [hW1]; exact (Chg.refl _ w).drew.setCells g _ _ (.inl rfl)
  have hcp2 : ∀ ty dc, (Builtin.copy_ #[35, 35] ty #[.slice (some ⟨g, i, none⟩) (n + 1 - i) dc, .slice (some ⟨vb, 0, none⟩) 1 1]).run Try.prog W1 = .ok (goInt [x].length) (W1.setCells g i [x]) := fun ty dc =>
    run_copy_cells W1 _ _ ty 3 g i (n + 1 - i) dc ⟨vb, 0, none⟩ 1 1 [x] Try.underlying35 hsz (by simp only [Nat.min_def, List.length_singleton]; split <;> omega)
      (fun j v hj => by
        rw [Addr.add_lit, Nat.zero_add]
        exact hC1.cell (by exact hvb) (hcx j v hj))
      (fun j hj => by rw [hcell1 _ _ (List.getElem?_eq_getElem (by simp at hj; omega))]; rfl) (fun j hj => hfz1 _) (by simpa using h1x)
  have hR2 := hR1.setCells_in i [x] (by simp; omega)
  have e2 : (xs.take i ++ (xs[i]'(by omega)) :: xs.drop i).take i ++ [x] ++ (xs.take i ++ (xs[i]'(by omega)) :: xs.drop i).drop (i + [x].length) = xs.take i ++ x :: xs.drop i := by
    have hti : (xs.take i).length = i := by simp; omega
    rw [List.take_append_of_le_length (by omega), List.take_of_length_le (by omega), List.drop_append, hti, List.drop_of_length_le (by simp; omega)]
    simp
  rw [e2] at hR2
  have hR2' := Hid.mk' hR2
  have hC2 := Hid.mk' (hC1.setCells g i [x] (.inl rfl))
  rw [← hW1] at hcp1
  have hw1 : IntKind.i64.wrap ((i : Int) + (1 : Int)) = (i : Int) + (1 : Int) := by rw [IntKind.wrap_i64]; omega
  have hb1 : (0 : Int) ≤ (i : Int) + (1 : Int) := by omega
  have hin : i ≤ n := by omega
  have htn : ((i : Int) + (1 : Int)).toNat = i + 1 := by omega
  have hb2 : ¬ (c = i + 1) := by omega
  have hb3 : (i : Int) ≤ (n : Int) + (1 : Int) := by omega
  have hb4 : ¬ (c = i) := by omega
  have hz2 : ¬ ((i : Int) = (n : Int)) := by omega
  clear hR1 hR2 e2 hC1 hl1 hcell1 hfz1 hW1 hn hg1 hg2 hg3 hg4 hg5 hx1 hx2 hx3 hx4 hx5 hdl hspare hsa hsb hcell hfz hcx hfx hx0 hsz hszS h1c
  go_enter Try.func47, Try.ntmps47
  go_wp2_with (simp only [hov])
  go_region_law (refine Lib2.step_copy_run rfl _ _ 35 35 rfl _ _ (by simp [Act.eval, Act.put]) (by simp [Act.eval, Act.put]) (hcp1 _ _ _) ?_)
  go_wp2_with (at_builtin; refine Lib2.wpList_copy_run _ rfl _ _ 35 35 rfl _ _ rfl rfl (hcp2 _ _) ?_)
  go_ret
  exact ⟨rfl, hR2'.out, hC2.out⟩

set_option maxHeartbeats 4000000 in
set_option maxRecDepth 100000 in
theorem insGrowI (g n c : Nat) (i : Nat) (vi : Int) (vb : Nat) (x : Value) (xs : List Value) (w : World) (h : Row w 3 (.slice (some ⟨g, 0, none⟩) n c) xs) (hi : i < n) (hvi : vi = i) (hroom : c < n + 1)
    (hx : Row w 3 (.slice (some ⟨vb, 0, none⟩) 1 1) [x]) (h1x : x.oneCell' = true) (h1c : ∀ u ∈ xs, u.oneCell' = true) (hbig : n ≤ 1048576) :
    Calls Try.prog 47 #[.slice (some ⟨g, 0, none⟩) n c, .int .i64 vi, .slice (some ⟨vb, 0, none⟩) 1 1] w fun e w' =>
      ∃ v', e = .returned v' ∧ Row w' 3 v' (xs.take i ++ x :: xs.drop i) ∧ (∀ k, own v' k → w.heap.size ≤ k ∧ k < w'.heap.size) ∧ Chg NoB w w' := by
  obtain ⟨hn, hnc, hc63⟩ := h.cap_le
  subst hvi
  obtain ⟨_, hg, _, hcell, hfz, hgw⟩ := h.at (by omega)
  cases hg
  obtain ⟨_, hgx, _, hcx, hfx, hvw⟩ := hx.at (by simp)
  cases hgx
  obtain ⟨i0, hi0, hz0, hzs, hzb⟩ := info_parts info3
  have hz2 : ¬ ((i : Int) = (n : Int)) := by omega
  have hz3 : (c : Int) < (n : Int) + (1 : Int) := by omega
  have hsz : (Try.prog.info? 3).map (·.size) = some 1 := by rw [hi0]; simp [hzs]
  have hkk : (n : Int) + (1 : Int) - (i : Int) = ((n + 1 - i : Nat) : Int) := by omega
  have hik : i + (n + 1 - i) = n + 1 := by omega
  have hold : (Builtin.firstCells i0.size i (.slice (some ⟨g, 0, none⟩) i c)).run Try.prog w.drew = .ok (xs.take i).toArray w.drew := by
    rw [hzs]
    exact run_firstCells_some w.drew 1 i ⟨g, 0, none⟩ i c (xs.take i) (by rw [List.length_take]; omega) (fun j v hj => by
      rw [Addr.add_lit, Nat.zero_add]
      rw [List.getElem?_take] at hj
      split at hj
      · exact hcell j v hj
      · cases hj)
  have hrz : ∀ ty, (Builtin.append_ #[35, 3] ty #[.slice (some ⟨g, 0, none⟩) i c, .int .i64 ((n : Int) + (1 : Int) - (i : Int))]).run Try.prog w =
      .ok (.slice (some ⟨w.heap.size, 0, none⟩) (n + 1) (grownCap w (n + 1) c 3)) (w.drew.alloc (.cells ((xs.take i).toArray ++ Builtin.zeroCells (.int .i64 0 : Value).cells (n + 1 - i) ++ Builtin.zeroCells (.int .i64 0 : Value).cells (grownCap w (n + 1) c 3 - (n + 1))) 3)) := fun ty => by
    have h := Lib.run_append_grow_zeros w 35 3 ty 3 i0 _ .i64 .i64 Try.underlying35 Try.underlying3 hi0 hz0 (some ⟨g, 0, none⟩) i c (xs.take i) hold (n + 1 - i) (by omega) (by omega) (by omega) (by omega) (by rw [hzb]; omega) (by rw [hzb, hik]; exact growslice_fits hroom (by omega))
    rw [hik] at h
    rw [hkk]
    exact h
  obtain ⟨G, hG⟩ : ∃ G, G = grownCap w (n + 1) c 3 := ⟨_, rfl⟩
  rw [← hG] at hrz
  have hGn : n + 1 ≤ G := by rw [hG]; exact grownCap_ge w _ _ _
  have hG63 : G ≤ maxLen := by
    have := grownCap_le_maxLen w (n + 1) c 3 (by unfold maxLen; omega)
    rw [← hG] at this
    exact this
  obtain ⟨W1, hW1⟩ : ∃ W1, W1 = w.drew.alloc (.cells ((xs.take i).toArray ++ Builtin.zeroCells (.int .i64 0 : Value).cells (n + 1 - i) ++ Builtin.zeroCells (.int .i64 0 : Value).cells (G - (n + 1))) 3) := ⟨_, rfl⟩
  rw [← hW1] at hrz
  have hR1 : Row W1 3 (.slice (some ⟨w.heap.size, 0, none⟩) (n + 1) G) (xs.take i ++ (Builtin.zeroCells (.int .i64 0 : Value).cells (n + 1 - i)).toList) := by
    have := Row.made w.drew 3 (xs.take i ++ (Builtin.zeroCells (.int .i64 0 : Value).cells (n + 1 - i)).toList) G (Builtin.zeroCells (.int .i64 0 : Value).cells (G - (n + 1))).toList (by simp [size_zeroCells, Value.cells]; omega) hG63
    have e1 : (xs.take i ++ (Builtin.zeroCells (.int .i64 0 : Value).cells (n + 1 - i)).toList).length = n + 1 := by simp [size_zeroCells, Value.cells]; omega
    have e2 : (xs.take i ++ (Builtin.zeroCells (.int .i64 0 : Value).cells (n + 1 - i)).toList ++ (Builtin.zeroCells (.int .i64 0 : Value).cells (G - (n + 1))).toList).toArray = (xs.take i).toArray ++ Builtin.zeroCells (.int .i64 0 : Value).cells (n + 1 - i) ++ Builtin.zeroCells (.int .i64 0 : Value).cells (G - (n + 1)) := by
      apply Array.ext'; simp
    rw [e1, e2, ← hW1] at this
    exact this
  have hC1 : Chg NoB w W1 := by rw [hW1]; exact (Chg.refl _ w).drew.alloc _
  obtain ⟨N, hN⟩ : ∃ N, N = w.heap.size := ⟨_, rfl⟩
  rw [← hN] at hR1 hrz
  have hgN : g ≠ N := by omega
  have hvN : vb ≠ N := by omega
  have hNW : N < W1.heap.size := hR1.lt (by simp [own, Value.ownBlock])
  have hsnd : ∀ (W : World) (ys : List Value) (h : Row W 3 (.slice (some ⟨N, 0, none⟩) (n + 1) G) ys) (j : Nat), j < n + 1 → (W.cell? ⟨N, j, none⟩).isSome = true ∧ W.frozen? ⟨N, j, none⟩ = false := fun W ys h j hj => by
    obtain ⟨hl, _⟩ := h.cap_le
    obtain ⟨_, hg, _, hc, hf, _⟩ := h.at (by omega)
    cases hg
    exact ⟨by rw [hc j _ (List.getElem?_eq_getElem (by omega))]; rfl, hf j⟩
  obtain ⟨W2, hW2⟩ : ∃ W2, W2 = W1.setCells N i [x] := ⟨_, rfl⟩
  have hcpA : ∀ ty dc, (Builtin.copy_ #[35, 35] ty #[.slice (some ⟨N, i, none⟩) (n + 1 - i) dc, .slice (some ⟨vb, 0, none⟩) 1 1]).run Try.prog W1 = .ok (goInt [x].length) W2 := fun ty dc => by
    rw [hW2]
    exact run_copy_cells W1 _ _ ty 3 N i (n + 1 - i) dc ⟨vb, 0, none⟩ 1 1 [x] Try.underlying35 hsz (by simp only [Nat.min_def, List.length_singleton]; split <;> omega)
      (fun j v hj => by rw [Addr.add_lit, Nat.zero_add]; exact hC1.cell (fun h => h) (hcx j v hj))
      (fun j hj => (hsnd W1 _ hR1 _ (by simp at hj; omega)).1) (fun j hj => (hsnd W1 _ hR1 _ (by simp at hj; omega)).2) (by simpa using h1x)
  have hR2 := hR1.setCells_in i [x] (by simp; omega)
  rw [← hW2] at hR2
  have hC2 : Chg NoB w W2 := by rw [hW2]; exact hC1.setCells N i [x] (.inr (by omega))
  obtain ⟨W3, hW3⟩ : ∃ W3, W3 = W2.drew.setCells N (i + 1) (xs.drop i) := ⟨_, rfl⟩
  have hdl : (xs.drop i).length = n - i := by rw [List.length_drop]; omega
  have hcpB : ∀ ty dc sc, (Builtin.copy_ #[35, 35] ty #[.slice (some ⟨N, i + 1, none⟩) (n + 1 - (i + 1)) dc, .slice (some ⟨g, i, none⟩) (n - i) sc]).run Try.prog W2.drew = .ok (goInt (xs.drop i).length) W3 := fun ty dc sc => by
    rw [hW3]
    exact run_copy_cells W2.drew _ _ ty 3 N (i + 1) (n + 1 - (i + 1)) dc ⟨g, i, none⟩ (n - i) sc (xs.drop i) Try.underlying35 hsz (by rw [hdl]; simp only [Nat.min_def]; split <;> omega)
      (fun j v hj => by
        rw [Addr.add_lit]
        exact hC2.cell (fun h => h) (hcell (i + j) v (by rwa [List.getElem?_drop] at hj)))
      (fun j hj => (hsnd W2 _ hR2 _ (by omega)).1) (fun j hj => (hsnd W2 _ hR2 _ (by omega)).2) (fun v hv => h1c v (List.mem_of_mem_drop hv))
  have hR2d : Row W2.drew 3 (.slice (some ⟨N, 0, none⟩) (n + 1) G) _ := hR2
  have hR3 := hR2d.setCells (i + 1) (xs.drop i) (by omega) (by omega) (by omega)
  rw [← hW3, hdl, show i + 1 + (n - i) = n + 1 by omega] at hR3
  have e3 : ((xs.take i ++ (Builtin.zeroCells (.int .i64 0 : Value).cells (n + 1 - i)).toList).take i ++ [x] ++ (xs.take i ++ (Builtin.zeroCells (.int .i64 0 : Value).cells (n + 1 - i)).toList).drop (i + [x].length)).take (i + 1) ++ xs.drop i = xs.take i ++ x :: xs.drop i := by
    have hti : (xs.take i).length = i := by simp; omega
    rw [List.take_append_of_le_length (l₁ := xs.take i) (by omega), List.take_of_length_le (by omega : (xs.take i).length ≤ i), List.take_append_of_le_length (by simp; omega), List.take_of_length_le (by simp; omega)]
    simp
  rw [e3] at hR3
  have hC3 : Chg NoB w W3 := by rw [hW3]; exact hC2.drew.setCells N _ _ (.inr (by omega))
  have hNW3 : N < W3.heap.size := hR3.lt (by simp [own, Value.ownBlock])
  have fR := Hid.mk' hR3
  have fC := Hid.mk' hC3
  have fN := Hid.mk' hN
  unfold maxLen at hc63 hG63
  have hGi : ¬ (G = i) := by omega
  have hGim : ¬ (G = i + 1) := by omega
  have hci : ¬ (c = i) := by omega
  have hw1 : IntKind.i64.wrap ((i : Int) + (1 : Int)) = (i : Int) + (1 : Int) := by rw [IntKind.wrap_i64]; omega
  have hb1 : (0 : Int) ≤ (i : Int) + (1 : Int) := by omega
  have hin : i ≤ n := by omega
  have htn : ((i : Int) + (1 : Int)).toNat = i + 1 := by omega
  have hb3 : (i : Int) ≤ (n : Int) := by omega
  clear hkk hik hold hR1 hR2 hR2d hR3 hC1 hC2 hC3 e3 hdl hsnd hcell hfz hcx hfx hG hW1 hW2 hW3 hN hn h hx hNW hsz hz0 hi0 hzs hzb
  go_enter Try.func47, Try.ntmps47
  go_wp2_with (first
    | (at_builtin; refine Lib.wpList_append_run _ rfl _ _ 35 3 rfl _ _ rfl rfl _ _ (hrz _) ?_)
    | (at_builtin; refine Lib2.wpList_copy_run _ rfl _ _ 35 35 rfl _ _ rfl rfl (hcpA _ _) ?_))
  go_region_law (refine Lib2.step_copy_run rfl _ _ 35 35 rfl (.slice (some ⟨N, i + 1, none⟩) (n + 1 - (i + 1)) (G - (i + 1))) (.slice (some ⟨g, i, none⟩) (n - i) (c - i)) (by simp [Act.eval, Act.put]) (by simp [Act.eval, Act.put]) (hcpB _ _ _) ?_)
  go_wp2
  go_ret
  exact ⟨.slice (some ⟨N, 0, none⟩) (n + 1) G, rfl, fR.out, fun k hk => by simp only [own, Value.ownBlock, Option.some.injEq] at hk; subst hk; exact ⟨by rw [fN.out]; exact Nat.le_refl _, hNW3⟩, fC.out⟩

/-- slices.Insert of one element. -/
theorem insI (v : Value) (i : Nat) (vi : Int) (vb : Nat) (x : Value) (xs : List Value) (w : World) (h : Row w 3 v xs) (hi : i ≤ xs.length) (hvi : vi = i) (hx : Row w 3 (.slice (some ⟨vb, 0, none⟩) 1 1) [x]) (hvb : ¬ own v vb)
    (h1x : x.oneCell' = true) (h1c : ∀ u ∈ xs, u.oneCell' = true) (hb : xs.length ≤ 1048576) :
    Calls Try.prog 47 #[v, .int .i64 vi, .slice (some ⟨vb, 0, none⟩) 1 1] w fun e w' =>
      ∃ v', e = .returned v' ∧ Row w' 3 v' (xs.take i ++ x :: xs.drop i) ∧ (∀ k, own v' k → own v k ∨ (w.heap.size ≤ k ∧ k < w'.heap.size)) ∧ Chg (own v) w w' := by
  by_cases he : i = xs.length
  · subst he
    refine (insEndI v vi vb x xs w h hvi hx h1x hb).mono ?_
    rintro e w' ⟨v', rfl, h1, h2, h3⟩
    exact ⟨v', rfl, by simpa using h1, h2, h3⟩
  · obtain ⟨a, c, rfl⟩ := h.form
    obtain ⟨g, rfl, hog, _⟩ := h.at (by omega)
    have hs : (fun k => k = g) = own (.slice (some ⟨g, 0, none⟩) xs.length c) := by
      funext k; exact propext (own_slice g xs.length c 0 none k).symm
    by_cases hr : xs.length + 1 ≤ c
    · refine (insShiftI g xs.length c i vi vb x xs w h (by omega) hvi hr hx (fun h => hvb (h ▸ hog)) h1x h1c).mono ?_
      rintro e w' ⟨rfl, h1, h2⟩
      exact ⟨_, rfl, h1, fun k hk => .inl (by rwa [own_slice] at hk ⊢), hs ▸ h2⟩
    · refine (insGrowI g xs.length c i vi vb x xs w h (by omega) hvi (by omega) hx h1x h1c hb).mono ?_
      rintro e w' ⟨v', rfl, h1, h2, h3⟩
      exact ⟨v', rfl, h1, fun k hk => .inr (h2 k hk), h3.mono fun _ h => h.elim⟩

theorem info48 : (Try.prog.info? 48).map (fun i => (i.zero, i.size, i.bytes)) = some (some (.pointer none), 1, 8) := by kernel_rfl
theorem zero48 (w : World) : (zeroValue 48).run Try.prog w = .ok (.pointer none) w := by kernel_rfl

set_option maxHeartbeats 400000 in
theorem cloneN (a : Option Addr) (n c : Nat) (xs : List Value) (w : World) (hn : n = xs.length) (hnil : a = none → xs = [] ∧ c = 0)
    (hcs : ∀ ad, a = some ad → ∀ j u, xs[j]? = some u → w.cell? (ad.add j) = some u) (h1 : ∀ u ∈ xs, u.oneCell' = true) (hb : xs.length ≤ 1048576) :
    Calls Try.prog 45 #[.slice a n c] w fun e w' => ∃ v', e = .returned v' ∧ Row w' 48 v' xs ∧ (∀ k, own v' k → w.heap.size ≤ k ∧ k < w'.heap.size) ∧ Chg NoB w w' := by
  subst hn
  cases a with
  | none =>
    obtain ⟨rfl, rfl⟩ := hnil rfl
    have he := fun w => Lib.run_eql_slice_nil (P := Try.prog) w 52 48 none 0 0 0 0 Try.underlying52
    go_enter Try.func45, Try.ntmps45
    go_wp2
    go_ret
    exact ⟨_, rfl, Row.nil w 48, fun k hk => (own_none 0 0 k hk).elim, Chg.refl _ _⟩
  | some ad =>
    have he := fun w => Lib.run_eql_slice_nil (P := Try.prog) w 52 48 (some ad) xs.length c 0 0 Try.underlying52
    have hc : ∀ j u, xs[j]? = some u → (w.alloc (Obj.cells #[] 48)).cell? (ad.add j) = some u := fun j u h => Lib.cell?_alloc_some _ (hcs ad rfl j u h)
    obtain ⟨i0, hi, hz0, hz1, hz2⟩ := info_parts info48
    clear hnil hcs
    go_enter Try.func45, Try.ntmps45
    go_wp2_with (at_builtin; refine wpList_append_own _ rfl _ _ 52 rfl w.heap.size 48 i0 (.pointer none) 1 8 Try.underlying52 hi hz0 hz1 hz2 rfl (by decide) (.slice (some ⟨w.heap.size, 0, none⟩) 0 0) 0 [] rfl (World.ownsRow_made w #[] 0 (Nat.le_refl _) (by simp [maxLen]) rfl) ad xs.length c xs rfl (by omega) hc h1 (by unfold maxLen; omega) (by omega) (by simp) ?_; intro v' w' hown hg _)
    go_ret
    have hr := Row.of_owns hown
    exact ⟨_, rfl, by simpa using hr, fun k hk => ⟨(hown.lt k hk).1, hr.lt hk⟩, ((Chg.refl NoB w).alloc _).grown hg (fun k hk => .inr (Nat.le_of_eq (by simpa [Value.ownBlock] using hk)))⟩

set_option maxHeartbeats 1000000 in
set_option maxRecDepth 100000 in
theorem delN (g n c i : Nat) (vi vj : Int) (xs : List Value) (w : World) (h : Row w 48 (.slice (some ⟨g, 0, none⟩) n c) xs) (hi : i < xs.length) (hvi : vi = i) (hvj : vj = (i : Int) + 1)
    (h1 : ∀ u ∈ xs, u.oneCell' = true) :
    Calls Try.prog 53 #[.slice (some ⟨g, 0, none⟩) n c, .int .i64 vi, .int .i64 vj] w fun e w' =>
      e = .returned (.slice (some ⟨g, 0, none⟩) (n - 1) c) ∧ Row w' 48 (.slice (some ⟨g, 0, none⟩) (n - 1) c) (xs.take i ++ xs.drop (i + 1)) ∧ Chg (fun k => k = g) w w' := by
  obtain ⟨hn, hnc, hc63⟩ := h.cap_le
  unfold maxLen at hc63
  obtain ⟨_, hg, _, hcell, hfz, _⟩ := h.at (by omega)
  cases hg
  obtain ⟨i0, hi0, hz0, hz1, hz2⟩ := info_parts info48
  have hv0 := zero48
  obtain ⟨news, hnews⟩ : ∃ news, news = xs.drop (i + 1) := ⟨_, rfl⟩
  have hlen : news.length = n - (i + 1) := by rw [hnews]; simp; omega
  have hnl : Hid (news = xs.drop (i + 1)) := hnews
  obtain ⟨A, hA, hsrc⟩ : ∃ A : Addr, (if c = i + 1 then some (⟨g, 0, none⟩ : Addr) else some ⟨g, i + 1, none⟩) = some A ∧ Hid (∀ t u, news[t]? = some u → w.drew.cell? (A.add t) = some u) := by
    by_cases hci : c = i + 1
    · refine ⟨⟨g, 0, none⟩, by simp [hci], fun t u hu => ?_⟩
      have h0 : news.length = 0 := by rw [hlen]; omega
      rw [List.length_eq_zero_iff.1 h0] at hu
      simp at hu
    · refine ⟨⟨g, i + 1, none⟩, by simp [hci], fun t u hu => ?_⟩
      rw [hnews, List.getElem?_drop] at hu
      rw [Addr.add_lit]
      exact hcell _ _ hu
  have hsome : ∀ j, j < n → (w.cell? ⟨g, j, none⟩).isSome = true := fun j hj => by rw [hcell j _ (List.getElem?_eq_getElem (by omega))]; rfl
  have s1 : Hid (news.length = (n - (i + 1)) * 1) := by show _ = _; rw [Nat.mul_one]; exact hlen
  have s2 : Hid (∀ u ∈ news, u.oneCell' = true) := fun u hu => h1 u (List.mem_of_mem_drop (by rw [← hnews]; exact hu))
  have s3 : Hid (∀ t, t < news.length → (w.drew.cell? ⟨g, 0 + i * 1 + t, none⟩).isSome = true ∧ w.drew.frozen? ⟨g, 0 + i * 1 + t, none⟩ = false) := by
    intro t ht
    rw [hlen] at ht
    rw [Nat.mul_one, Nat.zero_add]
    exact ⟨hsome (i + t) (by omega), hfz (i + t)⟩
  have hR0 : Row w.drew 48 (.slice (some ⟨g, 0, none⟩) n c) xs := h
  have hR1 := hR0.setCells_in i news (by rw [hlen]; omega)
  obtain ⟨W1, hW1⟩ : ∃ W1, W1 = w.drew.setCells g (0 + i * 1) news := ⟨_, rfl⟩
  have hW1' : W1 = w.drew.setCells g i news := by rw [hW1]; simp
  rw [← hW1'] at hR1
  have hC1 : Chg (fun k => k = g) w W1 := by rw [hW1']; exact (Chg.refl _ w).drew.setCells g i news (.inl rfl)
  have hl1 : (xs.take i ++ news ++ xs.drop (i + news.length)).length = n := by simp [hlen]; omega
  obtain ⟨_, hg1, _, hcell1, hfz1, _⟩ := hR1.at (by omega)
  cases hg1
  have hn1 : i + (n - (i + 1)) = n - 1 := by omega
  have hcl : ∀ ty, (Builtin.clear_ #[52] ty #[.slice (some ⟨g, n - 1, none⟩) (n - (n - 1)) (c - (n - 1))]).run Try.prog W1 = .ok (.tuple #[]) (W1.setCells g (n - 1) (List.replicate (n - (n - 1)) (.pointer none))) :=
    fun ty => Lib.run_clear_slice W1 _ _ ty _ Try.underlying52 hv0 rfl rfl g (n - 1) _ _ (by omega) (fun t ht => by rw [hcell1 _ _ (List.getElem?_eq_getElem (by omega))]; rfl) (fun t ht => hfz1 _)
  have hR2 := ((hR1.cut (n - 1) (by omega)).setCells_out (n - 1) (List.replicate (n - (n - 1)) (.pointer none)) (Nat.le_refl _) (by simp; omega))
  have e2 : (xs.take i ++ news ++ xs.drop (i + news.length)).take (n - 1) = xs.take i ++ xs.drop (i + 1) := by
    rw [List.take_append_of_le_length (by simp [hlen]; omega), List.take_of_length_le (by simp [hlen]; omega), hnews]
  rw [e2] at hR2
  have hR2' := Hid.mk' hR2
  have hC2 := Hid.mk' (hC1.setCells g (n - 1) (List.replicate (n - (n - 1)) (.pointer none)) (.inl rfl))
  have hW : Hid (W1 = w.drew.setCells g (0 + i * 1) news) := hW1
  have hic : i ≤ c := by omega
  have hjc : i + 1 ≤ c := by omega
  have hjn : i + 1 ≤ n := by omega
  have hne : ¬ c = n - 1 := by omega
  have hn1' := Hid.mk' hn1
  have b1 : (0 : Int) ≤ (i : Int) + 1 := by omega
  have b2 : (i : Int) + 1 ≤ (n : Int) := by omega
  have b3 : ((i : Int) + 1).toNat = i + 1 := by omega
  have b4 : ¬ ((i : Int) = (i : Int) + 1) := by omega
  subst hvi hvj
  clear hW1 hW1' hR1 hR2 e2 hC1 hl1 hcell1 hfz1 hR0 hsome hnews hlen hn hcell hfz hn1 h h1
  go_enter Try.func53, Try.ntmps53
  go_wp2_with fail
  go_region_law (refine step_append_room rfl (.tmp 22) (.tmp 25) 52 rfl 48 i0 1 Try.underlying52 hi0 hz1 g 0 i c (by simp [Act.eval, Act.put]) A (n - (i + 1)) (c - (i + 1)) news (by simp [Act.eval, Act.put]) s1.out hsrc.out s2.out (by omega) s3.out ?_; rw [← hW.out, hn1'.out])
  go_wp2
  go_ret
  exact ⟨rfl, hR2'.out, hC2.out⟩

set_option maxHeartbeats 1000000 in
set_option maxRecDepth 100000 in
theorem insEndN (v : Value) (vi : Int) (vb : Nat) (x : Value) (xs : List Value) (w : World) (h : Row w 48 v xs) (hvi : vi = xs.length) (hx : Row w 48 (.slice (some ⟨vb, 0, none⟩) 1 1) [x]) (h1 : x.oneCell' = true) (hb : xs.length ≤ 1048576) :
    Calls Try.prog 48 #[v, .int .i64 vi, .slice (some ⟨vb, 0, none⟩) 1 1] w fun e w' =>
      ∃ v', e = .returned v' ∧ Row w' 48 v' (xs ++ [x]) ∧ (∀ k, own v' k → own v k ∨ (w.heap.size ≤ k ∧ k < w'.heap.size)) ∧ Chg (own v) w w' := by
  obtain ⟨a, c, rfl⟩ := h.form
  obtain ⟨-, hnc, hc63⟩ := h.cap_le
  unfold maxLen at hc63
  subst hvi
  have hH := Hid.mk' h
  have hX := Hid.mk' hx
  have hne : (((xs.length : Nat) : Int) == ((xs.length : Nat) : Int)) = true := by simp
  clear h hx
  by_cases hcc : c = xs.length
  all_goals
    go_enter Try.func48, Try.ntmps48
    go_wp2_with (at_builtin; refine wpList_append_row _ rfl _ _ 52 48 (.pointer none) 8 rfl Try.underlying52 info48 rfl (.slice a xs.length c) (.slice (some ⟨vb, 0, none⟩) 1 1) xs [x] rfl rfl hH.out hX.out (by simp [h1]) (by simp; omega) (by simp; omega) ?_; intro v' w' hr ho hc)
    go_ret
    exact ⟨_, rfl, hr, ho, hc⟩

set_option maxHeartbeats 4000000 in
set_option maxRecDepth 100000 in
theorem insShiftN (g n c : Nat) (i : Nat) (vi : Int) (vb : Nat) (x : Value) (xs : List Value) (w : World) (h : Row w 48 (.slice (some ⟨g, 0, none⟩) n c) xs) (hi : i < n) (hvi : vi = i) (hroom : n + 1 ≤ c)
    (hx : Row w 48 (.slice (some ⟨vb, 0, none⟩) 1 1) [x]) (hvb : vb ≠ g) (h1x : x.oneCell' = true) (h1c : ∀ u ∈ xs, u.oneCell' = true) :
    Calls Try.prog 48 #[.slice (some ⟨g, 0, none⟩) n c, .int .i64 vi, .slice (some ⟨vb, 0, none⟩) 1 1] w fun e w' =>
      e = .returned (.slice (some ⟨g, 0, none⟩) (n + 1) c) ∧ Row w' 48 (.slice (some ⟨g, 0, none⟩) (n + 1) c) (xs.take i ++ x :: xs.drop i) ∧ Chg (fun k => k = g) w w' := by
  obtain ⟨hn, hnc, hc63⟩ := h.cap_le
  unfold maxLen at hc63
  subst hvi
  obtain ⟨_, hg, _, hcell, hfz, hgw⟩ := h.at (by omega)
  cases hg
  obtain ⟨_, hgx, _, hcx, hfx, hvw⟩ := hx.at (by simp)
  cases hgx
  have hx0 := hcx 0 x rfl
  -- the row as it lies
  rcases h with ⟨h0, _⟩ | ⟨g', cap, cur, h0, hg1, hg2, hg3, hg4, hg5⟩
  · simp at h0
  simp only [Value.slice.injEq, Option.some.injEq, Addr.mk.injEq, and_true] at h0
  obtain ⟨rfl, -, rfl⟩ := h0
  rcases hx with ⟨h0, _⟩ | ⟨gx, capx, curx, h0, hx1, hx2, hx3, hx4, hx5⟩
  · simp at h0
  simp only [Value.slice.injEq, Option.some.injEq, Addr.mk.injEq, and_true] at h0
  obtain ⟨rfl, -, rfl⟩ := h0
  have hspare : ∀ j, j < c → (w.cell? ⟨g, j, none⟩).isSome = true := fun j hj => by
    rw [cell_of_row w g j cur 48 (0, 0) hg1, Array.getElem?_eq_getElem (by omega)]; rfl
  have hsa : w.shape? vb = some (48, 1) := by simp [World.shape?, hx1, hx4]
  have hsb : w.shape? g = some (48, c) := by simp [World.shape?, hg1, hg4]
  have hsz : (Try.prog.info? 48).map (·.size) = some 1 := by
    obtain ⟨i0, hi0, _, hs0, _⟩ := info_parts info48
    rw [hi0]; simp [hs0]
  have hszS : ∀ w, (Go.sizeOf 48).run Try.prog w = .ok 1 w := fun w => by kernel_rfl
  have hov : ∀ lb cb, (callFunc 58 #[.slice (some ⟨vb, 0, none⟩) 1 1, .slice (some ⟨g, i + 1, none⟩) lb cb]).run Try.prog w = .ok (.value (.bool false)) w := fun lb cb => by
    rw [run_callFunc_extern Try.func58 (by kernel_rfl) (by kernel_rfl) (by kernel_rfl) (e := Extern.SlicesOverlaps.overlaps #[52, 52] #[4]) (by kernel_rfl),
      Lib.run_overlaps_apart w 52 4 48 Try.underlying52 1 hszS ⟨vb, 0, none⟩ ⟨g, i + 1, none⟩ 1 1 lb cb hvb 48 48 1 c hsa hsb (by omega) (hfx 0) (hfx 1)]
    rfl
  have hdl : (xs.drop i).length = n - i := by rw [List.length_drop]; omega
  have hcp1 : ∀ ty dc sc, (Builtin.copy_ #[52, 52] ty #[.slice (some ⟨g, i + 1, none⟩) (n - i) dc, .slice (some ⟨g, i, none⟩) (n + 1 - i) sc]).run Try.prog w.drew = .ok (goInt (xs.drop i).length) (w.drew.setCells g (i + 1) (xs.drop i)) := fun ty dc sc =>
    run_copy_cells w.drew _ _ ty 48 g (i + 1) (n - i) dc ⟨g, i, none⟩ (n + 1 - i) sc (xs.drop i) Try.underlying52 hsz (by rw [hdl]; simp only [Nat.min_def]; split <;> omega)
      (fun j v hj => by rw [Addr.add_lit]; exact hcell (i + j) v (by rwa [List.getElem?_drop] at hj))
      (fun j hj => hspare _ (by omega)) (fun j hj => hfz _) (fun v hv => h1c v (List.mem_of_mem_drop hv))
  obtain ⟨W1, hW1⟩ : ∃ W1, W1 = w.drew.setCells g (i + 1) (xs.drop i) := ⟨_, rfl⟩
  have hR1 : Row W1 48 (.slice (some ⟨g, 0, none⟩) (n + 1) c) (xs.take i ++ (xs[i]'(by omega)) :: xs.drop i) := by
    have hR0 : Row w.drew 48 (.slice (some ⟨g, 0, none⟩) n c) xs := .inr ⟨g, c, cur, by rw [hn], hg1, by omega, hg3, hg4, hg5⟩
    have := hR0.setCells (i + 1) (xs.drop i) (by omega) (by omega) (by omega)
    rw [← hW1] at this
    have e1 : i + 1 + (xs.drop i).length = n + 1 := by omega
    rw [e1, List.take_succ_eq_append_getElem (by omega), List.append_assoc, List.singleton_append] at this
    exact this
  obtain ⟨_, hgr, _, hcell1, hfz1, _⟩ := hR1.at (by simp; omega)
  cases hgr
  have hl1 : (xs.take i ++ (xs[i]'(by omega)) :: xs.drop i).length = n + 1 := by simp; omega
  have hC1 : Chg (fun k => k = g) w W1 := by rw [hW1]; exact (Chg.refl _ w).drew.setCells g _ _ (.inl rfl)
  have hcp2 : ∀ ty dc, (Builtin.copy_ #[52, 52] ty #[.slice (some ⟨g, i, none⟩) (n + 1 - i) dc, .slice (some ⟨vb, 0, none⟩) 1 1]).run Try.prog W1 = .ok (goInt [x].length) (W1.setCells g i [x]) := fun ty dc =>
    run_copy_cells W1 _ _ ty 48 g i (n + 1 - i) dc ⟨vb, 0, none⟩ 1 1 [x] Try.underlying52 hsz (by simp only [Nat.min_def, List.length_singleton]; split <;> omega)
      (fun j v hj => by
        rw [Addr.add_lit, Nat.zero_add]
        exact hC1.cell (by exact hvb) (hcx j v hj))
      (fun j hj => by rw [hcell1 _ _ (List.getElem?_eq_getElem (by simp at hj; omega))]; rfl) (fun j hj => hfz1 _) (by simpa using h1x)
  have hR2 := hR1.setCells_in i [x] (by simp; omega)
  have e2 : (xs.take i ++ (xs[i]'(by omega)) :: xs.drop i).take i ++ [x] ++ (xs.take i ++ (xs[i]'(by omega)) :: xs.drop i).drop (i + [x].length) = xs.take i ++ x :: xs.drop i := by
    have hti : (xs.take i).length = i := by simp; omega
    rw [List.take_append_of_le_length (by omega), List.take_of_length_le (by omega), List.drop_append, hti, List.drop_of_length_le (by simp; omega)]
    simp
  rw [e2] at hR2
  have hR2' := Hid.mk' hR2
  have hC2 := Hid.mk' (hC1.setCells g i [x] (.inl rfl))
  rw [← hW1] at hcp1
  have hw1 : IntKind.i64.wrap ((i : Int) + (1 : Int)) = (i : Int) + (1 : Int) := by rw [IntKind.wrap_i64]; omega
  have hb1 : (0 : Int) ≤ (i : Int) + (1 : Int) := by omega
  have hin : i ≤ n := by omega
  have htn : ((i : Int) + (1 : Int)).toNat = i + 1 := by omega
  have hb2 : ¬ (c = i + 1) := by omega
  have hb3 : (i : Int) ≤ (n : Int) + (1 : Int) := by omega
  have hb4 : ¬ (c = i) := by omega
  have hz2 : ¬ ((i : Int) = (n : Int)) := by omega
  clear hR1 hR2 e2 hC1 hl1 hcell1 hfz1 hW1 hn hg1 hg2 hg3 hg4 hg5 hx1 hx2 hx3 hx4 hx5 hdl hspare hsa hsb hcell hfz hcx hfx hx0 hsz hszS h1c
  go_enter Try.func48, Try.ntmps48
  go_wp2_with (simp only [hov])
  go_region_law (refine Lib2.step_copy_run rfl _ _ 52 52 rfl _ _ (by simp [Act.eval, Act.put]) (by simp [Act.eval, Act.put]) (hcp1 _ _ _) ?_)
  go_wp2_with (at_builtin; refine Lib2.wpList_copy_run _ rfl _ _ 52 52 rfl _ _ rfl rfl (hcp2 _ _) ?_)
  go_ret
  exact ⟨rfl, hR2'.out, hC2.out⟩

set_option maxHeartbeats 4000000 in
set_option maxRecDepth 100000 in
theorem insGrowN (g n c : Nat) (i : Nat) (vi : Int) (vb : Nat) (x : Value) (xs : List Value) (w : World) (h : Row w 48 (.slice (some ⟨g, 0, none⟩) n c) xs) (hi : i < n) (hvi : vi = i) (hroom : c < n + 1)
    (hx : Row w 48 (.slice (some ⟨vb, 0, none⟩) 1 1) [x]) (h1x : x.oneCell' = true) (h1c : ∀ u ∈ xs, u.oneCell' = true) (hbig : n ≤ 1048576) :
    Calls Try.prog 48 #[.slice (some ⟨g, 0, none⟩) n c, .int .i64 vi, .slice (some ⟨vb, 0, none⟩) 1 1] w fun e w' =>
      ∃ v', e = .returned v' ∧ Row w' 48 v' (xs.take i ++ x :: xs.drop i) ∧ (∀ k, own v' k → w.heap.size ≤ k ∧ k < w'.heap.size) ∧ Chg NoB w w' := by
  obtain ⟨hn, hnc, hc63⟩ := h.cap_le
  subst hvi
  obtain ⟨_, hg, _, hcell, hfz, hgw⟩ := h.at (by omega)
  cases hg
  obtain ⟨_, hgx, _, hcx, hfx, hvw⟩ := hx.at (by simp)
  cases hgx
  obtain ⟨i0, hi0, hz0, hzs, hzb⟩ := info_parts info48
  have hz2 : ¬ ((i : Int) = (n : Int)) := by omega
  have hz3 : (c : Int) < (n : Int) + (1 : Int) := by omega
  have hsz : (Try.prog.info? 48).map (·.size) = some 1 := by rw [hi0]; simp [hzs]
  have hkk : (n : Int) + (1 : Int) - (i : Int) = ((n + 1 - i : Nat) : Int) := by omega
  have hik : i + (n + 1 - i) = n + 1 := by omega
  have hold : (Builtin.firstCells i0.size i (.slice (some ⟨g, 0, none⟩) i c)).run Try.prog w.drew = .ok (xs.take i).toArray w.drew := by
    rw [hzs]
    exact run_firstCells_some w.drew 1 i ⟨g, 0, none⟩ i c (xs.take i) (by rw [List.length_take]; omega) (fun j v hj => by
      rw [Addr.add_lit, Nat.zero_add]
      rw [List.getElem?_take] at hj
      split at hj
      · exact hcell j v hj
      · cases hj)
  have hrz : ∀ ty, (Builtin.append_ #[52, 3] ty #[.slice (some ⟨g, 0, none⟩) i c, .int .i64 ((n : Int) + (1 : Int) - (i : Int))]).run Try.prog w =
      .ok (.slice (some ⟨w.heap.size, 0, none⟩) (n + 1) (grownCap w (n + 1) c 48)) (w.drew.alloc (.cells ((xs.take i).toArray ++ Builtin.zeroCells (.pointer none : Value).cells (n + 1 - i) ++ Builtin.zeroCells (.pointer none : Value).cells (grownCap w (n + 1) c 48 - (n + 1))) 48)) := fun ty => by
    have h := Lib.run_append_grow_zeros w 52 3 ty 48 i0 _ .i64 .i64 Try.underlying52 Try.underlying3 hi0 hz0 (some ⟨g, 0, none⟩) i c (xs.take i) hold (n + 1 - i) (by omega) (by omega) (by omega) (by omega) (by rw [hzb]; omega) (by rw [hzb, hik]; exact growslice_fits hroom (by omega))
    rw [hik] at h
    rw [hkk]
    exact h
  obtain ⟨G, hG⟩ : ∃ G, G = grownCap w (n + 1) c 48 := ⟨_, rfl⟩
  rw [← hG] at hrz
  have hGn : n + 1 ≤ G := by rw [hG]; exact grownCap_ge w _ _ _
  have hG63 : G ≤ maxLen := by
    have := grownCap_le_maxLen w (n + 1) c 48 (by unfold maxLen; omega)
    rw [← hG] at this
    exact this
  obtain ⟨W1, hW1⟩ : ∃ W1, W1 = w.drew.alloc (.cells ((xs.take i).toArray ++ Builtin.zeroCells (.pointer none : Value).cells (n + 1 - i) ++ Builtin.zeroCells (.pointer none : Value).cells (G - (n + 1))) 48) := ⟨_, rfl⟩
  rw [← hW1] at hrz
  have hR1 : Row W1 48 (.slice (some ⟨w.heap.size, 0, none⟩) (n + 1) G) (xs.take i ++ (Builtin.zeroCells (.pointer none : Value).cells (n + 1 - i)).toList) := by
    have := Row.made w.drew 48 (xs.take i ++ (Builtin.zeroCells (.pointer none : Value).cells (n + 1 - i)).toList) G (Builtin.zeroCells (.pointer none : Value).cells (G - (n + 1))).toList (by simp [size_zeroCells, Value.cells]; omega) hG63
    have e1 : (xs.take i ++ (Builtin.zeroCells (.pointer none : Value).cells (n + 1 - i)).toList).length = n + 1 := by simp [size_zeroCells, Value.cells]; omega
    have e2 : (xs.take i ++ (Builtin.zeroCells (.pointer none : Value).cells (n + 1 - i)).toList ++ (Builtin.zeroCells (.pointer none : Value).cells (G - (n + 1))).toList).toArray = (xs.take i).toArray ++ Builtin.zeroCells (.pointer none : Value).cells (n + 1 - i) ++ Builtin.zeroCells (.pointer none : Value).cells (G - (n + 1)) := by
      apply Array.ext'; simp
    rw [e1, e2, ← hW1] at this
    exact this
  have hC1 : Chg NoB w W1 := by rw [hW1]; exact (Chg.refl _ w).drew.alloc _
  obtain ⟨N, hN⟩ : ∃ N, N = w.heap.size := ⟨_, rfl⟩
  rw [← hN] at hR1 hrz
  have hgN : g ≠ N := by omega
  have hvN : vb ≠ N := by omega
  have hNW : N < W1.heap.size := hR1.lt (by simp [own, Value.ownBlock])
  have hsnd : ∀ (W : World) (ys : List Value) (h : Row W 48 (.slice (some ⟨N, 0, none⟩) (n + 1) G) ys) (j : Nat), j < n + 1 → (W.cell? ⟨N, j, none⟩).isSome = true ∧ W.frozen? ⟨N, j, none⟩ = false := fun W ys h j hj => by
    obtain ⟨hl, _⟩ := h.cap_le
    obtain ⟨_, hg, _, hc, hf, _⟩ := h.at (by omega)
    cases hg
    exact ⟨by rw [hc j _ (List.getElem?_eq_getElem (by omega))]; rfl, hf j⟩
  obtain ⟨W2, hW2⟩ : ∃ W2, W2 = W1.setCells N i [x] := ⟨_, rfl⟩
  have hcpA : ∀ ty dc, (Builtin.copy_ #[52, 52] ty #[.slice (some ⟨N, i, none⟩) (n + 1 - i) dc, .slice (some ⟨vb, 0, none⟩) 1 1]).run Try.prog W1 = .ok (goInt [x].length) W2 := fun ty dc => by
    rw [hW2]
    exact run_copy_cells W1 _ _ ty 48 N i (n + 1 - i) dc ⟨vb, 0, none⟩ 1 1 [x] Try.underlying52 hsz (by simp only [Nat.min_def, List.length_singleton]; split <;> omega)
      (fun j v hj => by rw [Addr.add_lit, Nat.zero_add]; exact hC1.cell (fun h => h) (hcx j v hj))
      (fun j hj => (hsnd W1 _ hR1 _ (by simp at hj; omega)).1) (fun j hj => (hsnd W1 _ hR1 _ (by simp at hj; omega)).2) (by simpa using h1x)
  have hR2 := hR1.setCells_in i [x] (by simp; omega)
  rw [← hW2] at hR2
  have hC2 : Chg NoB w W2 := by rw [hW2]; exact hC1.setCells N i [x] (.inr (by omega))
  obtain ⟨W3, hW3⟩ : ∃ W3, W3 = W2.drew.setCells N (i + 1) (xs.drop i) := ⟨_, rfl⟩
  have hdl : (xs.drop i).length = n - i := by rw [List.length_drop]; omega
  have hcpB : ∀ ty dc sc, (Builtin.copy_ #[52, 52] ty #[.slice (some ⟨N, i + 1, none⟩) (n + 1 - (i + 1)) dc, .slice (some ⟨g, i, none⟩) (n - i) sc]).run Try.prog W2.drew = .ok (goInt (xs.drop i).length) W3 := fun ty dc sc => by
    rw [hW3]
    exact run_copy_cells W2.drew _ _ ty 48 N (i + 1) (n + 1 - (i + 1)) dc ⟨g, i, none⟩ (n - i) sc (xs.drop i) Try.underlying52 hsz (by rw [hdl]; simp only [Nat.min_def]; split <;> omega)
      (fun j v hj => by
        rw [Addr.add_lit]
        exact hC2.cell (fun h => h) (hcell (i + j) v (by rwa [List.getElem?_drop] at hj)))
      (fun j hj => (hsnd W2 _ hR2 _ (by omega)).1) (fun j hj => (hsnd W2 _ hR2 _ (by omega)).2) (fun v hv => h1c v (List.mem_of_mem_drop hv))
  have hR2d : Row W2.drew 48 (.slice (some ⟨N, 0, none⟩) (n + 1) G) _ := hR2
  have hR3 := hR2d.setCells (i + 1) (xs.drop i) (by omega) (by omega) (by omega)
  rw [← hW3, hdl, show i + 1 + (n - i) = n + 1 by omega] at hR3
  have e3 : ((xs.take i ++ (Builtin.zeroCells (.pointer none : Value).cells (n + 1 - i)).toList).take i ++ [x] ++ (xs.take i ++ (Builtin.zeroCells (.pointer none : Value).cells (n + 1 - i)).toList).drop (i + [x].length)).take (i + 1) ++ xs.drop i = xs.take i ++ x :: xs.drop i := by
    have hti : (xs.take i).length = i := by simp; omega
    rw [List.take_append_of_le_length (l₁ := xs.take i) (by omega), List.take_of_length_le (by omega : (xs.take i).length ≤ i), List.take_append_of_le_length (by simp; omega), List.take_of_length_le (by simp; omega)]
    simp
  rw [e3] at hR3
  have hC3 : Chg NoB w W3 := by rw [hW3]; exact hC2.drew.setCells N _ _ (.inr (by omega))
  have hNW3 : N < W3.heap.size := hR3.lt (by simp [own, Value.ownBlock])
  have fR := Hid.mk' hR3
  have fC := Hid.mk' hC3
  have fN := Hid.mk' hN
  unfold maxLen at hc63 hG63
  have hGi : ¬ (G = i) := by omega
  have hGim : ¬ (G = i + 1) := by omega
  have hci : ¬ (c = i) := by omega
  have hw1 : IntKind.i64.wrap ((i : Int) + (1 : Int)) = (i : Int) + (1 : Int) := by rw [IntKind.wrap_i64]; omega
  have hb1 : (0 : Int) ≤ (i : Int) + (1 : Int) := by omega
  have hin : i ≤ n := by omega
  have htn : ((i : Int) + (1 : Int)).toNat = i + 1 := by omega
  have hb3 : (i : Int) ≤ (n : Int) := by omega
  clear hkk hik hold hR1 hR2 hR2d hR3 hC1 hC2 hC3 e3 hdl hsnd hcell hfz hcx hfx hG hW1 hW2 hW3 hN hn h hx hNW hsz hz0 hi0 hzs hzb
  go_enter Try.func48, Try.ntmps48
  go_wp2_with (first
    | (at_builtin; refine Lib.wpList_append_run _ rfl _ _ 52 3 rfl _ _ rfl rfl _ _ (hrz _) ?_)
    | (at_builtin; refine Lib2.wpList_copy_run _ rfl _ _ 52 52 rfl _ _ rfl rfl (hcpA _ _) ?_))
  go_region_law (refine Lib2.step_copy_run rfl _ _ 52 52 rfl (.slice (some ⟨N, i + 1, none⟩) (n + 1 - (i + 1)) (G - (i + 1))) (.slice (some ⟨g, i, none⟩) (n - i) (c - i)) (by simp [Act.eval, Act.put]) (by simp [Act.eval, Act.put]) (hcpB _ _ _) ?_)
  go_wp2
  go_ret
  exact ⟨.slice (some ⟨N, 0, none⟩) (n + 1) G, rfl, fR.out, fun k hk => by simp only [own, Value.ownBlock, Option.some.injEq] at hk; subst hk; exact ⟨by rw [fN.out]; exact Nat.le_refl _, hNW3⟩, fC.out⟩

/-- slices.Insert of one element. -/
theorem insN (v : Value) (i : Nat) (vi : Int) (vb : Nat) (x : Value) (xs : List Value) (w : World) (h : Row w 48 v xs) (hi : i ≤ xs.length) (hvi : vi = i) (hx : Row w 48 (.slice (some ⟨vb, 0, none⟩) 1 1) [x]) (hvb : ¬ own v vb)
    (h1x : x.oneCell' = true) (h1c : ∀ u ∈ xs, u.oneCell' = true) (hb : xs.length ≤ 1048576) :
    Calls Try.prog 48 #[v, .int .i64 vi, .slice (some ⟨vb, 0, none⟩) 1 1] w fun e w' =>
      ∃ v', e = .returned v' ∧ Row w' 48 v' (xs.take i ++ x :: xs.drop i) ∧ (∀ k, own v' k → own v k ∨ (w.heap.size ≤ k ∧ k < w'.heap.size)) ∧ Chg (own v) w w' := by
  by_cases he : i = xs.length
  · subst he
    refine (insEndN v vi vb x xs w h hvi hx h1x hb).mono ?_
    rintro e w' ⟨v', rfl, h1, h2, h3⟩
    exact ⟨v', rfl, by simpa using h1, h2, h3⟩
  · obtain ⟨a, c, rfl⟩ := h.form
    obtain ⟨g, rfl, hog, _⟩ := h.at (by omega)
    have hs : (fun k => k = g) = own (.slice (some ⟨g, 0, none⟩) xs.length c) := by
      funext k; exact propext (own_slice g xs.length c 0 none k).symm
    by_cases hr : xs.length + 1 ≤ c
    · refine (insShiftN g xs.length c i vi vb x xs w h (by omega) hvi hr hx (fun h => hvb (h ▸ hog)) h1x h1c).mono ?_
      rintro e w' ⟨rfl, h1, h2⟩
      exact ⟨_, rfl, h1, fun k hk => .inl (by rwa [own_slice] at hk ⊢), hs ▸ h2⟩
    · refine (insGrowN g xs.length c i vi vb x xs w h (by omega) hvi (by omega) hx h1x h1c hb).mono ?_
      rintro e w' ⟨v', rfl, h1, h2, h3⟩
      exact ⟨v', rfl, h1, fun k hk => .inr (h2 k hk), h3.mono fun _ h => h.elim⟩

end Go.Proofs.Ytamnmoejjjaegaa
