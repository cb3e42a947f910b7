/- What step returns: tree and map agree on every call. Conditions: at most 900 keys. -/
import Derived.Test.YtamnmoejjjaegaaMS
set_option linter.unusedVariables false
set_option linter.unusedSimpArgs false
namespace Go.Proofs.Ytamnmoejjjaegaa
open Go Go.RowKit Go.Proofs.YtamnmoejjjaegaaW.PrintLast

/-- What a step leaves: what the caller had laid behind lim is untouched, and may be written afterwards. -/
def StepEnd (Q : Nat → Prop) (w w' : World) (lim d : Nat) (bad : Bool) (pp : Option Addr) (mv : Value) (L : List E) : Prop :=
  Chg (fun j => Q j ∧ j < lim) w w' ∧ MapV w' mv bad L ∧ ∀ (T : Nat → Prop) w2, (∀ j, T j → lim ≤ j ∧ j < w.heap.size) → Chg T w' w2 → PSt Q w2 w2.heap.size d bad pp mv L

set_option maxHeartbeats 8000000 in
set_option maxRecDepth 100000 in
theorem step20_0 (Q : Nat → Prop) (w : World) (lim d : Nat) (bad : Bool) (pp : Option Addr) (mv : Value) (L : List E) (key : ByteArray) (val : Int) (eq : Bool) (h : PSt Q w lim d bad pp mv L) (hl : L.length ≤ 900) :
    Calls Try.prog 20 #[.pointer pp, mv, .agg #[.int .i64 0, .string key, .int .i64 val, .bool eq]] w fun e w' => ∃ pp' mv' L', e = .returned (.tuple #[.pointer pp', mv', .bool true]) ∧ StepEnd Q w w' lim d bad pp' mv' L' ∧ L'.length ≤ L.length + 1 := by
  have hmo := h.map.open
  obtain ⟨ak, nk, ck, av, nv, cv, rfl, -⟩ := hmo
  obtain ⟨W1, hW1⟩ : ∃ W1, W1 = w.alloc (.cells #[.bool bad, .slice ak nk ck, .slice av nv cv] 42) := ⟨_, rfl⟩
  have k1 : Chg NoB w W1 := by rw [hW1]; exact (Chg.refl _ _).alloc _
  obtain ⟨W2, hW2⟩ : ∃ W2, W2 = W1.alloc (.cells #[.int .i64 0, .string key, .int .i64 val, .bool eq] 28) := ⟨_, rfl⟩
  have k2 : Chg NoB W1 W2 := by rw [hW2]; exact (Chg.refl _ _).alloc _
  obtain ⟨W3, hW3⟩ : ∃ W3, W3 = W2.alloc (.cells #[.bool false, .slice none 0 0, .slice none 0 0] 42) := ⟨_, rfl⟩
  have k3 : Chg NoB W2 W3 := by rw [hW3]; exact (Chg.refl _ _).alloc _
  obtain ⟨b, hbb⟩ : ∃ b, b = w.heap.size := ⟨_, rfl⟩
  have z1 : W1.heap.size = b + 1 := by rw [hW1, hbb]; simp
  have z2 : W2.heap.size = b + 2 := by rw [hW2]; simp [z1]
  have z3 : W3.heap.size = b + 3 := by rw [hW3]; simp [z2]
  have hb1 : W1.heap[b]? = some (.cells #[.bool bad, .slice ak nk ck, .slice av nv cv] 42 (0, 0)) := by rw [hW1, hbb]; exact heap_alloc_new _ _
  have hs1 : W2.heap[b + 1]? = some (.cells #[.int .i64 0, .string key, .int .i64 val, .bool eq] 28 (0, 0)) := by rw [hW2, ← z1]; exact heap_alloc_new _ _
  have hz1 : W3.heap[b + 2]? = some (.cells #[.bool false, .slice none 0 0, .slice none 0 0] 42 (0, 0)) := by rw [hW3, ← z2]; exact heap_alloc_new _ _
  have hb := Hid.mk' (k3.heap (fun h => h) (k2.heap (fun h => h) hb1))
  have hs := Hid.mk' (k3.heap (fun h => h) hs1)
  have hz := Hid.mk' hz1
  have ps : Hid (PSt Q W3 lim d bad pp (.agg #[.bool bad, .slice ak nk ck, .slice av nv cv]) L) := h.chg ((k1.trans k2).trans k3)
  have k123 := Hid.mk' ((k1.trans k2).trans k3)
  have hlim : Hid (lim ≤ b) := by show _ ≤ _; rw [hbb]; exact h.2.2.2.1.1
  have hem := Hid.mk' h.empty
  have hW1' := Hid.mk' hW1
  have hW2' := Hid.mk' hW2
  have hW3' := Hid.mk' hW3
  have hbb' := Hid.mk' hbb
  have z3' := Hid.mk' z3
  clear h hW1 hW2 hW3 hbb k1 k2 k3 z1 z2 z3 hb1 hs1 hz1
  have m0 : W3.cell? ⟨b, 0, none⟩ = some (.bool bad) := by rw [cell_of_row W3 (b) 0 _ _ _ hb.out]; rfl
  have m1 : W3.cell? ⟨b, 1, none⟩ = some (.slice ak nk ck) := by rw [cell_of_row W3 (b) 1 _ _ _ hb.out]; rfl
  have m2 : W3.cell? ⟨b, 2, none⟩ = some (.slice av nv cv) := by rw [cell_of_row W3 (b) 2 _ _ _ hb.out]; rfl
  have s0 : W3.cell? ⟨b + 1, 0, none⟩ = some (.int .i64 0) := by rw [cell_of_row W3 (b + 1) 0 _ _ _ hs.out]; rfl
  have s1 : W3.cell? ⟨b + 1, 1, none⟩ = some (.string key) := by rw [cell_of_row W3 (b + 1) 1 _ _ _ hs.out]; rfl
  have s2 : W3.cell? ⟨b + 1, 2, none⟩ = some (.int .i64 val) := by rw [cell_of_row W3 (b + 1) 2 _ _ _ hs.out]; rfl
  have s3 : W3.cell? ⟨b + 1, 3, none⟩ = some (.bool eq) := by rw [cell_of_row W3 (b + 1) 3 _ _ _ hs.out]; rfl
  obtain ⟨o, ho⟩ : ∃ o, (getM key L).getD 0 = o := ⟨_, rfl⟩
  obtain ⟨f, hf⟩ : ∃ f, (getM key L).isSome = f := ⟨_, rfl⟩
  have ct := ps.out.put key val (by omega)
  rw [ho, hf] at ct
  have ct' := Hid.mk' ct
  have ho' := Hid.mk' ho
  have hf' := Hid.mk' hf
  clear ct ho hf
  go_enter Try.func20, Try.ntmps20
  go_wp2_with fail
  rw [← hW1'.out, ← hbb'.out, ← hW2'.out, ← hW3'.out]
  refine ct'.out.mono ?_
  rintro e w4 ⟨rfl, hm4, kl4, fin4⟩
  have hbw4 := Hid.mk' (kl4.heap (fun h => by have := h.2; have := hlim.out; omega) hb.out)
  have hsw4 := Hid.mk' (kl4.heap (fun h => by have := h.2; have := hlim.out; omega) hs.out)
  have hzw4 := Hid.mk' (kl4.heap (fun h => by have := h.2; have := hlim.out; omega) hz.out)
  have cm := hm4.put hem.out key val (by omega)
  rw [ho'.out, hf'.out] at cm
  have cm' := Hid.mk' cm
  have fin := Hid.mk' fin4
  have kl4' := Hid.mk' kl4
  clear m0 m1 m2 s0 s1 s2 s3 cm hm4 kl4 fin4 ct'
  have m0 : w4.cell? ⟨b, 0, none⟩ = some (.bool bad) := by rw [cell_of_row w4 (b) 0 _ _ _ hbw4.out]; rfl
  have m1 : w4.cell? ⟨b, 1, none⟩ = some (.slice ak nk ck) := by rw [cell_of_row w4 (b) 1 _ _ _ hbw4.out]; rfl
  have m2 : w4.cell? ⟨b, 2, none⟩ = some (.slice av nv cv) := by rw [cell_of_row w4 (b) 2 _ _ _ hbw4.out]; rfl
  have s0 : w4.cell? ⟨b + 1, 0, none⟩ = some (.int .i64 0) := by rw [cell_of_row w4 (b + 1) 0 _ _ _ hsw4.out]; rfl
  have s1 : w4.cell? ⟨b + 1, 1, none⟩ = some (.string key) := by rw [cell_of_row w4 (b + 1) 1 _ _ _ hsw4.out]; rfl
  have s2 : w4.cell? ⟨b + 1, 2, none⟩ = some (.int .i64 val) := by rw [cell_of_row w4 (b + 1) 2 _ _ _ hsw4.out]; rfl
  have s3 : w4.cell? ⟨b + 1, 3, none⟩ = some (.bool eq) := by rw [cell_of_row w4 (b + 1) 3 _ _ _ hsw4.out]; rfl
  go_wp2_with fail
  refine cm'.out.mono ?_
  rintro e w5 ⟨mv2, rfl, hm5, ho5, k5⟩
  obtain ⟨ak2, nk2, ck2, av2, nv2, cv2, rfl, -⟩ := hm5.open
  have hbw5 := Hid.mk' (k5.heap (fun h => h) hbw4.out)
  have hsw5 := Hid.mk' (k5.heap (fun h => h) hsw4.out)
  have hzw5 := Hid.mk' (k5.heap (fun h => h) hzw4.out)
  obtain ⟨W6, hW6⟩ : ∃ W6, W6 = w5.alloc (.cells #[.bool bad, .slice ak2 nk2 ck2, .slice av2 nv2 cv2] 42) := ⟨_, rfl⟩
  obtain ⟨g, hg⟩ : ∃ g, g = w5.heap.size := ⟨_, rfl⟩
  have k6 : Chg NoB w5 W6 := by rw [hW6]; exact (Chg.refl _ _).alloc _
  have hg6 : W6.heap[g]? = some (.cells #[.bool bad, .slice ak2 nk2 ck2, .slice av2 nv2 cv2] 42 (0, 0)) := by rw [hW6, hg]; exact heap_alloc_new _ _
  have hbW6 := Hid.mk' (k6.heap (fun h => h) hbw5.out)
  have hsW6 := Hid.mk' (k6.heap (fun h => h) hsw5.out)
  have hzW6 := Hid.mk' (k6.heap (fun h => h) hzw5.out)
  have c0 : W6.cell? ⟨g, 0, none⟩ = some (.bool bad) := by rw [cell_of_row W6 (g) 0 _ _ _ hg6]; rfl
  have c1 : W6.cell? ⟨g, 1, none⟩ = some (.slice ak2 nk2 ck2) := by rw [cell_of_row W6 (g) 1 _ _ _ hg6]; rfl
  have c2 : W6.cell? ⟨g, 2, none⟩ = some (.slice av2 nv2 cv2) := by rw [cell_of_row W6 (g) 2 _ _ _ hg6]; rfl
  have y0 : W6.cell? ⟨b + 2, 0, none⟩ = some (.bool false) := by rw [cell_of_row W6 (b + 2) 0 _ _ _ hzW6.out]; rfl
  have y1 : W6.cell? ⟨b + 2, 1, none⟩ = some (.slice none 0 0) := by rw [cell_of_row W6 (b + 2) 1 _ _ _ hzW6.out]; rfl
  have y2 : W6.cell? ⟨b + 2, 2, none⟩ = some (.slice none 0 0) := by rw [cell_of_row W6 (b + 2) 2 _ _ _ hzW6.out]; rfl
  have z0 := frozen_of_row W6 (b + 2) 0 _ _ hzW6.out
  have z1 := frozen_of_row W6 (b + 2) 1 _ _ hzW6.out
  have z2 := frozen_of_row W6 (b + 2) 2 _ _ hzW6.out
  have k56 := Hid.mk' (k5.trans k6)
  have hm6 := Hid.mk' (hm5.chg k6)
  have ho5' := Hid.mk' ho5
  have hW6' := Hid.mk' hW6
  have hg' := Hid.mk' hg
  have t1 : (o == o) = true := by simp
  have t2 : (f == f) = true := by simp
  clear m0 m1 m2 s0 s1 s2 s3 k5 k6 hm5 ho5 hW6 hg hg6 cm'
  go_upto_region 5 with (fail)
  rw [← hW6'.out, ← hg'.out]
  refine start_ (n := 13) (S := fun w' => w'.cell? ⟨g, 0, none⟩ = some (.bool bad) ∧ w'.cell? ⟨g, 1, none⟩ = some (.slice ak2 nk2 ck2) ∧ w'.cell? ⟨g, 2, none⟩ = some (.slice av2 nv2 cv2)) (ds := [11]) #[false, false, false, false, false, false, false, false, false, false, false, false, false] (by kernel_rfl) rfl rfl ⟨c0, c1, c2⟩ (fun hHeld => ?_)
  refine pure_ (i := 0) (N := some 52) (v := ?_) (a' := ?_) #[true, false, false, false, false, false, false, false, false, false, false, false, false] rfl rfl (by kernel_rfl) (fun _ _ _ h => h) (Or.inl ⟨by rfl, ?_⟩) ?_ ?_
  rotate_left
  · intro w'
    go_simp
    with_reducible rfl
  rotate_left
  · simp only [Act.put, List.setIfInBounds_toArray, List.set_cons_zero, List.set_cons_succ, i64_w, i32_w]
    rfl
  refine pure_ (i := 2) (N := some 54) (v := ?_) (a' := ?_) #[true, false, true, false, false, false, false, false, false, false, false, false, false] rfl rfl (by kernel_rfl) (fun _ _ _ h => h) (Or.inl ⟨by rfl, ?_⟩) ?_ ?_
  rotate_left
  · intro w'
    go_simp
    with_reducible rfl
  rotate_left
  · simp only [Act.put, List.setIfInBounds_toArray, List.set_cons_zero, List.set_cons_succ, i64_w, i32_w]
    rfl
  refine pure_ (i := 3) (N := some 55) (v := ?_) (a' := ?_) #[true, false, true, true, false, false, false, false, false, false, false, false, false] rfl rfl (by kernel_rfl) (fun _ _ _ h => h) (Or.inl ⟨by rfl, ?_⟩) ?_ ?_
  rotate_left
  · intro w'
    go_simp
    with_reducible rfl
  rotate_left
  · simp only [Act.put, List.setIfInBounds_toArray, List.set_cons_zero, List.set_cons_succ, i64_w, i32_w]
    rfl
  refine pure_ (i := 4) (N := some 56) (v := ?_) (a' := ?_) #[true, false, true, true, true, false, false, false, false, false, false, false, false] rfl rfl (by kernel_rfl) (fun _ _ _ h => h) (Or.inl ⟨by rfl, ?_⟩) ?_ ?_
  rotate_left
  · intro w'
    go_simp
    with_reducible rfl
  rotate_left
  · simp only [Act.put, List.setIfInBounds_toArray, List.set_cons_zero, List.set_cons_succ, i64_w, i32_w]
    rfl
  refine pure_ (i := 5) (N := some 57) (v := ?_) (a' := ?_) #[true, false, true, true, true, true, false, false, false, false, false, false, false] rfl rfl (by kernel_rfl) (fun _ _ _ h => h) (Or.inl ⟨by rfl, ?_⟩) ?_ ?_
  rotate_left
  · intro w'
    go_simp
    with_reducible rfl
  rotate_left
  · simp only [Act.put, List.setIfInBounds_toArray, List.set_cons_zero, List.set_cons_succ, i64_w, i32_w]
    rfl
  refine pure_ (i := 6) (N := some 58) (v := ?_) (a' := ?_) #[true, false, true, true, true, true, true, false, false, false, false, false, false] rfl rfl (by kernel_rfl) (fun _ _ _ h => h) (Or.inl ⟨by rfl, ?_⟩) ?_ ?_
  rotate_left
  · intro w'
    go_simp
    with_reducible rfl
  rotate_left
  · simp only [Act.put, List.setIfInBounds_toArray, List.set_cons_zero, List.set_cons_succ, i64_w, i32_w]
    rfl
  refine pure_ (i := 7) (N := some 59) (v := ?_) (a' := ?_) #[true, false, true, true, true, true, true, true, false, false, false, false, false] rfl rfl (by kernel_rfl) (fun _ _ _ h => h) (Or.inl ⟨by rfl, ?_⟩) ?_ ?_
  rotate_left
  · intro w'
    go_simp
    with_reducible rfl
  rotate_left
  · simp only [Act.put, List.setIfInBounds_toArray, List.set_cons_zero, List.set_cons_succ, i64_w, i32_w]
    rfl
  refine pure_ (i := 8) (N := some 60) (v := ?_) (a' := ?_) #[true, false, true, true, true, true, true, true, true, false, false, false, false] rfl rfl (by kernel_rfl) (fun _ _ _ h => h) (Or.inl ⟨by rfl, ?_⟩) ?_ ?_
  rotate_left
  · intro w'
    go_simp
    with_reducible rfl
  rotate_left
  · simp only [Act.put, List.setIfInBounds_toArray, List.set_cons_zero, List.set_cons_succ, i64_w, i32_w]
    rfl
  refine pure_ (i := 9) (N := some 61) (v := ?_) (a' := ?_) #[true, false, true, true, true, true, true, true, true, true, false, false, false] rfl rfl (by kernel_rfl) (fun _ _ _ h => h) (Or.inl ⟨by rfl, ?_⟩) ?_ ?_
  rotate_left
  · intro w'
    go_simp
    with_reducible rfl
  rotate_left
  · simp only [Act.put, List.setIfInBounds_toArray, List.set_cons_zero, List.set_cons_succ, i64_w, i32_w]
    rfl
  refine pure_ (i := 10) (N := some 6) (v := ?_) (a' := ?_) #[true, false, true, true, true, true, true, true, true, true, true, false, false] rfl rfl (by kernel_rfl) (fun _ _ _ h => h) (Or.inl ⟨by rfl, ?_⟩) ?_ ?_
  rotate_left
  · intro w'
    go_simp
    with_reducible rfl
  rotate_left
  · simp only [Act.put, List.setIfInBounds_toArray, List.set_cons_zero, List.set_cons_succ, i64_w, i32_w]
    rfl
  refine take_ (i := 1) (N := some 53) (v := ?_) (a' := ?_) #[true, true, true, true, true, true, true, true, true, true, true, false, false] rfl rfl (by kernel_rfl) (fun _ _ _ h => h) (Or.inl ⟨by rfl, ?_⟩) hHeld ?_ ?_
  rotate_left
  · rintro w' ⟨s0, s1, s2⟩
    go_simp
    with_reducible rfl
  rotate_left
  · simp only [Act.put, List.setIfInBounds_toArray, List.set_cons_zero, List.set_cons_succ, i64_w, i32_w]
    rfl
  refine last_ (i := 11) (N := none) #[true, true, true, true, true, true, true, true, true, true, true, true, false] rfl rfl (by kernel_rfl) (by decide) (fun K hK => ?_)
  refine skip_ (w1 := ?_) (by rfl) rfl ?_ ?_
  rotate_left
  · go_simp
    rfl
  refine hK.out _ _ ?_
  clear hK K
  refine pure_ (i := 12) (N := some 8) (v := ?_) (a' := ?_) #[true, true, true, true, true, true, true, true, true, true, true, true, true] rfl rfl (by kernel_rfl) (fun _ _ _ h => h) (Or.inl ⟨by rfl, ?_⟩) ?_ ?_
  rotate_left
  · intro w'
    go_simp
    with_reducible rfl
  rotate_left
  · simp only [Act.put, List.setIfInBounds_toArray, List.set_cons_zero, List.set_cons_succ, i64_w, i32_w]
    rfl
  refine done_ (by kernel_rfl) ?_
  clear c0 c1 c2 y0 y1 y2 z0 z1 z2 t1 t2 hHeld
  go_wp2_with fail
  refine bodyPost_ret (ret_tct rfl _ _ (b + 2) 42 #[.bool bad, .slice ak2 nk2 ck2, .slice av2 nv2 cv2] _ rfl (blk3 hzW6.out _ _ _) Try.underlying42 rfl (by kernel_rfl)) rfl ?_
  have kf0 : Chg (fun j => j = b + 2) W6 (((W6.setCell ⟨b + 2, 0, none⟩ (.bool bad)).setCell ⟨b + 2, 1, none⟩ (.slice ak2 nk2 ck2)).setCell ⟨b + 2, 2, none⟩ (.slice av2 nv2 cv2)) := (((Chg.refl (fun j => j = b + 2) W6).setCell _ (.inl rfl) _).setCell _ (.inl rfl) _).setCell _ (.inl rfl) _
  first
  | (have kf := kf0
     have kc : Chg (fun j => Q j ∧ j < lim) w W6 := ((k123.out.mono fun _ h => h.elim).trans kl4'.out).trans (k56.out.mono fun _ h => h.elim)
     have kw : Chg (fun j => Q j ∧ j < lim) w _ := kc.trans' kf (fun j hj => .inr (by have := hbb'.out; omega))
     have kt : ∀ (T : Nat → Prop) w2, Chg T _ w2 → Chg (fun j => T j ∨ j = b + 2) W6 w2 := fun T w2 k2 => (kf.mono fun _ h => .inr h).trans (k2.mono fun _ h => .inl h)
     have hq : ∀ (T : Nat → Prop), (∀ j, T j → lim ≤ j ∧ j < w.heap.size) → ∀ j, (T j ∨ j = b + 2) → lim ≤ j ∧ j < W3.heap.size := fun T hT j hj => by
       have h1 := hbb'.out; have h2 := z3'.out; have h3 := hlim.out
       rcases hj with hj | hj
       · have := hT j hj; omega
       · omega
     have fz : ∀ (T : Nat → Prop) w2, (∀ j, T j → lim ≤ j ∧ j < w.heap.size) → Chg T _ w2 → PSt Q w2 w2.heap.size d bad _ _ _ := fun T w2 hT k2 => by
       have kt' := kt T w2 k2
       have hq' := hq T hT
       refine fin.out (fun j => T j ∨ j = b + 2) _ _ hq' ((k56.out.mono fun _ h => h.elim).trans kt') (hm6.out.chgS kt' fun j hj he => ?_) ho5'.out
       have h1 := ho5'.out j hj
       have h2 := ps.out.2.2.2.1.2.2 j
       have h3 := (Array.getElem?_eq_some_iff.1 hzw4.out).1
       have h4 := hq' j he
       have h5 := z3'.out
       rcases h1 with h1 | h1
       · omega
       · have := h2 h1; omega
     exact ⟨_, _, _, rfl, ⟨kw, (fz NoB _ (fun _ h => h.elim) (Chg.refl _ _)).map, fz⟩, insB_le bad key val L⟩)
  | (have kf := kf0.drew
     have kc : Chg (fun j => Q j ∧ j < lim) w W6 := ((k123.out.mono fun _ h => h.elim).trans kl4'.out).trans (k56.out.mono fun _ h => h.elim)
     have kw : Chg (fun j => Q j ∧ j < lim) w _ := kc.trans' kf (fun j hj => .inr (by have := hbb'.out; omega))
     have kt : ∀ (T : Nat → Prop) w2, Chg T _ w2 → Chg (fun j => T j ∨ j = b + 2) W6 w2 := fun T w2 k2 => (kf.mono fun _ h => .inr h).trans (k2.mono fun _ h => .inl h)
     have hq : ∀ (T : Nat → Prop), (∀ j, T j → lim ≤ j ∧ j < w.heap.size) → ∀ j, (T j ∨ j = b + 2) → lim ≤ j ∧ j < W3.heap.size := fun T hT j hj => by
       have h1 := hbb'.out; have h2 := z3'.out; have h3 := hlim.out
       rcases hj with hj | hj
       · have := hT j hj; omega
       · omega
     have fz : ∀ (T : Nat → Prop) w2, (∀ j, T j → lim ≤ j ∧ j < w.heap.size) → Chg T _ w2 → PSt Q w2 w2.heap.size d bad _ _ _ := fun T w2 hT k2 => by
       have kt' := kt T w2 k2
       have hq' := hq T hT
       refine fin.out (fun j => T j ∨ j = b + 2) _ _ hq' ((k56.out.mono fun _ h => h.elim).trans kt') (hm6.out.chgS kt' fun j hj he => ?_) ho5'.out
       have h1 := ho5'.out j hj
       have h2 := ps.out.2.2.2.1.2.2 j
       have h3 := (Array.getElem?_eq_some_iff.1 hzw4.out).1
       have h4 := hq' j he
       have h5 := z3'.out
       rcases h1 with h1 | h1
       · omega
       · have := h2 h1; omega
     exact ⟨_, _, _, rfl, ⟨kw, (fz NoB _ (fun _ h => h.elim) (Chg.refl _ _)).map, fz⟩, insB_le bad key val L⟩)

set_option maxHeartbeats 8000000 in
set_option maxRecDepth 100000 in
theorem step20_1 (Q : Nat → Prop) (w : World) (lim d : Nat) (bad : Bool) (pp : Option Addr) (mv : Value) (L : List E) (key : ByteArray) (val : Int) (eq : Bool) (h : PSt Q w lim d bad pp mv L) (hl : L.length ≤ 900) :
    Calls Try.prog 20 #[.pointer pp, mv, .agg #[.int .i64 1, .string key, .int .i64 val, .bool eq]] w fun e w' => ∃ pp' mv' L', e = .returned (.tuple #[.pointer pp', mv', .bool true]) ∧ StepEnd Q w w' lim d bad pp' mv' L' ∧ L'.length ≤ L.length + 1 := by
  have hmo := h.map.open
  obtain ⟨ak, nk, ck, av, nv, cv, rfl, -⟩ := hmo
  obtain ⟨W1, hW1⟩ : ∃ W1, W1 = w.alloc (.cells #[.bool bad, .slice ak nk ck, .slice av nv cv] 42) := ⟨_, rfl⟩
  have k1 : Chg NoB w W1 := by rw [hW1]; exact (Chg.refl _ _).alloc _
  obtain ⟨W2, hW2⟩ : ∃ W2, W2 = W1.alloc (.cells #[.int .i64 1, .string key, .int .i64 val, .bool eq] 28) := ⟨_, rfl⟩
  have k2 : Chg NoB W1 W2 := by rw [hW2]; exact (Chg.refl _ _).alloc _
  obtain ⟨W3, hW3⟩ : ∃ W3, W3 = W2.alloc (.cells #[.bool false, .slice none 0 0, .slice none 0 0] 42) := ⟨_, rfl⟩
  have k3 : Chg NoB W2 W3 := by rw [hW3]; exact (Chg.refl _ _).alloc _
  obtain ⟨b, hbb⟩ : ∃ b, b = w.heap.size := ⟨_, rfl⟩
  have z1 : W1.heap.size = b + 1 := by rw [hW1, hbb]; simp
  have z2 : W2.heap.size = b + 2 := by rw [hW2]; simp [z1]
  have z3 : W3.heap.size = b + 3 := by rw [hW3]; simp [z2]
  have hb1 : W1.heap[b]? = some (.cells #[.bool bad, .slice ak nk ck, .slice av nv cv] 42 (0, 0)) := by rw [hW1, hbb]; exact heap_alloc_new _ _
  have hs1 : W2.heap[b + 1]? = some (.cells #[.int .i64 1, .string key, .int .i64 val, .bool eq] 28 (0, 0)) := by rw [hW2, ← z1]; exact heap_alloc_new _ _
  have hz1 : W3.heap[b + 2]? = some (.cells #[.bool false, .slice none 0 0, .slice none 0 0] 42 (0, 0)) := by rw [hW3, ← z2]; exact heap_alloc_new _ _
  have hb := Hid.mk' (k3.heap (fun h => h) (k2.heap (fun h => h) hb1))
  have hs := Hid.mk' (k3.heap (fun h => h) hs1)
  have hz := Hid.mk' hz1
  have ps : Hid (PSt Q W3 lim d bad pp (.agg #[.bool bad, .slice ak nk ck, .slice av nv cv]) L) := h.chg ((k1.trans k2).trans k3)
  have k123 := Hid.mk' ((k1.trans k2).trans k3)
  have hlim : Hid (lim ≤ b) := by show _ ≤ _; rw [hbb]; exact h.2.2.2.1.1
  have hem := Hid.mk' h.empty
  have hW1' := Hid.mk' hW1
  have hW2' := Hid.mk' hW2
  have hW3' := Hid.mk' hW3
  have hbb' := Hid.mk' hbb
  have z3' := Hid.mk' z3
  clear h hW1 hW2 hW3 hbb k1 k2 k3 z1 z2 z3 hb1 hs1 hz1
  have m0 : W3.cell? ⟨b, 0, none⟩ = some (.bool bad) := by rw [cell_of_row W3 (b) 0 _ _ _ hb.out]; rfl
  have m1 : W3.cell? ⟨b, 1, none⟩ = some (.slice ak nk ck) := by rw [cell_of_row W3 (b) 1 _ _ _ hb.out]; rfl
  have m2 : W3.cell? ⟨b, 2, none⟩ = some (.slice av nv cv) := by rw [cell_of_row W3 (b) 2 _ _ _ hb.out]; rfl
  have s0 : W3.cell? ⟨b + 1, 0, none⟩ = some (.int .i64 1) := by rw [cell_of_row W3 (b + 1) 0 _ _ _ hs.out]; rfl
  have s1 : W3.cell? ⟨b + 1, 1, none⟩ = some (.string key) := by rw [cell_of_row W3 (b + 1) 1 _ _ _ hs.out]; rfl
  have s2 : W3.cell? ⟨b + 1, 2, none⟩ = some (.int .i64 val) := by rw [cell_of_row W3 (b + 1) 2 _ _ _ hs.out]; rfl
  have s3 : W3.cell? ⟨b + 1, 3, none⟩ = some (.bool eq) := by rw [cell_of_row W3 (b + 1) 3 _ _ _ hs.out]; rfl
  obtain ⟨o, ho⟩ : ∃ o, (getM key L).getD 0 = o := ⟨_, rfl⟩
  obtain ⟨f, hf⟩ : ∃ f, (getM key L).isSome = f := ⟨_, rfl⟩
  have ct := ps.out.del key (by omega)
  rw [ho, hf] at ct
  have ct' := Hid.mk' ct
  have ho' := Hid.mk' ho
  have hf' := Hid.mk' hf
  clear ct ho hf
  go_enter Try.func20, Try.ntmps20
  go_wp2_with fail
  rw [← hW1'.out, ← hbb'.out, ← hW2'.out, ← hW3'.out]
  refine ct'.out.mono ?_
  rintro e w4 ⟨rfl, hm4, kl4, fin4⟩
  have hbw4 := Hid.mk' (kl4.heap (fun h => by have := h.2; have := hlim.out; omega) hb.out)
  have hsw4 := Hid.mk' (kl4.heap (fun h => by have := h.2; have := hlim.out; omega) hs.out)
  have hzw4 := Hid.mk' (kl4.heap (fun h => by have := h.2; have := hlim.out; omega) hz.out)
  have cm := hm4.del hem.out key (by omega)
  rw [ho'.out, hf'.out] at cm
  have cm' := Hid.mk' cm
  have fin := Hid.mk' fin4
  have kl4' := Hid.mk' kl4
  clear m0 m1 m2 s0 s1 s2 s3 cm hm4 kl4 fin4 ct'
  have m0 : w4.cell? ⟨b, 0, none⟩ = some (.bool bad) := by rw [cell_of_row w4 (b) 0 _ _ _ hbw4.out]; rfl
  have m1 : w4.cell? ⟨b, 1, none⟩ = some (.slice ak nk ck) := by rw [cell_of_row w4 (b) 1 _ _ _ hbw4.out]; rfl
  have m2 : w4.cell? ⟨b, 2, none⟩ = some (.slice av nv cv) := by rw [cell_of_row w4 (b) 2 _ _ _ hbw4.out]; rfl
  have s0 : w4.cell? ⟨b + 1, 0, none⟩ = some (.int .i64 1) := by rw [cell_of_row w4 (b + 1) 0 _ _ _ hsw4.out]; rfl
  have s1 : w4.cell? ⟨b + 1, 1, none⟩ = some (.string key) := by rw [cell_of_row w4 (b + 1) 1 _ _ _ hsw4.out]; rfl
  have s2 : w4.cell? ⟨b + 1, 2, none⟩ = some (.int .i64 val) := by rw [cell_of_row w4 (b + 1) 2 _ _ _ hsw4.out]; rfl
  have s3 : w4.cell? ⟨b + 1, 3, none⟩ = some (.bool eq) := by rw [cell_of_row w4 (b + 1) 3 _ _ _ hsw4.out]; rfl
  go_wp2_with fail
  refine cm'.out.mono ?_
  rintro e w5 ⟨mv2, rfl, hm5, ho5, k5⟩
  obtain ⟨ak2, nk2, ck2, av2, nv2, cv2, rfl, -⟩ := hm5.open
  have hbw5 := Hid.mk' (k5.heap (fun h => h) hbw4.out)
  have hsw5 := Hid.mk' (k5.heap (fun h => h) hsw4.out)
  have hzw5 := Hid.mk' (k5.heap (fun h => h) hzw4.out)
  obtain ⟨W6, hW6⟩ : ∃ W6, W6 = w5.alloc (.cells #[.bool bad, .slice ak2 nk2 ck2, .slice av2 nv2 cv2] 42) := ⟨_, rfl⟩
  obtain ⟨g, hg⟩ : ∃ g, g = w5.heap.size := ⟨_, rfl⟩
  have k6 : Chg NoB w5 W6 := by rw [hW6]; exact (Chg.refl _ _).alloc _
  have hg6 : W6.heap[g]? = some (.cells #[.bool bad, .slice ak2 nk2 ck2, .slice av2 nv2 cv2] 42 (0, 0)) := by rw [hW6, hg]; exact heap_alloc_new _ _
  have hbW6 := Hid.mk' (k6.heap (fun h => h) hbw5.out)
  have hsW6 := Hid.mk' (k6.heap (fun h => h) hsw5.out)
  have hzW6 := Hid.mk' (k6.heap (fun h => h) hzw5.out)
  have c0 : W6.cell? ⟨g, 0, none⟩ = some (.bool bad) := by rw [cell_of_row W6 (g) 0 _ _ _ hg6]; rfl
  have c1 : W6.cell? ⟨g, 1, none⟩ = some (.slice ak2 nk2 ck2) := by rw [cell_of_row W6 (g) 1 _ _ _ hg6]; rfl
  have c2 : W6.cell? ⟨g, 2, none⟩ = some (.slice av2 nv2 cv2) := by rw [cell_of_row W6 (g) 2 _ _ _ hg6]; rfl
  have y0 : W6.cell? ⟨b + 2, 0, none⟩ = some (.bool false) := by rw [cell_of_row W6 (b + 2) 0 _ _ _ hzW6.out]; rfl
  have y1 : W6.cell? ⟨b + 2, 1, none⟩ = some (.slice none 0 0) := by rw [cell_of_row W6 (b + 2) 1 _ _ _ hzW6.out]; rfl
  have y2 : W6.cell? ⟨b + 2, 2, none⟩ = some (.slice none 0 0) := by rw [cell_of_row W6 (b + 2) 2 _ _ _ hzW6.out]; rfl
  have z0 := frozen_of_row W6 (b + 2) 0 _ _ hzW6.out
  have z1 := frozen_of_row W6 (b + 2) 1 _ _ hzW6.out
  have z2 := frozen_of_row W6 (b + 2) 2 _ _ hzW6.out
  have k56 := Hid.mk' (k5.trans k6)
  have hm6 := Hid.mk' (hm5.chg k6)
  have ho5' := Hid.mk' ho5
  have hW6' := Hid.mk' hW6
  have hg' := Hid.mk' hg
  have t1 : (o == o) = true := by simp
  have t2 : (f == f) = true := by simp
  clear m0 m1 m2 s0 s1 s2 s3 k5 k6 hm5 ho5 hW6 hg hg6 cm'
  go_upto_region 9 with (fail)
  rw [← hW6'.out, ← hg'.out]
  refine start_ (n := 13) (S := fun w' => w'.cell? ⟨g, 0, none⟩ = some (.bool bad) ∧ w'.cell? ⟨g, 1, none⟩ = some (.slice ak2 nk2 ck2) ∧ w'.cell? ⟨g, 2, none⟩ = some (.slice av2 nv2 cv2)) (ds := [11]) #[false, false, false, false, false, false, false, false, false, false, false, false, false] (by kernel_rfl) rfl rfl ⟨c0, c1, c2⟩ (fun hHeld => ?_)
  refine pure_ (i := 0) (N := some 79) (v := ?_) (a' := ?_) #[true, false, false, false, false, false, false, false, false, false, false, false, false] rfl rfl (by kernel_rfl) (fun _ _ _ h => h) (Or.inl ⟨by rfl, ?_⟩) ?_ ?_
  rotate_left
  · intro w'
    go_simp
    with_reducible rfl
  rotate_left
  · simp only [Act.put, List.setIfInBounds_toArray, List.set_cons_zero, List.set_cons_succ, i64_w, i32_w]
    rfl
  refine pure_ (i := 2) (N := some 81) (v := ?_) (a' := ?_) #[true, false, true, false, false, false, false, false, false, false, false, false, false] rfl rfl (by kernel_rfl) (fun _ _ _ h => h) (Or.inl ⟨by rfl, ?_⟩) ?_ ?_
  rotate_left
  · intro w'
    go_simp
    with_reducible rfl
  rotate_left
  · simp only [Act.put, List.setIfInBounds_toArray, List.set_cons_zero, List.set_cons_succ, i64_w, i32_w]
    rfl
  refine pure_ (i := 3) (N := some 82) (v := ?_) (a' := ?_) #[true, false, true, true, false, false, false, false, false, false, false, false, false] rfl rfl (by kernel_rfl) (fun _ _ _ h => h) (Or.inl ⟨by rfl, ?_⟩) ?_ ?_
  rotate_left
  · intro w'
    go_simp
    with_reducible rfl
  rotate_left
  · simp only [Act.put, List.setIfInBounds_toArray, List.set_cons_zero, List.set_cons_succ, i64_w, i32_w]
    rfl
  refine pure_ (i := 4) (N := some 83) (v := ?_) (a' := ?_) #[true, false, true, true, true, false, false, false, false, false, false, false, false] rfl rfl (by kernel_rfl) (fun _ _ _ h => h) (Or.inl ⟨by rfl, ?_⟩) ?_ ?_
  rotate_left
  · intro w'
    go_simp
    with_reducible rfl
  rotate_left
  · simp only [Act.put, List.setIfInBounds_toArray, List.set_cons_zero, List.set_cons_succ, i64_w, i32_w]
    rfl
  refine pure_ (i := 5) (N := some 84) (v := ?_) (a' := ?_) #[true, false, true, true, true, true, false, false, false, false, false, false, false] rfl rfl (by kernel_rfl) (fun _ _ _ h => h) (Or.inl ⟨by rfl, ?_⟩) ?_ ?_
  rotate_left
  · intro w'
    go_simp
    with_reducible rfl
  rotate_left
  · simp only [Act.put, List.setIfInBounds_toArray, List.set_cons_zero, List.set_cons_succ, i64_w, i32_w]
    rfl
  refine pure_ (i := 6) (N := some 85) (v := ?_) (a' := ?_) #[true, false, true, true, true, true, true, false, false, false, false, false, false] rfl rfl (by kernel_rfl) (fun _ _ _ h => h) (Or.inl ⟨by rfl, ?_⟩) ?_ ?_
  rotate_left
  · intro w'
    go_simp
    with_reducible rfl
  rotate_left
  · simp only [Act.put, List.setIfInBounds_toArray, List.set_cons_zero, List.set_cons_succ, i64_w, i32_w]
    rfl
  refine pure_ (i := 7) (N := some 86) (v := ?_) (a' := ?_) #[true, false, true, true, true, true, true, true, false, false, false, false, false] rfl rfl (by kernel_rfl) (fun _ _ _ h => h) (Or.inl ⟨by rfl, ?_⟩) ?_ ?_
  rotate_left
  · intro w'
    go_simp
    with_reducible rfl
  rotate_left
  · simp only [Act.put, List.setIfInBounds_toArray, List.set_cons_zero, List.set_cons_succ, i64_w, i32_w]
    rfl
  refine pure_ (i := 8) (N := some 87) (v := ?_) (a' := ?_) #[true, false, true, true, true, true, true, true, true, false, false, false, false] rfl rfl (by kernel_rfl) (fun _ _ _ h => h) (Or.inl ⟨by rfl, ?_⟩) ?_ ?_
  rotate_left
  · intro w'
    go_simp
    with_reducible rfl
  rotate_left
  · simp only [Act.put, List.setIfInBounds_toArray, List.set_cons_zero, List.set_cons_succ, i64_w, i32_w]
    rfl
  refine pure_ (i := 9) (N := some 88) (v := ?_) (a' := ?_) #[true, false, true, true, true, true, true, true, true, true, false, false, false] rfl rfl (by kernel_rfl) (fun _ _ _ h => h) (Or.inl ⟨by rfl, ?_⟩) ?_ ?_
  rotate_left
  · intro w'
    go_simp
    with_reducible rfl
  rotate_left
  · simp only [Act.put, List.setIfInBounds_toArray, List.set_cons_zero, List.set_cons_succ, i64_w, i32_w]
    rfl
  refine pure_ (i := 10) (N := some 6) (v := ?_) (a' := ?_) #[true, false, true, true, true, true, true, true, true, true, true, false, false] rfl rfl (by kernel_rfl) (fun _ _ _ h => h) (Or.inl ⟨by rfl, ?_⟩) ?_ ?_
  rotate_left
  · intro w'
    go_simp
    with_reducible rfl
  rotate_left
  · simp only [Act.put, List.setIfInBounds_toArray, List.set_cons_zero, List.set_cons_succ, i64_w, i32_w]
    rfl
  refine take_ (i := 1) (N := some 80) (v := ?_) (a' := ?_) #[true, true, true, true, true, true, true, true, true, true, true, false, false] rfl rfl (by kernel_rfl) (fun _ _ _ h => h) (Or.inl ⟨by rfl, ?_⟩) hHeld ?_ ?_
  rotate_left
  · rintro w' ⟨s0, s1, s2⟩
    go_simp
    with_reducible rfl
  rotate_left
  · simp only [Act.put, List.setIfInBounds_toArray, List.set_cons_zero, List.set_cons_succ, i64_w, i32_w]
    rfl
  refine last_ (i := 11) (N := none) #[true, true, true, true, true, true, true, true, true, true, true, true, false] rfl rfl (by kernel_rfl) (by decide) (fun K hK => ?_)
  refine skip_ (w1 := ?_) (by rfl) rfl ?_ ?_
  rotate_left
  · go_simp
    rfl
  refine hK.out _ _ ?_
  clear hK K
  refine pure_ (i := 12) (N := some 8) (v := ?_) (a' := ?_) #[true, true, true, true, true, true, true, true, true, true, true, true, true] rfl rfl (by kernel_rfl) (fun _ _ _ h => h) (Or.inl ⟨by rfl, ?_⟩) ?_ ?_
  rotate_left
  · intro w'
    go_simp
    with_reducible rfl
  rotate_left
  · simp only [Act.put, List.setIfInBounds_toArray, List.set_cons_zero, List.set_cons_succ, i64_w, i32_w]
    rfl
  refine done_ (by kernel_rfl) ?_
  clear c0 c1 c2 y0 y1 y2 z0 z1 z2 t1 t2 hHeld
  go_wp2_with fail
  refine bodyPost_ret (ret_tct rfl _ _ (b + 2) 42 #[.bool bad, .slice ak2 nk2 ck2, .slice av2 nv2 cv2] _ rfl (blk3 hzW6.out _ _ _) Try.underlying42 rfl (by kernel_rfl)) rfl ?_
  have kf0 : Chg (fun j => j = b + 2) W6 (((W6.setCell ⟨b + 2, 0, none⟩ (.bool bad)).setCell ⟨b + 2, 1, none⟩ (.slice ak2 nk2 ck2)).setCell ⟨b + 2, 2, none⟩ (.slice av2 nv2 cv2)) := (((Chg.refl (fun j => j = b + 2) W6).setCell _ (.inl rfl) _).setCell _ (.inl rfl) _).setCell _ (.inl rfl) _
  first
  | (have kf := kf0
     have kc : Chg (fun j => Q j ∧ j < lim) w W6 := ((k123.out.mono fun _ h => h.elim).trans kl4'.out).trans (k56.out.mono fun _ h => h.elim)
     have kw : Chg (fun j => Q j ∧ j < lim) w _ := kc.trans' kf (fun j hj => .inr (by have := hbb'.out; omega))
     have kt : ∀ (T : Nat → Prop) w2, Chg T _ w2 → Chg (fun j => T j ∨ j = b + 2) W6 w2 := fun T w2 k2 => (kf.mono fun _ h => .inr h).trans (k2.mono fun _ h => .inl h)
     have hq : ∀ (T : Nat → Prop), (∀ j, T j → lim ≤ j ∧ j < w.heap.size) → ∀ j, (T j ∨ j = b + 2) → lim ≤ j ∧ j < W3.heap.size := fun T hT j hj => by
       have h1 := hbb'.out; have h2 := z3'.out; have h3 := hlim.out
       rcases hj with hj | hj
       · have := hT j hj; omega
       · omega
     have fz : ∀ (T : Nat → Prop) w2, (∀ j, T j → lim ≤ j ∧ j < w.heap.size) → Chg T _ w2 → PSt Q w2 w2.heap.size d bad _ _ _ := fun T w2 hT k2 => by
       have kt' := kt T w2 k2
       have hq' := hq T hT
       refine fin.out (fun j => T j ∨ j = b + 2) _ _ hq' ((k56.out.mono fun _ h => h.elim).trans kt') (hm6.out.chgS kt' fun j hj he => ?_) ho5'.out
       have h1 := ho5'.out j hj
       have h2 := ps.out.2.2.2.1.2.2 j
       have h3 := (Array.getElem?_eq_some_iff.1 hzw4.out).1
       have h4 := hq' j he
       have h5 := z3'.out
       rcases h1 with h1 | h1
       · omega
       · have := h2 h1; omega
     exact ⟨_, _, _, rfl, ⟨kw, (fz NoB _ (fun _ h => h.elim) (Chg.refl _ _)).map, fz⟩, (Nat.le_succ_of_le (delM_le2 key L))⟩)
  | (have kf := kf0.drew
     have kc : Chg (fun j => Q j ∧ j < lim) w W6 := ((k123.out.mono fun _ h => h.elim).trans kl4'.out).trans (k56.out.mono fun _ h => h.elim)
     have kw : Chg (fun j => Q j ∧ j < lim) w _ := kc.trans' kf (fun j hj => .inr (by have := hbb'.out; omega))
     have kt : ∀ (T : Nat → Prop) w2, Chg T _ w2 → Chg (fun j => T j ∨ j = b + 2) W6 w2 := fun T w2 k2 => (kf.mono fun _ h => .inr h).trans (k2.mono fun _ h => .inl h)
     have hq : ∀ (T : Nat → Prop), (∀ j, T j → lim ≤ j ∧ j < w.heap.size) → ∀ j, (T j ∨ j = b + 2) → lim ≤ j ∧ j < W3.heap.size := fun T hT j hj => by
       have h1 := hbb'.out; have h2 := z3'.out; have h3 := hlim.out
       rcases hj with hj | hj
       · have := hT j hj; omega
       · omega
     have fz : ∀ (T : Nat → Prop) w2, (∀ j, T j → lim ≤ j ∧ j < w.heap.size) → Chg T _ w2 → PSt Q w2 w2.heap.size d bad _ _ _ := fun T w2 hT k2 => by
       have kt' := kt T w2 k2
       have hq' := hq T hT
       refine fin.out (fun j => T j ∨ j = b + 2) _ _ hq' ((k56.out.mono fun _ h => h.elim).trans kt') (hm6.out.chgS kt' fun j hj he => ?_) ho5'.out
       have h1 := ho5'.out j hj
       have h2 := ps.out.2.2.2.1.2.2 j
       have h3 := (Array.getElem?_eq_some_iff.1 hzw4.out).1
       have h4 := hq' j he
       have h5 := z3'.out
       rcases h1 with h1 | h1
       · omega
       · have := h2 h1; omega
     exact ⟨_, _, _, rfl, ⟨kw, (fz NoB _ (fun _ h => h.elim) (Chg.refl _ _)).map, fz⟩, (Nat.le_succ_of_le (delM_le2 key L))⟩)

set_option maxHeartbeats 8000000 in
set_option maxRecDepth 100000 in
theorem step20_2 (Q : Nat → Prop) (w : World) (lim d : Nat) (bad : Bool) (pp : Option Addr) (mv : Value) (L : List E) (key : ByteArray) (val : Int) (eq : Bool) (h : PSt Q w lim d bad pp mv L) (hl : L.length ≤ 900) :
    Calls Try.prog 20 #[.pointer pp, mv, .agg #[.int .i64 2, .string key, .int .i64 val, .bool eq]] w fun e w' => ∃ pp' mv' L', e = .returned (.tuple #[.pointer pp', mv', .bool true]) ∧ StepEnd Q w w' lim d bad pp' mv' L' ∧ L'.length ≤ L.length + 1 := by
  have hmo := h.map.open
  obtain ⟨ak, nk, ck, av, nv, cv, rfl, -⟩ := hmo
  obtain ⟨W1, hW1⟩ : ∃ W1, W1 = w.alloc (.cells #[.bool bad, .slice ak nk ck, .slice av nv cv] 42) := ⟨_, rfl⟩
  have k1 : Chg NoB w W1 := by rw [hW1]; exact (Chg.refl _ _).alloc _
  obtain ⟨W2, hW2⟩ : ∃ W2, W2 = W1.alloc (.cells #[.int .i64 2, .string key, .int .i64 val, .bool eq] 28) := ⟨_, rfl⟩
  have k2 : Chg NoB W1 W2 := by rw [hW2]; exact (Chg.refl _ _).alloc _
  obtain ⟨W3, hW3⟩ : ∃ W3, W3 = W2.alloc (.cells #[.bool false, .slice none 0 0, .slice none 0 0] 42) := ⟨_, rfl⟩
  have k3 : Chg NoB W2 W3 := by rw [hW3]; exact (Chg.refl _ _).alloc _
  obtain ⟨b, hbb⟩ : ∃ b, b = w.heap.size := ⟨_, rfl⟩
  have z1 : W1.heap.size = b + 1 := by rw [hW1, hbb]; simp
  have z2 : W2.heap.size = b + 2 := by rw [hW2]; simp [z1]
  have z3 : W3.heap.size = b + 3 := by rw [hW3]; simp [z2]
  have hb1 : W1.heap[b]? = some (.cells #[.bool bad, .slice ak nk ck, .slice av nv cv] 42 (0, 0)) := by rw [hW1, hbb]; exact heap_alloc_new _ _
  have hs1 : W2.heap[b + 1]? = some (.cells #[.int .i64 2, .string key, .int .i64 val, .bool eq] 28 (0, 0)) := by rw [hW2, ← z1]; exact heap_alloc_new _ _
  have hz1 : W3.heap[b + 2]? = some (.cells #[.bool false, .slice none 0 0, .slice none 0 0] 42 (0, 0)) := by rw [hW3, ← z2]; exact heap_alloc_new _ _
  have hb := Hid.mk' (k3.heap (fun h => h) (k2.heap (fun h => h) hb1))
  have hs := Hid.mk' (k3.heap (fun h => h) hs1)
  have hz := Hid.mk' hz1
  have ps : Hid (PSt Q W3 lim d bad pp (.agg #[.bool bad, .slice ak nk ck, .slice av nv cv]) L) := h.chg ((k1.trans k2).trans k3)
  have k123 := Hid.mk' ((k1.trans k2).trans k3)
  have hlim : Hid (lim ≤ b) := by show _ ≤ _; rw [hbb]; exact h.2.2.2.1.1
  have hem := Hid.mk' h.empty
  have hW1' := Hid.mk' hW1
  have hW2' := Hid.mk' hW2
  have hW3' := Hid.mk' hW3
  have hbb' := Hid.mk' hbb
  have z3' := Hid.mk' z3
  clear h hW1 hW2 hW3 hbb k1 k2 k3 z1 z2 z3 hb1 hs1 hz1
  have m0 : W3.cell? ⟨b, 0, none⟩ = some (.bool bad) := by rw [cell_of_row W3 (b) 0 _ _ _ hb.out]; rfl
  have m1 : W3.cell? ⟨b, 1, none⟩ = some (.slice ak nk ck) := by rw [cell_of_row W3 (b) 1 _ _ _ hb.out]; rfl
  have m2 : W3.cell? ⟨b, 2, none⟩ = some (.slice av nv cv) := by rw [cell_of_row W3 (b) 2 _ _ _ hb.out]; rfl
  have s0 : W3.cell? ⟨b + 1, 0, none⟩ = some (.int .i64 2) := by rw [cell_of_row W3 (b + 1) 0 _ _ _ hs.out]; rfl
  have s1 : W3.cell? ⟨b + 1, 1, none⟩ = some (.string key) := by rw [cell_of_row W3 (b + 1) 1 _ _ _ hs.out]; rfl
  have s2 : W3.cell? ⟨b + 1, 2, none⟩ = some (.int .i64 val) := by rw [cell_of_row W3 (b + 1) 2 _ _ _ hs.out]; rfl
  have s3 : W3.cell? ⟨b + 1, 3, none⟩ = some (.bool eq) := by rw [cell_of_row W3 (b + 1) 3 _ _ _ hs.out]; rfl
  obtain ⟨o, ho⟩ : ∃ o, (getM key L).getD 0 = o := ⟨_, rfl⟩
  obtain ⟨f, hf⟩ : ∃ f, (getM key L).isSome = f := ⟨_, rfl⟩
  have ct : Calls Try.prog 21 #[.pointer pp, .string key] W3 fun e w' => e = .returned (.tuple #[.int .i64 ((getM key L).getD 0), .bool (getM key L).isSome]) ∧ Chg NoB W3 w' := (ps.out.get key).mono fun e w' ⟨he, hw⟩ => ⟨he, hw ▸ Chg.refl _ _⟩
  rw [ho, hf] at ct
  have ct' := Hid.mk' ct
  have ho' := Hid.mk' ho
  have hf' := Hid.mk' hf
  clear ct ho hf
  go_enter Try.func20, Try.ntmps20
  go_wp2_with fail
  rw [← hW1'.out, ← hbb'.out, ← hW2'.out, ← hW3'.out]
  refine ct'.out.mono ?_
  rintro e w4 ⟨rfl, k4⟩
  have hbw4 := Hid.mk' ((Chg.refl NoB _ |>.trans k4).heap (fun h => h) hb.out)
  have hsw4 := Hid.mk' ((Chg.refl NoB _ |>.trans k4).heap (fun h => h) hs.out)
  have hzw4 := Hid.mk' ((Chg.refl NoB _ |>.trans k4).heap (fun h => h) hz.out)
  have cm := (ps.out.map.chg k4).get key (by omega)
  rw [ho'.out, hf'.out] at cm
  have cm' := Hid.mk' cm
  have k4' := Hid.mk' k4
  clear m0 m1 m2 s0 s1 s2 s3 cm k4 ct'
  have m0 : w4.cell? ⟨b, 0, none⟩ = some (.bool bad) := by rw [cell_of_row w4 (b) 0 _ _ _ hbw4.out]; rfl
  have m1 : w4.cell? ⟨b, 1, none⟩ = some (.slice ak nk ck) := by rw [cell_of_row w4 (b) 1 _ _ _ hbw4.out]; rfl
  have m2 : w4.cell? ⟨b, 2, none⟩ = some (.slice av nv cv) := by rw [cell_of_row w4 (b) 2 _ _ _ hbw4.out]; rfl
  have s0 : w4.cell? ⟨b + 1, 0, none⟩ = some (.int .i64 2) := by rw [cell_of_row w4 (b + 1) 0 _ _ _ hsw4.out]; rfl
  have s1 : w4.cell? ⟨b + 1, 1, none⟩ = some (.string key) := by rw [cell_of_row w4 (b + 1) 1 _ _ _ hsw4.out]; rfl
  have s2 : w4.cell? ⟨b + 1, 2, none⟩ = some (.int .i64 val) := by rw [cell_of_row w4 (b + 1) 2 _ _ _ hsw4.out]; rfl
  have s3 : w4.cell? ⟨b + 1, 3, none⟩ = some (.bool eq) := by rw [cell_of_row w4 (b + 1) 3 _ _ _ hsw4.out]; rfl
  go_wp2_with fail
  refine cm'.out.mono ?_
  rintro e w5 ⟨rfl, k5⟩
  have hbw5 := Hid.mk' (k5.heap (fun h => h) hbw4.out)
  have hsw5 := Hid.mk' (k5.heap (fun h => h) hsw4.out)
  have hzw5 := Hid.mk' (k5.heap (fun h => h) hzw4.out)
  clear m0 m1 m2 s0 s1 s2 s3
  have m0 : w5.cell? ⟨b, 0, none⟩ = some (.bool bad) := by rw [cell_of_row w5 (b) 0 _ _ _ hbw5.out]; rfl
  have m1 : w5.cell? ⟨b, 1, none⟩ = some (.slice ak nk ck) := by rw [cell_of_row w5 (b) 1 _ _ _ hbw5.out]; rfl
  have m2 : w5.cell? ⟨b, 2, none⟩ = some (.slice av nv cv) := by rw [cell_of_row w5 (b) 2 _ _ _ hbw5.out]; rfl
  have s0 : w5.cell? ⟨b + 1, 0, none⟩ = some (.int .i64 2) := by rw [cell_of_row w5 (b + 1) 0 _ _ _ hsw5.out]; rfl
  have s1 : w5.cell? ⟨b + 1, 1, none⟩ = some (.string key) := by rw [cell_of_row w5 (b + 1) 1 _ _ _ hsw5.out]; rfl
  have s2 : w5.cell? ⟨b + 1, 2, none⟩ = some (.int .i64 val) := by rw [cell_of_row w5 (b + 1) 2 _ _ _ hsw5.out]; rfl
  have s3 : w5.cell? ⟨b + 1, 3, none⟩ = some (.bool eq) := by rw [cell_of_row w5 (b + 1) 3 _ _ _ hsw5.out]; rfl
  have y0 : w5.cell? ⟨b + 2, 0, none⟩ = some (.bool false) := by rw [cell_of_row w5 (b + 2) 0 _ _ _ hzw5.out]; rfl
  have y1 : w5.cell? ⟨b + 2, 1, none⟩ = some (.slice none 0 0) := by rw [cell_of_row w5 (b + 2) 1 _ _ _ hzw5.out]; rfl
  have y2 : w5.cell? ⟨b + 2, 2, none⟩ = some (.slice none 0 0) := by rw [cell_of_row w5 (b + 2) 2 _ _ _ hzw5.out]; rfl
  have z0 := frozen_of_row w5 (b + 2) 0 _ _ hzw5.out
  have z1 := frozen_of_row w5 (b + 2) 1 _ _ hzw5.out
  have z2 := frozen_of_row w5 (b + 2) 2 _ _ hzw5.out
  have k45 := Hid.mk' (k4'.out.trans k5)
  have t1 : (o == o) = true := by simp
  have t2 : (f == f) = true := by simp
  clear k5 cm'
  go_upto_region 13 with (fail)
  refine start_ (n := 13) (S := fun w' => w'.cell? ⟨b, 0, none⟩ = some (.bool bad) ∧ w'.cell? ⟨b, 1, none⟩ = some (.slice ak nk ck) ∧ w'.cell? ⟨b, 2, none⟩ = some (.slice av nv cv)) (ds := [11]) #[false, false, false, false, false, false, false, false, false, false, false, false, false] (by kernel_rfl) rfl rfl ⟨m0, m1, m2⟩ (fun hHeld => ?_)
  refine pure_ (i := 0) (N := some 105) (v := ?_) (a' := ?_) #[true, false, false, false, false, false, false, false, false, false, false, false, false] rfl rfl (by kernel_rfl) (fun _ _ _ h => h) (Or.inl ⟨by rfl, ?_⟩) ?_ ?_
  rotate_left
  · intro w'
    go_simp
    with_reducible rfl
  rotate_left
  · simp only [Act.put, List.setIfInBounds_toArray, List.set_cons_zero, List.set_cons_succ, i64_w, i32_w]
    rfl
  refine pure_ (i := 2) (N := some 107) (v := ?_) (a' := ?_) #[true, false, true, false, false, false, false, false, false, false, false, false, false] rfl rfl (by kernel_rfl) (fun _ _ _ h => h) (Or.inl ⟨by rfl, ?_⟩) ?_ ?_
  rotate_left
  · intro w'
    go_simp
    with_reducible rfl
  rotate_left
  · simp only [Act.put, List.setIfInBounds_toArray, List.set_cons_zero, List.set_cons_succ, i64_w, i32_w]
    rfl
  refine pure_ (i := 3) (N := some 108) (v := ?_) (a' := ?_) #[true, false, true, true, false, false, false, false, false, false, false, false, false] rfl rfl (by kernel_rfl) (fun _ _ _ h => h) (Or.inl ⟨by rfl, ?_⟩) ?_ ?_
  rotate_left
  · intro w'
    go_simp
    with_reducible rfl
  rotate_left
  · simp only [Act.put, List.setIfInBounds_toArray, List.set_cons_zero, List.set_cons_succ, i64_w, i32_w]
    rfl
  refine pure_ (i := 4) (N := some 109) (v := ?_) (a' := ?_) #[true, false, true, true, true, false, false, false, false, false, false, false, false] rfl rfl (by kernel_rfl) (fun _ _ _ h => h) (Or.inl ⟨by rfl, ?_⟩) ?_ ?_
  rotate_left
  · intro w'
    go_simp
    with_reducible rfl
  rotate_left
  · simp only [Act.put, List.setIfInBounds_toArray, List.set_cons_zero, List.set_cons_succ, i64_w, i32_w]
    rfl
  refine pure_ (i := 5) (N := some 110) (v := ?_) (a' := ?_) #[true, false, true, true, true, true, false, false, false, false, false, false, false] rfl rfl (by kernel_rfl) (fun _ _ _ h => h) (Or.inl ⟨by rfl, ?_⟩) ?_ ?_
  rotate_left
  · intro w'
    go_simp
    with_reducible rfl
  rotate_left
  · simp only [Act.put, List.setIfInBounds_toArray, List.set_cons_zero, List.set_cons_succ, i64_w, i32_w]
    rfl
  refine pure_ (i := 6) (N := some 111) (v := ?_) (a' := ?_) #[true, false, true, true, true, true, true, false, false, false, false, false, false] rfl rfl (by kernel_rfl) (fun _ _ _ h => h) (Or.inl ⟨by rfl, ?_⟩) ?_ ?_
  rotate_left
  · intro w'
    go_simp
    with_reducible rfl
  rotate_left
  · simp only [Act.put, List.setIfInBounds_toArray, List.set_cons_zero, List.set_cons_succ, i64_w, i32_w]
    rfl
  refine pure_ (i := 7) (N := some 112) (v := ?_) (a' := ?_) #[true, false, true, true, true, true, true, true, false, false, false, false, false] rfl rfl (by kernel_rfl) (fun _ _ _ h => h) (Or.inl ⟨by rfl, ?_⟩) ?_ ?_
  rotate_left
  · intro w'
    go_simp
    with_reducible rfl
  rotate_left
  · simp only [Act.put, List.setIfInBounds_toArray, List.set_cons_zero, List.set_cons_succ, i64_w, i32_w]
    rfl
  refine pure_ (i := 8) (N := some 113) (v := ?_) (a' := ?_) #[true, false, true, true, true, true, true, true, true, false, false, false, false] rfl rfl (by kernel_rfl) (fun _ _ _ h => h) (Or.inl ⟨by rfl, ?_⟩) ?_ ?_
  rotate_left
  · intro w'
    go_simp
    with_reducible rfl
  rotate_left
  · simp only [Act.put, List.setIfInBounds_toArray, List.set_cons_zero, List.set_cons_succ, i64_w, i32_w]
    rfl
  refine pure_ (i := 9) (N := some 114) (v := ?_) (a' := ?_) #[true, false, true, true, true, true, true, true, true, true, false, false, false] rfl rfl (by kernel_rfl) (fun _ _ _ h => h) (Or.inl ⟨by rfl, ?_⟩) ?_ ?_
  rotate_left
  · intro w'
    go_simp
    with_reducible rfl
  rotate_left
  · simp only [Act.put, List.setIfInBounds_toArray, List.set_cons_zero, List.set_cons_succ, i64_w, i32_w]
    rfl
  refine pure_ (i := 10) (N := some 6) (v := ?_) (a' := ?_) #[true, false, true, true, true, true, true, true, true, true, true, false, false] rfl rfl (by kernel_rfl) (fun _ _ _ h => h) (Or.inl ⟨by rfl, ?_⟩) ?_ ?_
  rotate_left
  · intro w'
    go_simp
    with_reducible rfl
  rotate_left
  · simp only [Act.put, List.setIfInBounds_toArray, List.set_cons_zero, List.set_cons_succ, i64_w, i32_w]
    rfl
  refine take_ (i := 1) (N := some 106) (v := ?_) (a' := ?_) #[true, true, true, true, true, true, true, true, true, true, true, false, false] rfl rfl (by kernel_rfl) (fun _ _ _ h => h) (Or.inl ⟨by rfl, ?_⟩) hHeld ?_ ?_
  rotate_left
  · rintro w' ⟨s0, s1, s2⟩
    go_simp
    with_reducible rfl
  rotate_left
  · simp only [Act.put, List.setIfInBounds_toArray, List.set_cons_zero, List.set_cons_succ, i64_w, i32_w]
    rfl
  refine last_ (i := 11) (N := none) #[true, true, true, true, true, true, true, true, true, true, true, true, false] rfl rfl (by kernel_rfl) (by decide) (fun K hK => ?_)
  refine skip_ (w1 := ?_) (by rfl) rfl ?_ ?_
  rotate_left
  · go_simp
    rfl
  refine hK.out _ _ ?_
  clear hK K
  refine pure_ (i := 12) (N := some 8) (v := ?_) (a' := ?_) #[true, true, true, true, true, true, true, true, true, true, true, true, true] rfl rfl (by kernel_rfl) (fun _ _ _ h => h) (Or.inl ⟨by rfl, ?_⟩) ?_ ?_
  rotate_left
  · intro w'
    go_simp
    with_reducible rfl
  rotate_left
  · simp only [Act.put, List.setIfInBounds_toArray, List.set_cons_zero, List.set_cons_succ, i64_w, i32_w]
    rfl
  refine done_ (by kernel_rfl) ?_
  clear m0 m1 m2 s0 s1 s2 s3 y0 y1 y2 z0 z1 z2 hHeld
  go_wp2_with fail
  refine bodyPost_ret (ret_tct rfl _ _ (b + 2) 42 #[.bool bad, .slice ak nk ck, .slice av nv cv] _ rfl (blk3 hzw5.out _ _ _) Try.underlying42 rfl (by kernel_rfl)) rfl ?_
  have kf0 : Chg (fun j => j = b + 2) w5 (((w5.setCell ⟨b + 2, 0, none⟩ (.bool bad)).setCell ⟨b + 2, 1, none⟩ (.slice ak nk ck)).setCell ⟨b + 2, 2, none⟩ (.slice av nv cv)) := (((Chg.refl (fun j => j = b + 2) w5).setCell _ (.inl rfl) _).setCell _ (.inl rfl) _).setCell _ (.inl rfl) _
  first
  | (have kf := kf0
     have kc : Chg (fun j => Q j ∧ j < lim) w w5 := (k123.out.trans k45.out).mono fun _ h => h.elim
     have kw : Chg (fun j => Q j ∧ j < lim) w _ := kc.trans' kf (fun j hj => .inr (by have := hbb'.out; omega))
     have kt : ∀ (T : Nat → Prop) w2, Chg T _ w2 → Chg (fun j => T j ∨ j = b + 2) w5 w2 := fun T w2 k2 => (kf.mono fun _ h => .inr h).trans (k2.mono fun _ h => .inl h)
     have hq : ∀ (T : Nat → Prop), (∀ j, T j → lim ≤ j ∧ j < w.heap.size) → ∀ j, (T j ∨ j = b + 2) → lim ≤ j ∧ j < W3.heap.size := fun T hT j hj => by
       have h1 := hbb'.out; have h2 := z3'.out; have h3 := hlim.out
       rcases hj with hj | hj
       · have := hT j hj; omega
       · omega
     have fz : ∀ (T : Nat → Prop) w2, (∀ j, T j → lim ≤ j ∧ j < w.heap.size) → Chg T _ w2 → PSt Q w2 w2.heap.size d bad _ _ _ := fun T w2 hT k2 => by
       have kt' := kt T w2 k2
       have hq' := hq T hT
       exact (ps.out.chgT ((k45.out.mono fun _ h => h.elim).trans kt') (fun j hj => (hq' j hj).1)).up
     exact ⟨_, _, _, rfl, ⟨kw, (fz NoB _ (fun _ h => h.elim) (Chg.refl _ _)).map, fz⟩, Nat.le_succ _⟩)
  | (have kf := kf0.drew
     have kc : Chg (fun j => Q j ∧ j < lim) w w5 := (k123.out.trans k45.out).mono fun _ h => h.elim
     have kw : Chg (fun j => Q j ∧ j < lim) w _ := kc.trans' kf (fun j hj => .inr (by have := hbb'.out; omega))
     have kt : ∀ (T : Nat → Prop) w2, Chg T _ w2 → Chg (fun j => T j ∨ j = b + 2) w5 w2 := fun T w2 k2 => (kf.mono fun _ h => .inr h).trans (k2.mono fun _ h => .inl h)
     have hq : ∀ (T : Nat → Prop), (∀ j, T j → lim ≤ j ∧ j < w.heap.size) → ∀ j, (T j ∨ j = b + 2) → lim ≤ j ∧ j < W3.heap.size := fun T hT j hj => by
       have h1 := hbb'.out; have h2 := z3'.out; have h3 := hlim.out
       rcases hj with hj | hj
       · have := hT j hj; omega
       · omega
     have fz : ∀ (T : Nat → Prop) w2, (∀ j, T j → lim ≤ j ∧ j < w.heap.size) → Chg T _ w2 → PSt Q w2 w2.heap.size d bad _ _ _ := fun T w2 hT k2 => by
       have kt' := kt T w2 k2
       have hq' := hq T hT
       exact (ps.out.chgT ((k45.out.mono fun _ h => h.elim).trans kt') (fun j hj => (hq' j hj).1)).up
     exact ⟨_, _, _, rfl, ⟨kw, (fz NoB _ (fun _ h => h.elim) (Chg.refl _ _)).map, fz⟩, Nat.le_succ _⟩)

set_option maxHeartbeats 8000000 in
set_option maxRecDepth 100000 in
theorem step20_3 (Q : Nat → Prop) (w : World) (lim d : Nat) (bad : Bool) (pp : Option Addr) (mv : Value) (L : List E) (key : ByteArray) (val : Int) (eq : Bool) (h : PSt Q w lim d bad pp mv L) (hl : L.length ≤ 900) :
    Calls Try.prog 20 #[.pointer pp, mv, .agg #[.int .i64 3, .string key, .int .i64 val, .bool eq]] w fun e w' => ∃ pp' mv' L', e = .returned (.tuple #[.pointer pp', mv', .bool true]) ∧ StepEnd Q w w' lim d bad pp' mv' L' ∧ L'.length ≤ L.length + 1 := by
  have hmo := h.map.open
  obtain ⟨ak, nk, ck, av, nv, cv, rfl, -⟩ := hmo
  obtain ⟨W1, hW1⟩ : ∃ W1, W1 = w.alloc (.cells #[.bool bad, .slice ak nk ck, .slice av nv cv] 42) := ⟨_, rfl⟩
  have k1 : Chg NoB w W1 := by rw [hW1]; exact (Chg.refl _ _).alloc _
  obtain ⟨W2, hW2⟩ : ∃ W2, W2 = W1.alloc (.cells #[.int .i64 3, .string key, .int .i64 val, .bool eq] 28) := ⟨_, rfl⟩
  have k2 : Chg NoB W1 W2 := by rw [hW2]; exact (Chg.refl _ _).alloc _
  obtain ⟨W3, hW3⟩ : ∃ W3, W3 = W2.alloc (.cells #[.bool false, .slice none 0 0, .slice none 0 0] 42) := ⟨_, rfl⟩
  have k3 : Chg NoB W2 W3 := by rw [hW3]; exact (Chg.refl _ _).alloc _
  obtain ⟨b, hbb⟩ : ∃ b, b = w.heap.size := ⟨_, rfl⟩
  have z1 : W1.heap.size = b + 1 := by rw [hW1, hbb]; simp
  have z2 : W2.heap.size = b + 2 := by rw [hW2]; simp [z1]
  have z3 : W3.heap.size = b + 3 := by rw [hW3]; simp [z2]
  have hb1 : W1.heap[b]? = some (.cells #[.bool bad, .slice ak nk ck, .slice av nv cv] 42 (0, 0)) := by rw [hW1, hbb]; exact heap_alloc_new _ _
  have hs1 : W2.heap[b + 1]? = some (.cells #[.int .i64 3, .string key, .int .i64 val, .bool eq] 28 (0, 0)) := by rw [hW2, ← z1]; exact heap_alloc_new _ _
  have hz1 : W3.heap[b + 2]? = some (.cells #[.bool false, .slice none 0 0, .slice none 0 0] 42 (0, 0)) := by rw [hW3, ← z2]; exact heap_alloc_new _ _
  have hb := Hid.mk' (k3.heap (fun h => h) (k2.heap (fun h => h) hb1))
  have hs := Hid.mk' (k3.heap (fun h => h) hs1)
  have hz := Hid.mk' hz1
  have ps : Hid (PSt Q W3 lim d bad pp (.agg #[.bool bad, .slice ak nk ck, .slice av nv cv]) L) := h.chg ((k1.trans k2).trans k3)
  have k123 := Hid.mk' ((k1.trans k2).trans k3)
  have hlim : Hid (lim ≤ b) := by show _ ≤ _; rw [hbb]; exact h.2.2.2.1.1
  have hem := Hid.mk' h.empty
  have hW1' := Hid.mk' hW1
  have hW2' := Hid.mk' hW2
  have hW3' := Hid.mk' hW3
  have hbb' := Hid.mk' hbb
  have z3' := Hid.mk' z3
  clear h hW1 hW2 hW3 hbb k1 k2 k3 z1 z2 z3 hb1 hs1 hz1
  have m0 : W3.cell? ⟨b, 0, none⟩ = some (.bool bad) := by rw [cell_of_row W3 (b) 0 _ _ _ hb.out]; rfl
  have m1 : W3.cell? ⟨b, 1, none⟩ = some (.slice ak nk ck) := by rw [cell_of_row W3 (b) 1 _ _ _ hb.out]; rfl
  have m2 : W3.cell? ⟨b, 2, none⟩ = some (.slice av nv cv) := by rw [cell_of_row W3 (b) 2 _ _ _ hb.out]; rfl
  have s0 : W3.cell? ⟨b + 1, 0, none⟩ = some (.int .i64 3) := by rw [cell_of_row W3 (b + 1) 0 _ _ _ hs.out]; rfl
  have s1 : W3.cell? ⟨b + 1, 1, none⟩ = some (.string key) := by rw [cell_of_row W3 (b + 1) 1 _ _ _ hs.out]; rfl
  have s2 : W3.cell? ⟨b + 1, 2, none⟩ = some (.int .i64 val) := by rw [cell_of_row W3 (b + 1) 2 _ _ _ hs.out]; rfl
  have s3 : W3.cell? ⟨b + 1, 3, none⟩ = some (.bool eq) := by rw [cell_of_row W3 (b + 1) 3 _ _ _ hs.out]; rfl
  obtain ⟨o, ho⟩ : ∃ o, valO (nextM key eq L) = o := ⟨_, rfl⟩
  obtain ⟨f, hf⟩ : ∃ f, (nextM key eq L).isSome = f := ⟨_, rfl⟩
  obtain ⟨s, hsn⟩ : ∃ s, keyO (nextM key eq L) = s := ⟨_, rfl⟩
  have ct := ps.out.next key eq
  rw [ho, hf, hsn] at ct
  have ct' := Hid.mk' ct
  have ho' := Hid.mk' ho
  have hf' := Hid.mk' hf
  have hsn' := Hid.mk' hsn
  clear ct ho hf hsn
  go_enter Try.func20, Try.ntmps20
  go_wp2_with fail
  rw [← hW1'.out, ← hbb'.out, ← hW2'.out, ← hW3'.out]
  refine ct'.out.mono ?_
  rintro e w4 ⟨rfl, k4⟩
  have hbw4 := Hid.mk' (k4.heap (fun h => h) hb.out)
  have hsw4 := Hid.mk' (k4.heap (fun h => h) hs.out)
  have hzw4 := Hid.mk' (k4.heap (fun h => h) hz.out)
  have cm := (ps.out.map.chg k4).next key eq (by omega)
  rw [ho'.out, hf'.out, hsn'.out] at cm
  have cm' := Hid.mk' cm
  have k4' := Hid.mk' k4
  clear m0 m1 m2 s0 s1 s2 s3 cm k4 ct'
  have m0 : w4.cell? ⟨b, 0, none⟩ = some (.bool bad) := by rw [cell_of_row w4 (b) 0 _ _ _ hbw4.out]; rfl
  have m1 : w4.cell? ⟨b, 1, none⟩ = some (.slice ak nk ck) := by rw [cell_of_row w4 (b) 1 _ _ _ hbw4.out]; rfl
  have m2 : w4.cell? ⟨b, 2, none⟩ = some (.slice av nv cv) := by rw [cell_of_row w4 (b) 2 _ _ _ hbw4.out]; rfl
  have s0 : w4.cell? ⟨b + 1, 0, none⟩ = some (.int .i64 3) := by rw [cell_of_row w4 (b + 1) 0 _ _ _ hsw4.out]; rfl
  have s1 : w4.cell? ⟨b + 1, 1, none⟩ = some (.string key) := by rw [cell_of_row w4 (b + 1) 1 _ _ _ hsw4.out]; rfl
  have s2 : w4.cell? ⟨b + 1, 2, none⟩ = some (.int .i64 val) := by rw [cell_of_row w4 (b + 1) 2 _ _ _ hsw4.out]; rfl
  have s3 : w4.cell? ⟨b + 1, 3, none⟩ = some (.bool eq) := by rw [cell_of_row w4 (b + 1) 3 _ _ _ hsw4.out]; rfl
  go_wp2_with fail
  refine cm'.out.mono ?_
  rintro e w5 ⟨rfl, k5⟩
  have hbw5 := Hid.mk' (k5.heap (fun h => h) hbw4.out)
  have hsw5 := Hid.mk' (k5.heap (fun h => h) hsw4.out)
  have hzw5 := Hid.mk' (k5.heap (fun h => h) hzw4.out)
  clear m0 m1 m2 s0 s1 s2 s3
  have m0 : w5.cell? ⟨b, 0, none⟩ = some (.bool bad) := by rw [cell_of_row w5 (b) 0 _ _ _ hbw5.out]; rfl
  have m1 : w5.cell? ⟨b, 1, none⟩ = some (.slice ak nk ck) := by rw [cell_of_row w5 (b) 1 _ _ _ hbw5.out]; rfl
  have m2 : w5.cell? ⟨b, 2, none⟩ = some (.slice av nv cv) := by rw [cell_of_row w5 (b) 2 _ _ _ hbw5.out]; rfl
  have s0 : w5.cell? ⟨b + 1, 0, none⟩ = some (.int .i64 3) := by rw [cell_of_row w5 (b + 1) 0 _ _ _ hsw5.out]; rfl
  have s1 : w5.cell? ⟨b + 1, 1, none⟩ = some (.string key) := by rw [cell_of_row w5 (b + 1) 1 _ _ _ hsw5.out]; rfl
  have s2 : w5.cell? ⟨b + 1, 2, none⟩ = some (.int .i64 val) := by rw [cell_of_row w5 (b + 1) 2 _ _ _ hsw5.out]; rfl
  have s3 : w5.cell? ⟨b + 1, 3, none⟩ = some (.bool eq) := by rw [cell_of_row w5 (b + 1) 3 _ _ _ hsw5.out]; rfl
  have y0 : w5.cell? ⟨b + 2, 0, none⟩ = some (.bool false) := by rw [cell_of_row w5 (b + 2) 0 _ _ _ hzw5.out]; rfl
  have y1 : w5.cell? ⟨b + 2, 1, none⟩ = some (.slice none 0 0) := by rw [cell_of_row w5 (b + 2) 1 _ _ _ hzw5.out]; rfl
  have y2 : w5.cell? ⟨b + 2, 2, none⟩ = some (.slice none 0 0) := by rw [cell_of_row w5 (b + 2) 2 _ _ _ hzw5.out]; rfl
  have z0 := frozen_of_row w5 (b + 2) 0 _ _ hzw5.out
  have z1 := frozen_of_row w5 (b + 2) 1 _ _ hzw5.out
  have z2 := frozen_of_row w5 (b + 2) 2 _ _ hzw5.out
  have k45 := Hid.mk' (k4'.out.trans k5)
  have t1 : (o == o) = true := by simp
  have t2 : (f == f) = true := by simp
  have t3 : (s.toList == s.toList) = true := by simp
  clear k5 cm'
  go_upto_region 17 with (fail)
  refine start_ (n := 18) (S := fun w' => w'.cell? ⟨b, 0, none⟩ = some (.bool bad) ∧ w'.cell? ⟨b, 1, none⟩ = some (.slice ak nk ck) ∧ w'.cell? ⟨b, 2, none⟩ = some (.slice av nv cv)) (ds := [16]) #[false, false, false, false, false, false, false, false, false, false, false, false, false, false, false, false, false, false] (by kernel_rfl) rfl rfl ⟨m0, m1, m2⟩ (fun hHeld => ?_)
  refine pure_ (i := 0) (N := some 137) (v := ?_) (a' := ?_) #[true, false, false, false, false, false, false, false, false, false, false, false, false, false, false, false, false, false] rfl rfl (by kernel_rfl) (fun _ _ _ h => h) (Or.inl ⟨by rfl, ?_⟩) ?_ ?_
  rotate_left
  · intro w'
    go_simp
    with_reducible rfl
  rotate_left
  · simp only [Act.put, List.setIfInBounds_toArray, List.set_cons_zero, List.set_cons_succ, i64_w, i32_w]
    rfl
  refine pure_ (i := 2) (N := some 139) (v := ?_) (a' := ?_) #[true, false, true, false, false, false, false, false, false, false, false, false, false, false, false, false, false, false] rfl rfl (by kernel_rfl) (fun _ _ _ h => h) (Or.inl ⟨by rfl, ?_⟩) ?_ ?_
  rotate_left
  · intro w'
    go_simp
    with_reducible rfl
  rotate_left
  · simp only [Act.put, List.setIfInBounds_toArray, List.set_cons_zero, List.set_cons_succ, i64_w, i32_w]
    rfl
  refine pure_ (i := 3) (N := some 140) (v := ?_) (a' := ?_) #[true, false, true, true, false, false, false, false, false, false, false, false, false, false, false, false, false, false] rfl rfl (by kernel_rfl) (fun _ _ _ h => h) (Or.inl ⟨by rfl, ?_⟩) ?_ ?_
  rotate_left
  · intro w'
    go_simp
    with_reducible rfl
  rotate_left
  · simp only [Act.put, List.setIfInBounds_toArray, List.set_cons_zero, List.set_cons_succ, i64_w, i32_w]
    rfl
  refine pure_ (i := 4) (N := some 141) (v := ?_) (a' := ?_) #[true, false, true, true, true, false, false, false, false, false, false, false, false, false, false, false, false, false] rfl rfl (by kernel_rfl) (fun _ _ _ h => h) (Or.inl ⟨by rfl, ?_⟩) ?_ ?_
  rotate_left
  · intro w'
    go_simp
    with_reducible rfl
  rotate_left
  · simp only [Act.put, List.setIfInBounds_toArray, List.set_cons_zero, List.set_cons_succ, i64_w, i32_w]
    rfl
  refine pure_ (i := 5) (N := some 142) (v := ?_) (a' := ?_) #[true, false, true, true, true, true, false, false, false, false, false, false, false, false, false, false, false, false] rfl rfl (by kernel_rfl) (fun _ _ _ h => h) (Or.inl ⟨by rfl, ?_⟩) ?_ ?_
  rotate_left
  · intro w'
    go_simp
    with_reducible rfl
  rotate_left
  · simp only [Act.put, List.setIfInBounds_toArray, List.set_cons_zero, List.set_cons_succ, i64_w, i32_w]
    rfl
  refine pure_ (i := 6) (N := some 143) (v := ?_) (a' := ?_) #[true, false, true, true, true, true, true, false, false, false, false, false, false, false, false, false, false, false] rfl rfl (by kernel_rfl) (fun _ _ _ h => h) (Or.inl ⟨by rfl, ?_⟩) ?_ ?_
  rotate_left
  · intro w'
    go_simp
    with_reducible rfl
  rotate_left
  · simp only [Act.put, List.setIfInBounds_toArray, List.set_cons_zero, List.set_cons_succ, i64_w, i32_w]
    rfl
  refine pure_ (i := 7) (N := some 144) (v := ?_) (a' := ?_) #[true, false, true, true, true, true, true, true, false, false, false, false, false, false, false, false, false, false] rfl rfl (by kernel_rfl) (fun _ _ _ h => h) (Or.inl ⟨by rfl, ?_⟩) ?_ ?_
  rotate_left
  · intro w'
    go_simp
    with_reducible rfl
  rotate_left
  · simp only [Act.put, List.setIfInBounds_toArray, List.set_cons_zero, List.set_cons_succ, i64_w, i32_w]
    rfl
  refine pure_ (i := 8) (N := some 145) (v := ?_) (a' := ?_) #[true, false, true, true, true, true, true, true, true, false, false, false, false, false, false, false, false, false] rfl rfl (by kernel_rfl) (fun _ _ _ h => h) (Or.inl ⟨by rfl, ?_⟩) ?_ ?_
  rotate_left
  · intro w'
    go_simp
    with_reducible rfl
  rotate_left
  · simp only [Act.put, List.setIfInBounds_toArray, List.set_cons_zero, List.set_cons_succ, i64_w, i32_w]
    rfl
  refine pure_ (i := 9) (N := some 146) (v := ?_) (a' := ?_) #[true, false, true, true, true, true, true, true, true, true, false, false, false, false, false, false, false, false] rfl rfl (by kernel_rfl) (fun _ _ _ h => h) (Or.inl ⟨by rfl, ?_⟩) ?_ ?_
  rotate_left
  · intro w'
    go_simp
    with_reducible rfl
  rotate_left
  · simp only [Act.put, List.setIfInBounds_toArray, List.set_cons_zero, List.set_cons_succ, i64_w, i32_w]
    rfl
  refine pure_ (i := 10) (N := some 147) (v := ?_) (a' := ?_) #[true, false, true, true, true, true, true, true, true, true, true, false, false, false, false, false, false, false] rfl rfl (by kernel_rfl) (fun _ _ _ h => h) (Or.inl ⟨by rfl, ?_⟩) ?_ ?_
  rotate_left
  · intro w'
    go_simp
    with_reducible rfl
  rotate_left
  · simp only [Act.put, List.setIfInBounds_toArray, List.set_cons_zero, List.set_cons_succ, i64_w, i32_w]
    rfl
  refine pure_ (i := 11) (N := some 148) (v := ?_) (a' := ?_) #[true, false, true, true, true, true, true, true, true, true, true, true, false, false, false, false, false, false] rfl rfl (by kernel_rfl) (fun _ _ _ h => h) (Or.inl ⟨by rfl, ?_⟩) ?_ ?_
  rotate_left
  · intro w'
    go_simp
    with_reducible rfl
  rotate_left
  · simp only [Act.put, List.setIfInBounds_toArray, List.set_cons_zero, List.set_cons_succ, i64_w, i32_w]
    rfl
  refine pure_ (i := 12) (N := some 149) (v := ?_) (a' := ?_) #[true, false, true, true, true, true, true, true, true, true, true, true, true, false, false, false, false, false] rfl rfl (by kernel_rfl) (fun _ _ _ h => h) (Or.inl ⟨by rfl, ?_⟩) ?_ ?_
  rotate_left
  · intro w'
    go_simp
    with_reducible rfl
  rotate_left
  · simp only [Act.put, List.setIfInBounds_toArray, List.set_cons_zero, List.set_cons_succ, i64_w, i32_w]
    rfl
  refine pure_ (i := 13) (N := some 150) (v := ?_) (a' := ?_) #[true, false, true, true, true, true, true, true, true, true, true, true, true, true, false, false, false, false] rfl rfl (by kernel_rfl) (fun _ _ _ h => h) (Or.inl ⟨by rfl, ?_⟩) ?_ ?_
  rotate_left
  · intro w'
    go_simp
    with_reducible rfl
  rotate_left
  · simp only [Act.put, List.setIfInBounds_toArray, List.set_cons_zero, List.set_cons_succ, i64_w, i32_w]
    rfl
  refine pure_ (i := 14) (N := some 151) (v := ?_) (a' := ?_) #[true, false, true, true, true, true, true, true, true, true, true, true, true, true, true, false, false, false] rfl rfl (by kernel_rfl) (fun _ _ _ h => h) (Or.inl ⟨by rfl, ?_⟩) ?_ ?_
  rotate_left
  · intro w'
    go_simp
    with_reducible rfl
  rotate_left
  · simp only [Act.put, List.setIfInBounds_toArray, List.set_cons_zero, List.set_cons_succ, i64_w, i32_w]
    rfl
  refine pure_ (i := 15) (N := some 6) (v := ?_) (a' := ?_) #[true, false, true, true, true, true, true, true, true, true, true, true, true, true, true, true, false, false] rfl rfl (by kernel_rfl) (fun _ _ _ h => h) (Or.inl ⟨by rfl, ?_⟩) ?_ ?_
  rotate_left
  · intro w'
    go_simp
    with_reducible rfl
  rotate_left
  · simp only [Act.put, List.setIfInBounds_toArray, List.set_cons_zero, List.set_cons_succ, i64_w, i32_w]
    rfl
  refine take_ (i := 1) (N := some 138) (v := ?_) (a' := ?_) #[true, true, true, true, true, true, true, true, true, true, true, true, true, true, true, true, false, false] rfl rfl (by kernel_rfl) (fun _ _ _ h => h) (Or.inl ⟨by rfl, ?_⟩) hHeld ?_ ?_
  rotate_left
  · rintro w' ⟨s0, s1, s2⟩
    go_simp
    with_reducible rfl
  rotate_left
  · simp only [Act.put, List.setIfInBounds_toArray, List.set_cons_zero, List.set_cons_succ, i64_w, i32_w]
    rfl
  refine last_ (i := 16) (N := none) #[true, true, true, true, true, true, true, true, true, true, true, true, true, true, true, true, true, false] rfl rfl (by kernel_rfl) (by decide) (fun K hK => ?_)
  refine skip_ (w1 := ?_) (by rfl) rfl ?_ ?_
  rotate_left
  · go_simp
    rfl
  refine hK.out _ _ ?_
  clear hK K
  refine pure_ (i := 17) (N := some 8) (v := ?_) (a' := ?_) #[true, true, true, true, true, true, true, true, true, true, true, true, true, true, true, true, true, true] rfl rfl (by kernel_rfl) (fun _ _ _ h => h) (Or.inl ⟨by rfl, ?_⟩) ?_ ?_
  rotate_left
  · intro w'
    go_simp
    with_reducible rfl
  rotate_left
  · simp only [Act.put, List.setIfInBounds_toArray, List.set_cons_zero, List.set_cons_succ, i64_w, i32_w]
    rfl
  refine done_ (by kernel_rfl) ?_
  clear m0 m1 m2 s0 s1 s2 s3 y0 y1 y2 z0 z1 z2 hHeld
  go_wp2_with fail
  refine bodyPost_ret (ret_tct rfl _ _ (b + 2) 42 #[.bool bad, .slice ak nk ck, .slice av nv cv] _ rfl (blk3 hzw5.out _ _ _) Try.underlying42 rfl (by kernel_rfl)) rfl ?_
  have kf0 : Chg (fun j => j = b + 2) w5 (((w5.setCell ⟨b + 2, 0, none⟩ (.bool bad)).setCell ⟨b + 2, 1, none⟩ (.slice ak nk ck)).setCell ⟨b + 2, 2, none⟩ (.slice av nv cv)) := (((Chg.refl (fun j => j = b + 2) w5).setCell _ (.inl rfl) _).setCell _ (.inl rfl) _).setCell _ (.inl rfl) _
  first
  | (have kf := kf0
     have kc : Chg (fun j => Q j ∧ j < lim) w w5 := (k123.out.trans k45.out).mono fun _ h => h.elim
     have kw : Chg (fun j => Q j ∧ j < lim) w _ := kc.trans' kf (fun j hj => .inr (by have := hbb'.out; omega))
     have kt : ∀ (T : Nat → Prop) w2, Chg T _ w2 → Chg (fun j => T j ∨ j = b + 2) w5 w2 := fun T w2 k2 => (kf.mono fun _ h => .inr h).trans (k2.mono fun _ h => .inl h)
     have hq : ∀ (T : Nat → Prop), (∀ j, T j → lim ≤ j ∧ j < w.heap.size) → ∀ j, (T j ∨ j = b + 2) → lim ≤ j ∧ j < W3.heap.size := fun T hT j hj => by
       have h1 := hbb'.out; have h2 := z3'.out; have h3 := hlim.out
       rcases hj with hj | hj
       · have := hT j hj; omega
       · omega
     have fz : ∀ (T : Nat → Prop) w2, (∀ j, T j → lim ≤ j ∧ j < w.heap.size) → Chg T _ w2 → PSt Q w2 w2.heap.size d bad _ _ _ := fun T w2 hT k2 => by
       have kt' := kt T w2 k2
       have hq' := hq T hT
       exact (ps.out.chgT ((k45.out.mono fun _ h => h.elim).trans kt') (fun j hj => (hq' j hj).1)).up
     exact ⟨_, _, _, rfl, ⟨kw, (fz NoB _ (fun _ h => h.elim) (Chg.refl _ _)).map, fz⟩, Nat.le_succ _⟩)
  | (have kf := kf0.drew
     have kc : Chg (fun j => Q j ∧ j < lim) w w5 := (k123.out.trans k45.out).mono fun _ h => h.elim
     have kw : Chg (fun j => Q j ∧ j < lim) w _ := kc.trans' kf (fun j hj => .inr (by have := hbb'.out; omega))
     have kt : ∀ (T : Nat → Prop) w2, Chg T _ w2 → Chg (fun j => T j ∨ j = b + 2) w5 w2 := fun T w2 k2 => (kf.mono fun _ h => .inr h).trans (k2.mono fun _ h => .inl h)
     have hq : ∀ (T : Nat → Prop), (∀ j, T j → lim ≤ j ∧ j < w.heap.size) → ∀ j, (T j ∨ j = b + 2) → lim ≤ j ∧ j < W3.heap.size := fun T hT j hj => by
       have h1 := hbb'.out; have h2 := z3'.out; have h3 := hlim.out
       rcases hj with hj | hj
       · have := hT j hj; omega
       · omega
     have fz : ∀ (T : Nat → Prop) w2, (∀ j, T j → lim ≤ j ∧ j < w.heap.size) → Chg T _ w2 → PSt Q w2 w2.heap.size d bad _ _ _ := fun T w2 hT k2 => by
       have kt' := kt T w2 k2
       have hq' := hq T hT
       exact (ps.out.chgT ((k45.out.mono fun _ h => h.elim).trans kt') (fun j hj => (hq' j hj).1)).up
     exact ⟨_, _, _, rfl, ⟨kw, (fz NoB _ (fun _ h => h.elim) (Chg.refl _ _)).map, fz⟩, Nat.le_succ _⟩)

set_option maxHeartbeats 8000000 in
set_option maxRecDepth 100000 in
theorem step20_4 (Q : Nat → Prop) (w : World) (lim d : Nat) (bad : Bool) (pp : Option Addr) (mv : Value) (L : List E) (key : ByteArray) (val : Int) (eq : Bool) (h : PSt Q w lim d bad pp mv L) (hl : L.length ≤ 900) :
    Calls Try.prog 20 #[.pointer pp, mv, .agg #[.int .i64 4, .string key, .int .i64 val, .bool eq]] w fun e w' => ∃ pp' mv' L', e = .returned (.tuple #[.pointer pp', mv', .bool true]) ∧ StepEnd Q w w' lim d bad pp' mv' L' ∧ L'.length ≤ L.length + 1 := by
  have hmo := h.map.open
  obtain ⟨ak, nk, ck, av, nv, cv, rfl, -⟩ := hmo
  obtain ⟨W1, hW1⟩ : ∃ W1, W1 = w.alloc (.cells #[.bool bad, .slice ak nk ck, .slice av nv cv] 42) := ⟨_, rfl⟩
  have k1 : Chg NoB w W1 := by rw [hW1]; exact (Chg.refl _ _).alloc _
  obtain ⟨W2, hW2⟩ : ∃ W2, W2 = W1.alloc (.cells #[.int .i64 4, .string key, .int .i64 val, .bool eq] 28) := ⟨_, rfl⟩
  have k2 : Chg NoB W1 W2 := by rw [hW2]; exact (Chg.refl _ _).alloc _
  obtain ⟨W3, hW3⟩ : ∃ W3, W3 = W2.alloc (.cells #[.bool false, .slice none 0 0, .slice none 0 0] 42) := ⟨_, rfl⟩
  have k3 : Chg NoB W2 W3 := by rw [hW3]; exact (Chg.refl _ _).alloc _
  obtain ⟨b, hbb⟩ : ∃ b, b = w.heap.size := ⟨_, rfl⟩
  have z1 : W1.heap.size = b + 1 := by rw [hW1, hbb]; simp
  have z2 : W2.heap.size = b + 2 := by rw [hW2]; simp [z1]
  have z3 : W3.heap.size = b + 3 := by rw [hW3]; simp [z2]
  have hb1 : W1.heap[b]? = some (.cells #[.bool bad, .slice ak nk ck, .slice av nv cv] 42 (0, 0)) := by rw [hW1, hbb]; exact heap_alloc_new _ _
  have hs1 : W2.heap[b + 1]? = some (.cells #[.int .i64 4, .string key, .int .i64 val, .bool eq] 28 (0, 0)) := by rw [hW2, ← z1]; exact heap_alloc_new _ _
  have hz1 : W3.heap[b + 2]? = some (.cells #[.bool false, .slice none 0 0, .slice none 0 0] 42 (0, 0)) := by rw [hW3, ← z2]; exact heap_alloc_new _ _
  have hb := Hid.mk' (k3.heap (fun h => h) (k2.heap (fun h => h) hb1))
  have hs := Hid.mk' (k3.heap (fun h => h) hs1)
  have hz := Hid.mk' hz1
  have ps : Hid (PSt Q W3 lim d bad pp (.agg #[.bool bad, .slice ak nk ck, .slice av nv cv]) L) := h.chg ((k1.trans k2).trans k3)
  have k123 := Hid.mk' ((k1.trans k2).trans k3)
  have hlim : Hid (lim ≤ b) := by show _ ≤ _; rw [hbb]; exact h.2.2.2.1.1
  have hem := Hid.mk' h.empty
  have hW1' := Hid.mk' hW1
  have hW2' := Hid.mk' hW2
  have hW3' := Hid.mk' hW3
  have hbb' := Hid.mk' hbb
  have z3' := Hid.mk' z3
  clear h hW1 hW2 hW3 hbb k1 k2 k3 z1 z2 z3 hb1 hs1 hz1
  have m0 : W3.cell? ⟨b, 0, none⟩ = some (.bool bad) := by rw [cell_of_row W3 (b) 0 _ _ _ hb.out]; rfl
  have m1 : W3.cell? ⟨b, 1, none⟩ = some (.slice ak nk ck) := by rw [cell_of_row W3 (b) 1 _ _ _ hb.out]; rfl
  have m2 : W3.cell? ⟨b, 2, none⟩ = some (.slice av nv cv) := by rw [cell_of_row W3 (b) 2 _ _ _ hb.out]; rfl
  have s0 : W3.cell? ⟨b + 1, 0, none⟩ = some (.int .i64 4) := by rw [cell_of_row W3 (b + 1) 0 _ _ _ hs.out]; rfl
  have s1 : W3.cell? ⟨b + 1, 1, none⟩ = some (.string key) := by rw [cell_of_row W3 (b + 1) 1 _ _ _ hs.out]; rfl
  have s2 : W3.cell? ⟨b + 1, 2, none⟩ = some (.int .i64 val) := by rw [cell_of_row W3 (b + 1) 2 _ _ _ hs.out]; rfl
  have s3 : W3.cell? ⟨b + 1, 3, none⟩ = some (.bool eq) := by rw [cell_of_row W3 (b + 1) 3 _ _ _ hs.out]; rfl
  have y0 : W3.cell? ⟨b + 2, 0, none⟩ = some (.bool false) := by rw [cell_of_row W3 (b + 2) 0 _ _ _ hz.out]; rfl
  have y1 : W3.cell? ⟨b + 2, 1, none⟩ = some (.slice none 0 0) := by rw [cell_of_row W3 (b + 2) 1 _ _ _ hz.out]; rfl
  have y2 : W3.cell? ⟨b + 2, 2, none⟩ = some (.slice none 0 0) := by rw [cell_of_row W3 (b + 2) 2 _ _ _ hz.out]; rfl
  have cr : Hid (∀ W, Chg NoB W3 W → Calls Try.prog 18 #[.pointer pp, .string key, .int .i64 val] W fun e w' => ∃ v, e = .returned v ∧ Row w' 9 v ((rangeM key val L).map Value.string) ∧ Chg NoB W w') := fun W hW => (ps.out.chg hW).range key val (by omega)
  have cm : Hid (∀ W, Chg NoB W3 W → Calls Try.prog 37 #[.agg #[.bool bad, .slice ak nk ck, .slice av nv cv], .string key, .int .i64 val] W fun e w' => ∃ v, e = .returned v ∧ Row w' 9 v ((rangeM key val L).map Value.string) ∧ Chg NoB W w') := fun W hW => (ps.out.chg hW).map.range key val (by omega)
  have hrl : Hid ((rangeM key val L).length ≤ 1000000) := by
    show _ ≤ _
    unfold rangeM
    rw [List.length_take]
    have := List.length_filter_le (preB key) (L.map Prod.fst)
    simp at this ⊢
    omega
  go_enter Try.func20, Try.ntmps20
  go_wp2_with fail
  rw [← hW1'.out, ← hbb'.out, ← hW2'.out, ← hW3'.out]
  go_upto_region 19 with (fail)
  refine start_ (n := 18) (S := fun w' => w'.cell? ⟨b, 0, none⟩ = some (.bool bad) ∧ w'.cell? ⟨b, 1, none⟩ = some (.slice ak nk ck) ∧ w'.cell? ⟨b, 2, none⟩ = some (.slice av nv cv) ∧ w'.cell? ⟨b + 1, 1, none⟩ = some (.string key) ∧ w'.cell? ⟨b + 1, 2, none⟩ = some (.int .i64 val)) (ds := [16]) #[false, false, false, false, false, false, false, false, false, false, false, false, false, false, false, false, false, false] (by kernel_rfl) rfl rfl ⟨m0, m1, m2, s1, s2⟩ (fun hHeld => ?_)
  refine pure_ (i := 0) (N := some 154) (v := ?_) (a' := ?_) #[true, false, false, false, false, false, false, false, false, false, false, false, false, false, false, false, false, false] rfl rfl (by kernel_rfl) (fun _ _ _ h => h) (Or.inl ⟨by rfl, ?_⟩) ?_ ?_
  rotate_left
  · intro w'
    go_simp
    with_reducible rfl
  rotate_left
  · simp only [Act.put, List.setIfInBounds_toArray, List.set_cons_zero, List.set_cons_succ, i64_w, i32_w]
    rfl
  refine pure_ (i := 2) (N := some 156) (v := ?_) (a' := ?_) #[true, false, true, false, false, false, false, false, false, false, false, false, false, false, false, false, false, false] rfl rfl (by kernel_rfl) (fun _ _ _ h => h) (Or.inl ⟨by rfl, ?_⟩) ?_ ?_
  rotate_left
  · intro w'
    go_simp
    with_reducible rfl
  rotate_left
  · simp only [Act.put, List.setIfInBounds_toArray, List.set_cons_zero, List.set_cons_succ, i64_w, i32_w]
    rfl
  refine pure_ (i := 3) (N := some 157) (v := ?_) (a' := ?_) #[true, false, true, true, false, false, false, false, false, false, false, false, false, false, false, false, false, false] rfl rfl (by kernel_rfl) (fun _ _ _ h => h) (Or.inl ⟨by rfl, ?_⟩) ?_ ?_
  rotate_left
  · intro w'
    go_simp
    with_reducible rfl
  rotate_left
  · simp only [Act.put, List.setIfInBounds_toArray, List.set_cons_zero, List.set_cons_succ, i64_w, i32_w]
    rfl
  refine pure_ (i := 5) (N := some 159) (v := ?_) (a' := ?_) #[true, false, true, true, false, true, false, false, false, false, false, false, false, false, false, false, false, false] rfl rfl (by kernel_rfl) (fun _ _ _ h => h) (Or.inl ⟨by rfl, ?_⟩) ?_ ?_
  rotate_left
  · intro w'
    go_simp
    with_reducible rfl
  rotate_left
  · simp only [Act.put, List.setIfInBounds_toArray, List.set_cons_zero, List.set_cons_succ, i64_w, i32_w]
    rfl
  refine pure_ (i := 9) (N := some 163) (v := ?_) (a' := ?_) #[true, false, true, true, false, true, false, false, false, true, false, false, false, false, false, false, false, false] rfl rfl (by kernel_rfl) (fun _ _ _ h => h) (Or.inl ⟨by rfl, ?_⟩) ?_ ?_
  rotate_left
  · intro w'
    go_simp
    with_reducible rfl
  rotate_left
  · simp only [Act.put, List.setIfInBounds_toArray, List.set_cons_zero, List.set_cons_succ, i64_w, i32_w]
    rfl
  refine pure_ (i := 11) (N := some 165) (v := ?_) (a' := ?_) #[true, false, true, true, false, true, false, false, false, true, false, true, false, false, false, false, false, false] rfl rfl (by kernel_rfl) (fun _ _ _ h => h) (Or.inl ⟨by rfl, ?_⟩) ?_ ?_
  rotate_left
  · intro w'
    go_simp
    with_reducible rfl
  rotate_left
  · simp only [Act.put, List.setIfInBounds_toArray, List.set_cons_zero, List.set_cons_succ, i64_w, i32_w]
    rfl
  refine take_ (i := 1) (N := some 155) (v := ?_) (a' := ?_) #[true, true, true, true, false, true, false, false, false, true, false, true, false, false, false, false, false, false] rfl rfl (by kernel_rfl) (fun _ _ _ h => h) (Or.inl ⟨by rfl, ?_⟩) hHeld ?_ ?_
  rotate_left
  · rintro w' ⟨s0, s1, s2, s3, s4⟩
    go_simp
    with_reducible rfl
  rotate_left
  · simp only [Act.put, List.setIfInBounds_toArray, List.set_cons_zero, List.set_cons_succ, i64_w, i32_w]
    rfl
  refine take_ (i := 4) (N := some 158) (v := ?_) (a' := ?_) #[true, true, true, true, true, true, false, false, false, true, false, true, false, false, false, false, false, false] rfl rfl (by kernel_rfl) (fun _ _ _ h => h) (Or.inl ⟨by rfl, ?_⟩) hHeld ?_ ?_
  rotate_left
  · rintro w' ⟨s0, s1, s2, s3, s4⟩
    go_simp
    with_reducible rfl
  rotate_left
  · simp only [Act.put, List.setIfInBounds_toArray, List.set_cons_zero, List.set_cons_succ, i64_w, i32_w]
    rfl
  refine take_ (i := 6) (N := some 160) (v := ?_) (a' := ?_) #[true, true, true, true, true, true, true, false, false, true, false, true, false, false, false, false, false, false] rfl rfl (by kernel_rfl) (fun _ _ _ h => h) (Or.inl ⟨by rfl, ?_⟩) hHeld ?_ ?_
  rotate_left
  · rintro w' ⟨s0, s1, s2, s3, s4⟩
    go_simp
    with_reducible rfl
  rotate_left
  · simp only [Act.put, List.setIfInBounds_toArray, List.set_cons_zero, List.set_cons_succ, i64_w, i32_w]
    rfl
  refine take_ (i := 8) (N := some 162) (v := ?_) (a' := ?_) #[true, true, true, true, true, true, true, false, true, true, false, true, false, false, false, false, false, false] rfl rfl (by kernel_rfl) (fun _ _ _ h => h) (Or.inl ⟨by rfl, ?_⟩) hHeld ?_ ?_
  rotate_left
  · rintro w' ⟨s0, s1, s2, s3, s4⟩
    go_simp
    with_reducible rfl
  rotate_left
  · simp only [Act.put, List.setIfInBounds_toArray, List.set_cons_zero, List.set_cons_succ, i64_w, i32_w]
    rfl
  refine take_ (i := 10) (N := some 164) (v := ?_) (a' := ?_) #[true, true, true, true, true, true, true, false, true, true, true, true, false, false, false, false, false, false] rfl rfl (by kernel_rfl) (fun _ _ _ h => h) (Or.inl ⟨by rfl, ?_⟩) hHeld ?_ ?_
  rotate_left
  · rintro w' ⟨s0, s1, s2, s3, s4⟩
    go_simp
    with_reducible rfl
  rotate_left
  · simp only [Act.put, List.setIfInBounds_toArray, List.set_cons_zero, List.set_cons_succ, i64_w, i32_w]
    rfl
  refine take_ (i := 12) (N := some 166) (v := ?_) (a' := ?_) #[true, true, true, true, true, true, true, false, true, true, true, true, true, false, false, false, false, false] rfl rfl (by kernel_rfl) (fun _ _ _ h => h) (Or.inl ⟨by rfl, ?_⟩) hHeld ?_ ?_
  rotate_left
  · rintro w' ⟨s0, s1, s2, s3, s4⟩
    go_simp
    with_reducible rfl
  rotate_left
  · simp only [Act.put, List.setIfInBounds_toArray, List.set_cons_zero, List.set_cons_succ, i64_w, i32_w]
    rfl
  refine one_ (i := 7) (N := some 161) #[true, true, true, true, true, true, true, true, true, true, true, true, true, false, false, false, false, false] rfl rfl (by kernel_rfl) (by decide) (fun K hK => ?_)
  refine goes_ Try.func18 (by kernel_rfl) rfl #[.pointer pp, .string key, .int .i64 val] (by rfl) rfl rfl (by simp only [List.map_toArray, List.map_cons, List.map_nil]; rfl) ?_
  first | with_reducible refine (cr.out W3 (Chg.refl _ _)).mono ?_ | with_reducible refine (cr.out W3.drew (Chg.refl _ _).drew).mono ?_
  rintro e w4 ⟨v4, rfl, r4, k4⟩
  refine ⟨_, rfl, ?_⟩
  replace k4 : Chg NoB W3 w4 := by first | exact k4 | exact k4.undrew
  replace r4 := Hid.mk' r4
  refine hK.out _ _ ⟨(k4.cell (fun h => h) m0), (k4.cell (fun h => h) m1), (k4.cell (fun h => h) m2), (k4.cell (fun h => h) s1), (k4.cell (fun h => h) s2)⟩ (fun hHeld => ?_)
  clear hK K
  refine norm_ (a' := ?_) ?_ ?_
  rotate_left
  · show Act.put _ (some 161) _ = _
    simp only [Act.put, List.setIfInBounds_toArray, List.set_cons_zero, List.set_cons_succ, i64_w, i32_w]
    rfl
  refine one_ (i := 13) (N := some 167) #[true, true, true, true, true, true, true, true, true, true, true, true, true, true, false, false, false, false] rfl rfl (by kernel_rfl) (by decide) (fun K hK => ?_)
  refine goes_ Try.func37 (by kernel_rfl) rfl #[.agg #[.bool bad, .slice ak nk ck, .slice av nv cv], .string key, .int .i64 val] (by rfl) rfl rfl (by simp only [List.map_toArray, List.map_cons, List.map_nil]; rfl) ?_
  with_reducible refine (cm.out _ k4).mono ?_
  rintro e w5 ⟨v5, rfl, r5, k5⟩
  refine ⟨_, rfl, ?_⟩
  replace r5 := Hid.mk' r5
  have k45 : Chg NoB W3 w5 := k4.trans k5
  refine hK.out _ _ ⟨(k45.cell (fun h => h) m0), (k45.cell (fun h => h) m1), (k45.cell (fun h => h) m2), (k45.cell (fun h => h) s1), (k45.cell (fun h => h) s2)⟩ (fun hHeld => ?_)
  clear hK K
  refine norm_ (a' := ?_) ?_ ?_
  rotate_left
  · show Act.put _ (some 167) _ = _
    simp only [Act.put, List.setIfInBounds_toArray, List.set_cons_zero, List.set_cons_succ, i64_w, i32_w]
    rfl
  refine one_ (i := 14) (N := some 168) #[true, true, true, true, true, true, true, true, true, true, true, true, true, true, true, false, false, false] rfl rfl (by kernel_rfl) (by decide) (fun K hK => ?_)
  refine goes_ Try.func22 (by kernel_rfl) rfl #[v4, v5] (by rfl) rfl rfl (by simp only [List.map_toArray, List.map_cons, List.map_nil]; rfl) ?_
  with_reducible refine (same22 v4 v5 _ _ w5 (r4.out.chg k5 fun _ _ h => h) r5.out hrl.out).mono ?_
  rintro e w6 ⟨he6, n6, hw6⟩
  rw [decide_eq_true rfl] at he6
  obtain rfl := he6
  refine ⟨_, rfl, ?_⟩
  have k46 : Chg NoB W3 w6 := by rw [hw6]; exact k45.drewN n6
  have hz6 := Hid.mk' (k46.heap (fun h => h) hz.out)
  have x0 : w6.cell? ⟨b + 2, 0, none⟩ = some (.bool false) := by rw [cell_of_row w6 (b + 2) 0 _ _ _ hz6.out]; rfl
  have x1 : w6.cell? ⟨b + 2, 1, none⟩ = some (.slice none 0 0) := by rw [cell_of_row w6 (b + 2) 1 _ _ _ hz6.out]; rfl
  have x2 : w6.cell? ⟨b + 2, 2, none⟩ = some (.slice none 0 0) := by rw [cell_of_row w6 (b + 2) 2 _ _ _ hz6.out]; rfl
  have z0 := frozen_of_row w6 (b + 2) 0 _ _ hz6.out
  have z1 := frozen_of_row w6 (b + 2) 1 _ _ hz6.out
  have z2 := frozen_of_row w6 (b + 2) 2 _ _ hz6.out
  replace hw6 := Hid.mk' hw6
  replace k46 := Hid.mk' k46
  refine hK.out _ _ ⟨(k46.out.cell (fun h => h) m0), (k46.out.cell (fun h => h) m1), (k46.out.cell (fun h => h) m2), (k46.out.cell (fun h => h) s1), (k46.out.cell (fun h => h) s2)⟩ (fun hHeld => ?_)
  clear hK K
  refine norm_ (a' := ?_) ?_ ?_
  rotate_left
  · show Act.put _ (some 168) _ = _
    simp only [Act.put, List.setIfInBounds_toArray, List.set_cons_zero, List.set_cons_succ, i64_w, i32_w]
    rfl
  refine pure_ (i := 15) (N := some 6) (v := ?_) (a' := ?_) #[true, true, true, true, true, true, true, true, true, true, true, true, true, true, true, true, false, false] rfl rfl (by kernel_rfl) (fun _ _ _ h => h) (Or.inl ⟨by rfl, ?_⟩) ?_ ?_
  rotate_left
  · intro w'
    go_simp
    with_reducible rfl
  rotate_left
  · simp only [Act.put, List.setIfInBounds_toArray, List.set_cons_zero, List.set_cons_succ, i64_w, i32_w]
    rfl
  refine last_ (i := 16) (N := none) #[true, true, true, true, true, true, true, true, true, true, true, true, true, true, true, true, true, false] rfl rfl (by kernel_rfl) (by decide) (fun K hK => ?_)
  refine skip_ (w1 := ?_) (by rfl) rfl ?_ ?_
  rotate_left
  · go_simp
    rfl
  refine hK.out _ _ ?_
  clear hK K
  refine pure_ (i := 17) (N := some 8) (v := ?_) (a' := ?_) #[true, true, true, true, true, true, true, true, true, true, true, true, true, true, true, true, true, true] rfl rfl (by kernel_rfl) (fun _ _ _ h => h) (Or.inl ⟨by rfl, ?_⟩) ?_ ?_
  rotate_left
  · intro w'
    go_simp
    with_reducible rfl
  rotate_left
  · simp only [Act.put, List.setIfInBounds_toArray, List.set_cons_zero, List.set_cons_succ, i64_w, i32_w]
    rfl
  refine done_ (by kernel_rfl) ?_
  clear m0 m1 m2 s0 s1 s2 s3 y0 y1 y2 z0 z1 z2 x0 x1 x2 hHeld
  go_wp2_with fail
  refine bodyPost_ret (ret_tct rfl _ _ (b + 2) 42 #[.bool bad, .slice ak nk ck, .slice av nv cv] _ rfl (blk3 hz6.out _ _ _) Try.underlying42 rfl (by kernel_rfl)) rfl ?_
  have kf0 : Chg (fun j => j = b + 2) w6 (((w6.setCell ⟨b + 2, 0, none⟩ (.bool bad)).setCell ⟨b + 2, 1, none⟩ (.slice ak nk ck)).setCell ⟨b + 2, 2, none⟩ (.slice av nv cv)) := (((Chg.refl (fun j => j = b + 2) w6).setCell _ (.inl rfl) _).setCell _ (.inl rfl) _).setCell _ (.inl rfl) _
  first
  | (have kf := kf0
     have kc : Chg (fun j => Q j ∧ j < lim) w w6 := (k123.out.trans k46.out).mono fun _ h => h.elim
     have kw : Chg (fun j => Q j ∧ j < lim) w _ := kc.trans' kf (fun j hj => .inr (by have := hbb'.out; omega))
     have kt : ∀ (T : Nat → Prop) w2, Chg T _ w2 → Chg (fun j => T j ∨ j = b + 2) w6 w2 := fun T w2 k2 => (kf.mono fun _ h => .inr h).trans (k2.mono fun _ h => .inl h)
     have hq : ∀ (T : Nat → Prop), (∀ j, T j → lim ≤ j ∧ j < w.heap.size) → ∀ j, (T j ∨ j = b + 2) → lim ≤ j ∧ j < W3.heap.size := fun T hT j hj => by
       have h1 := hbb'.out; have h2 := z3'.out; have h3 := hlim.out
       rcases hj with hj | hj
       · have := hT j hj; omega
       · omega
     have fz : ∀ (T : Nat → Prop) w2, (∀ j, T j → lim ≤ j ∧ j < w.heap.size) → Chg T _ w2 → PSt Q w2 w2.heap.size d bad _ _ _ := fun T w2 hT k2 => by
       have kt' := kt T w2 k2
       have hq' := hq T hT
       exact (ps.out.chgT ((k46.out.mono fun _ h => h.elim).trans kt') (fun j hj => (hq' j hj).1)).up
     exact ⟨_, _, _, rfl, ⟨kw, (fz NoB _ (fun _ h => h.elim) (Chg.refl _ _)).map, fz⟩, Nat.le_succ _⟩)
  | (have kf := kf0.drew
     have kc : Chg (fun j => Q j ∧ j < lim) w w6 := (k123.out.trans k46.out).mono fun _ h => h.elim
     have kw : Chg (fun j => Q j ∧ j < lim) w _ := kc.trans' kf (fun j hj => .inr (by have := hbb'.out; omega))
     have kt : ∀ (T : Nat → Prop) w2, Chg T _ w2 → Chg (fun j => T j ∨ j = b + 2) w6 w2 := fun T w2 k2 => (kf.mono fun _ h => .inr h).trans (k2.mono fun _ h => .inl h)
     have hq : ∀ (T : Nat → Prop), (∀ j, T j → lim ≤ j ∧ j < w.heap.size) → ∀ j, (T j ∨ j = b + 2) → lim ≤ j ∧ j < W3.heap.size := fun T hT j hj => by
       have h1 := hbb'.out; have h2 := z3'.out; have h3 := hlim.out
       rcases hj with hj | hj
       · have := hT j hj; omega
       · omega
     have fz : ∀ (T : Nat → Prop) w2, (∀ j, T j → lim ≤ j ∧ j < w.heap.size) → Chg T _ w2 → PSt Q w2 w2.heap.size d bad _ _ _ := fun T w2 hT k2 => by
       have kt' := kt T w2 k2
       have hq' := hq T hT
       exact (ps.out.chgT ((k46.out.mono fun _ h => h.elim).trans kt') (fun j hj => (hq' j hj).1)).up
     exact ⟨_, _, _, rfl, ⟨kw, (fz NoB _ (fun _ h => h.elim) (Chg.refl _ _)).map, fz⟩, Nat.le_succ _⟩)

set_option maxHeartbeats 8000000 in
set_option maxRecDepth 100000 in
theorem step20_5 (Q : Nat → Prop) (w : World) (lim d : Nat) (bad : Bool) (pp : Option Addr) (mv : Value) (L : List E) (key : ByteArray) (val : Int) (eq : Bool) (h : PSt Q w lim d bad pp mv L) (hl : L.length ≤ 900) :
    Calls Try.prog 20 #[.pointer pp, mv, .agg #[.int .i64 5, .string key, .int .i64 val, .bool eq]] w fun e w' => ∃ pp' mv' L', e = .returned (.tuple #[.pointer pp', mv', .bool true]) ∧ StepEnd Q w w' lim d bad pp' mv' L' ∧ L'.length ≤ L.length + 1 := by
  have hmo := h.map.open
  obtain ⟨ak, nk, ck, av, nv, cv, rfl, -⟩ := hmo
  obtain ⟨W1, hW1⟩ : ∃ W1, W1 = w.alloc (.cells #[.bool bad, .slice ak nk ck, .slice av nv cv] 42) := ⟨_, rfl⟩
  have k1 : Chg NoB w W1 := by rw [hW1]; exact (Chg.refl _ _).alloc _
  obtain ⟨W2, hW2⟩ : ∃ W2, W2 = W1.alloc (.cells #[.int .i64 5, .string key, .int .i64 val, .bool eq] 28) := ⟨_, rfl⟩
  have k2 : Chg NoB W1 W2 := by rw [hW2]; exact (Chg.refl _ _).alloc _
  obtain ⟨W3, hW3⟩ : ∃ W3, W3 = W2.alloc (.cells #[.bool false, .slice none 0 0, .slice none 0 0] 42) := ⟨_, rfl⟩
  have k3 : Chg NoB W2 W3 := by rw [hW3]; exact (Chg.refl _ _).alloc _
  obtain ⟨b, hbb⟩ : ∃ b, b = w.heap.size := ⟨_, rfl⟩
  have z1 : W1.heap.size = b + 1 := by rw [hW1, hbb]; simp
  have z2 : W2.heap.size = b + 2 := by rw [hW2]; simp [z1]
  have z3 : W3.heap.size = b + 3 := by rw [hW3]; simp [z2]
  have hb1 : W1.heap[b]? = some (.cells #[.bool bad, .slice ak nk ck, .slice av nv cv] 42 (0, 0)) := by rw [hW1, hbb]; exact heap_alloc_new _ _
  have hs1 : W2.heap[b + 1]? = some (.cells #[.int .i64 5, .string key, .int .i64 val, .bool eq] 28 (0, 0)) := by rw [hW2, ← z1]; exact heap_alloc_new _ _
  have hz1 : W3.heap[b + 2]? = some (.cells #[.bool false, .slice none 0 0, .slice none 0 0] 42 (0, 0)) := by rw [hW3, ← z2]; exact heap_alloc_new _ _
  have hb := Hid.mk' (k3.heap (fun h => h) (k2.heap (fun h => h) hb1))
  have hs := Hid.mk' (k3.heap (fun h => h) hs1)
  have hz := Hid.mk' hz1
  have ps : Hid (PSt Q W3 lim d bad pp (.agg #[.bool bad, .slice ak nk ck, .slice av nv cv]) L) := h.chg ((k1.trans k2).trans k3)
  have k123 := Hid.mk' ((k1.trans k2).trans k3)
  have hlim : Hid (lim ≤ b) := by show _ ≤ _; rw [hbb]; exact h.2.2.2.1.1
  have hem := Hid.mk' h.empty
  have hW1' := Hid.mk' hW1
  have hW2' := Hid.mk' hW2
  have hW3' := Hid.mk' hW3
  have hbb' := Hid.mk' hbb
  have z3' := Hid.mk' z3
  clear h hW1 hW2 hW3 hbb k1 k2 k3 z1 z2 z3 hb1 hs1 hz1
  have m0 : W3.cell? ⟨b, 0, none⟩ = some (.bool bad) := by rw [cell_of_row W3 (b) 0 _ _ _ hb.out]; rfl
  have m1 : W3.cell? ⟨b, 1, none⟩ = some (.slice ak nk ck) := by rw [cell_of_row W3 (b) 1 _ _ _ hb.out]; rfl
  have m2 : W3.cell? ⟨b, 2, none⟩ = some (.slice av nv cv) := by rw [cell_of_row W3 (b) 2 _ _ _ hb.out]; rfl
  have s0 : W3.cell? ⟨b + 1, 0, none⟩ = some (.int .i64 5) := by rw [cell_of_row W3 (b + 1) 0 _ _ _ hs.out]; rfl
  have s1 : W3.cell? ⟨b + 1, 1, none⟩ = some (.string key) := by rw [cell_of_row W3 (b + 1) 1 _ _ _ hs.out]; rfl
  have s2 : W3.cell? ⟨b + 1, 2, none⟩ = some (.int .i64 val) := by rw [cell_of_row W3 (b + 1) 2 _ _ _ hs.out]; rfl
  have s3 : W3.cell? ⟨b + 1, 3, none⟩ = some (.bool eq) := by rw [cell_of_row W3 (b + 1) 3 _ _ _ hs.out]; rfl
  have y0 : W3.cell? ⟨b + 2, 0, none⟩ = some (.bool false) := by rw [cell_of_row W3 (b + 2) 0 _ _ _ hz.out]; rfl
  have y1 : W3.cell? ⟨b + 2, 1, none⟩ = some (.slice none 0 0) := by rw [cell_of_row W3 (b + 2) 1 _ _ _ hz.out]; rfl
  have y2 : W3.cell? ⟨b + 2, 2, none⟩ = some (.slice none 0 0) := by rw [cell_of_row W3 (b + 2) 2 _ _ _ hz.out]; rfl
  have cc : Hid (∀ W, Chg NoB W3 W → Calls Try.prog 12 #[.pointer pp] W fun e w' => ∃ p2, e = .returned (.pointer p2) ∧ Chg NoB W w' ∧ ∀ (T : Nat → Prop) w2, (∀ j, T j → lim ≤ j ∧ j < W.heap.size) → Chg T w' w2 → PSt Q w2 w2.heap.size d bad p2 (.agg #[.bool bad, .slice ak nk ck, .slice av nv cv]) L) := fun W hW => (ps.out.chg hW).clone
  go_enter Try.func20, Try.ntmps20
  go_wp2_with fail
  rw [← hW1'.out, ← hbb'.out, ← hW2'.out, ← hW3'.out]
  go_upto_region 21 with (fail)
  refine start_ (n := 6) (S := fun w' => w'.cell? ⟨b, 0, none⟩ = some (.bool bad) ∧ w'.cell? ⟨b, 1, none⟩ = some (.slice ak nk ck) ∧ w'.cell? ⟨b, 2, none⟩ = some (.slice av nv cv)) (ds := [4]) #[false, false, false, false, false, false] (by kernel_rfl) rfl rfl ⟨m0, m1, m2⟩ (fun hHeld => ?_)
  refine pure_ (i := 0) (N := some 171) (v := ?_) (a' := ?_) #[true, false, false, false, false, false] rfl rfl (by kernel_rfl) (fun _ _ _ h => h) (Or.inl ⟨by rfl, ?_⟩) ?_ ?_
  rotate_left
  · intro w'
    go_simp
    with_reducible rfl
  rotate_left
  · simp only [Act.put, List.setIfInBounds_toArray, List.set_cons_zero, List.set_cons_succ, i64_w, i32_w]
    rfl
  refine take_ (i := 2) (N := some 173) (v := ?_) (a' := ?_) #[true, false, true, false, false, false] rfl rfl (by kernel_rfl) (fun _ _ _ h => h) (Or.inl ⟨by rfl, ?_⟩) hHeld ?_ ?_
  rotate_left
  · rintro w' ⟨s0, s1, s2⟩
    go_simp
    with_reducible rfl
  rotate_left
  · simp only [Act.put, List.setIfInBounds_toArray, List.set_cons_zero, List.set_cons_succ, i64_w, i32_w]
    rfl
  refine one_ (i := 1) (N := some 172) #[true, true, true, false, false, false] rfl rfl (by kernel_rfl) (by decide) (fun K hK => ?_)
  refine goes_ Try.func12 (by kernel_rfl) rfl #[.pointer pp] (by rfl) rfl rfl (by simp only [List.map_toArray, List.map_cons, List.map_nil]; rfl) ?_
  first | with_reducible refine (cc.out W3 (Chg.refl _ _)).mono ?_ | with_reducible refine (cc.out W3.drew (Chg.refl _ _).drew).mono ?_
  rintro e w6 ⟨p2, rfl, k4, fin⟩
  refine ⟨_, rfl, ?_⟩
  replace fin := Hid.mk' fin
  replace k4 : Chg NoB W3 w6 := by first | exact k4 | exact k4.undrew
  have hz6 := Hid.mk' (k4.heap (fun h => h) hz.out)
  have x0 : w6.cell? ⟨b + 2, 0, none⟩ = some (.bool false) := by rw [cell_of_row w6 (b + 2) 0 _ _ _ hz6.out]; rfl
  have x1 : w6.cell? ⟨b + 2, 1, none⟩ = some (.slice none 0 0) := by rw [cell_of_row w6 (b + 2) 1 _ _ _ hz6.out]; rfl
  have x2 : w6.cell? ⟨b + 2, 2, none⟩ = some (.slice none 0 0) := by rw [cell_of_row w6 (b + 2) 2 _ _ _ hz6.out]; rfl
  have z0 := frozen_of_row w6 (b + 2) 0 _ _ hz6.out
  have z1 := frozen_of_row w6 (b + 2) 1 _ _ hz6.out
  have z2 := frozen_of_row w6 (b + 2) 2 _ _ hz6.out
  replace k4 := Hid.mk' k4
  refine hK.out _ _ ⟨(k4.out.cell (fun h => h) m0), (k4.out.cell (fun h => h) m1), (k4.out.cell (fun h => h) m2)⟩ (fun hHeld => ?_)
  clear hK K
  refine norm_ (a' := ?_) ?_ ?_
  rotate_left
  · show Act.put _ (some 172) _ = _
    simp only [Act.put, List.setIfInBounds_toArray, List.set_cons_zero, List.set_cons_succ, i64_w, i32_w]
    rfl
  refine pure_ (i := 3) (N := some 6) (v := ?_) (a' := ?_) #[true, true, true, true, false, false] rfl rfl (by kernel_rfl) (fun _ _ _ h => h) (Or.inl ⟨by rfl, ?_⟩) ?_ ?_
  rotate_left
  · intro w'
    go_simp
    with_reducible rfl
  rotate_left
  · simp only [Act.put, List.setIfInBounds_toArray, List.set_cons_zero, List.set_cons_succ, i64_w, i32_w]
    rfl
  refine last_ (i := 4) (N := none) #[true, true, true, true, true, false] rfl rfl (by kernel_rfl) (by decide) (fun K hK => ?_)
  refine skip_ (w1 := ?_) (by rfl) rfl ?_ ?_
  rotate_left
  · go_simp
    rfl
  refine hK.out _ _ ?_
  clear hK K
  refine pure_ (i := 5) (N := some 8) (v := ?_) (a' := ?_) #[true, true, true, true, true, true] rfl rfl (by kernel_rfl) (fun _ _ _ h => h) (Or.inl ⟨by rfl, ?_⟩) ?_ ?_
  rotate_left
  · intro w'
    go_simp
    with_reducible rfl
  rotate_left
  · simp only [Act.put, List.setIfInBounds_toArray, List.set_cons_zero, List.set_cons_succ, i64_w, i32_w]
    rfl
  refine done_ (by kernel_rfl) ?_
  clear m0 m1 m2 s0 s1 s2 s3 y0 y1 y2 z0 z1 z2 x0 x1 x2 hHeld
  go_wp2_with fail
  refine bodyPost_ret (ret_tct rfl _ _ (b + 2) 42 #[.bool bad, .slice ak nk ck, .slice av nv cv] _ rfl (blk3 hz6.out _ _ _) Try.underlying42 rfl (by kernel_rfl)) rfl ?_
  have kf0 : Chg (fun j => j = b + 2) w6 (((w6.setCell ⟨b + 2, 0, none⟩ (.bool bad)).setCell ⟨b + 2, 1, none⟩ (.slice ak nk ck)).setCell ⟨b + 2, 2, none⟩ (.slice av nv cv)) := (((Chg.refl (fun j => j = b + 2) w6).setCell _ (.inl rfl) _).setCell _ (.inl rfl) _).setCell _ (.inl rfl) _
  first
  | (have kf := kf0
     have kc : Chg (fun j => Q j ∧ j < lim) w w6 := (k123.out.trans k4.out).mono fun _ h => h.elim
     have kw : Chg (fun j => Q j ∧ j < lim) w _ := kc.trans' kf (fun j hj => .inr (by have := hbb'.out; omega))
     have kt : ∀ (T : Nat → Prop) w2, Chg T _ w2 → Chg (fun j => T j ∨ j = b + 2) w6 w2 := fun T w2 k2 => (kf.mono fun _ h => .inr h).trans (k2.mono fun _ h => .inl h)
     have hq : ∀ (T : Nat → Prop), (∀ j, T j → lim ≤ j ∧ j < w.heap.size) → ∀ j, (T j ∨ j = b + 2) → lim ≤ j ∧ j < W3.heap.size := fun T hT j hj => by
       have h1 := hbb'.out; have h2 := z3'.out; have h3 := hlim.out
       rcases hj with hj | hj
       · have := hT j hj; omega
       · omega
     have fz : ∀ (T : Nat → Prop) w2, (∀ j, T j → lim ≤ j ∧ j < w.heap.size) → Chg T _ w2 → PSt Q w2 w2.heap.size d bad _ _ _ := fun T w2 hT k2 => by
       have kt' := kt T w2 k2
       have hq' := hq T hT
       exact fin.out (fun j => T j ∨ j = b + 2) _ (fun j hj => by have h1 := hq' j hj; first | exact h1 | (simp; omega)) kt'
     exact ⟨_, _, _, rfl, ⟨kw, (fz NoB _ (fun _ h => h.elim) (Chg.refl _ _)).map, fz⟩, Nat.le_succ _⟩)
  | (have kf := kf0.drew
     have kc : Chg (fun j => Q j ∧ j < lim) w w6 := (k123.out.trans k4.out).mono fun _ h => h.elim
     have kw : Chg (fun j => Q j ∧ j < lim) w _ := kc.trans' kf (fun j hj => .inr (by have := hbb'.out; omega))
     have kt : ∀ (T : Nat → Prop) w2, Chg T _ w2 → Chg (fun j => T j ∨ j = b + 2) w6 w2 := fun T w2 k2 => (kf.mono fun _ h => .inr h).trans (k2.mono fun _ h => .inl h)
     have hq : ∀ (T : Nat → Prop), (∀ j, T j → lim ≤ j ∧ j < w.heap.size) → ∀ j, (T j ∨ j = b + 2) → lim ≤ j ∧ j < W3.heap.size := fun T hT j hj => by
       have h1 := hbb'.out; have h2 := z3'.out; have h3 := hlim.out
       rcases hj with hj | hj
       · have := hT j hj; omega
       · omega
     have fz : ∀ (T : Nat → Prop) w2, (∀ j, T j → lim ≤ j ∧ j < w.heap.size) → Chg T _ w2 → PSt Q w2 w2.heap.size d bad _ _ _ := fun T w2 hT k2 => by
       have kt' := kt T w2 k2
       have hq' := hq T hT
       exact fin.out (fun j => T j ∨ j = b + 2) _ (fun j hj => by have h1 := hq' j hj; first | exact h1 | (simp; omega)) kt'
     exact ⟨_, _, _, rfl, ⟨kw, (fz NoB _ (fun _ h => h.elim) (Chg.refl _ _)).map, fz⟩, Nat.le_succ _⟩)

set_option maxHeartbeats 8000000 in
set_option maxRecDepth 100000 in
theorem step20_x (Q : Nat → Prop) (w : World) (lim d : Nat) (bad : Bool) (pp : Option Addr) (mv : Value) (L : List E) (kind : Int) (key : ByteArray) (val : Int) (eq : Bool) (h : PSt Q w lim d bad pp mv L) (hl : L.length ≤ 900) (n0 : kind ≠ 0) (n1 : kind ≠ 1) (n2 : kind ≠ 2) (n3 : kind ≠ 3) (n4 : kind ≠ 4) (n5 : kind ≠ 5) :
    Calls Try.prog 20 #[.pointer pp, mv, .agg #[.int .i64 kind, .string key, .int .i64 val, .bool eq]] w fun e w' => ∃ pp' mv' L', e = .returned (.tuple #[.pointer pp', mv', .bool true]) ∧ StepEnd Q w w' lim d bad pp' mv' L' ∧ L'.length ≤ L.length + 1 := by
  have hmo := h.map.open
  obtain ⟨ak, nk, ck, av, nv, cv, rfl, -⟩ := hmo
  obtain ⟨W1, hW1⟩ : ∃ W1, W1 = w.alloc (.cells #[.bool bad, .slice ak nk ck, .slice av nv cv] 42) := ⟨_, rfl⟩
  have k1 : Chg NoB w W1 := by rw [hW1]; exact (Chg.refl _ _).alloc _
  obtain ⟨W2, hW2⟩ : ∃ W2, W2 = W1.alloc (.cells #[.int .i64 kind, .string key, .int .i64 val, .bool eq] 28) := ⟨_, rfl⟩
  have k2 : Chg NoB W1 W2 := by rw [hW2]; exact (Chg.refl _ _).alloc _
  obtain ⟨W3, hW3⟩ : ∃ W3, W3 = W2.alloc (.cells #[.bool false, .slice none 0 0, .slice none 0 0] 42) := ⟨_, rfl⟩
  have k3 : Chg NoB W2 W3 := by rw [hW3]; exact (Chg.refl _ _).alloc _
  obtain ⟨b, hbb⟩ : ∃ b, b = w.heap.size := ⟨_, rfl⟩
  have z1 : W1.heap.size = b + 1 := by rw [hW1, hbb]; simp
  have z2 : W2.heap.size = b + 2 := by rw [hW2]; simp [z1]
  have z3 : W3.heap.size = b + 3 := by rw [hW3]; simp [z2]
  have hb1 : W1.heap[b]? = some (.cells #[.bool bad, .slice ak nk ck, .slice av nv cv] 42 (0, 0)) := by rw [hW1, hbb]; exact heap_alloc_new _ _
  have hs1 : W2.heap[b + 1]? = some (.cells #[.int .i64 kind, .string key, .int .i64 val, .bool eq] 28 (0, 0)) := by rw [hW2, ← z1]; exact heap_alloc_new _ _
  have hz1 : W3.heap[b + 2]? = some (.cells #[.bool false, .slice none 0 0, .slice none 0 0] 42 (0, 0)) := by rw [hW3, ← z2]; exact heap_alloc_new _ _
  have hb := Hid.mk' (k3.heap (fun h => h) (k2.heap (fun h => h) hb1))
  have hs := Hid.mk' (k3.heap (fun h => h) hs1)
  have hz := Hid.mk' hz1
  have ps : Hid (PSt Q W3 lim d bad pp (.agg #[.bool bad, .slice ak nk ck, .slice av nv cv]) L) := h.chg ((k1.trans k2).trans k3)
  have k123 := Hid.mk' ((k1.trans k2).trans k3)
  have hlim : Hid (lim ≤ b) := by show _ ≤ _; rw [hbb]; exact h.2.2.2.1.1
  have hem := Hid.mk' h.empty
  have hW1' := Hid.mk' hW1
  have hW2' := Hid.mk' hW2
  have hW3' := Hid.mk' hW3
  have hbb' := Hid.mk' hbb
  have z3' := Hid.mk' z3
  clear h hW1 hW2 hW3 hbb k1 k2 k3 z1 z2 z3 hb1 hs1 hz1
  have m0 : W3.cell? ⟨b, 0, none⟩ = some (.bool bad) := by rw [cell_of_row W3 (b) 0 _ _ _ hb.out]; rfl
  have m1 : W3.cell? ⟨b, 1, none⟩ = some (.slice ak nk ck) := by rw [cell_of_row W3 (b) 1 _ _ _ hb.out]; rfl
  have m2 : W3.cell? ⟨b, 2, none⟩ = some (.slice av nv cv) := by rw [cell_of_row W3 (b) 2 _ _ _ hb.out]; rfl
  have s0 : W3.cell? ⟨b + 1, 0, none⟩ = some (.int .i64 kind) := by rw [cell_of_row W3 (b + 1) 0 _ _ _ hs.out]; rfl
  have s1 : W3.cell? ⟨b + 1, 1, none⟩ = some (.string key) := by rw [cell_of_row W3 (b + 1) 1 _ _ _ hs.out]; rfl
  have s2 : W3.cell? ⟨b + 1, 2, none⟩ = some (.int .i64 val) := by rw [cell_of_row W3 (b + 1) 2 _ _ _ hs.out]; rfl
  have s3 : W3.cell? ⟨b + 1, 3, none⟩ = some (.bool eq) := by rw [cell_of_row W3 (b + 1) 3 _ _ _ hs.out]; rfl
  have y0 : W3.cell? ⟨b + 2, 0, none⟩ = some (.bool false) := by rw [cell_of_row W3 (b + 2) 0 _ _ _ hz.out]; rfl
  have y1 : W3.cell? ⟨b + 2, 1, none⟩ = some (.slice none 0 0) := by rw [cell_of_row W3 (b + 2) 1 _ _ _ hz.out]; rfl
  have y2 : W3.cell? ⟨b + 2, 2, none⟩ = some (.slice none 0 0) := by rw [cell_of_row W3 (b + 2) 2 _ _ _ hz.out]; rfl
  have z0 := frozen_of_row W3 (b + 2) 0 _ _ hz.out
  have z1 := frozen_of_row W3 (b + 2) 1 _ _ hz.out
  have z2 := frozen_of_row W3 (b + 2) 2 _ _ hz.out
  have t0 : (kind == 0) = false := by rw [beq_eq_false_iff_ne]; exact n0
  have t1 : (kind == 1) = false := by rw [beq_eq_false_iff_ne]; exact n1
  have t2 : (kind == 2) = false := by rw [beq_eq_false_iff_ne]; exact n2
  have t3 : (kind == 3) = false := by rw [beq_eq_false_iff_ne]; exact n3
  have t4 : (kind == 4) = false := by rw [beq_eq_false_iff_ne]; exact n4
  have t5 : (kind == 5) = false := by rw [beq_eq_false_iff_ne]; exact n5
  go_enter Try.func20, Try.ntmps20
  go_wp2_with fail
  rw [← hW1'.out, ← hbb'.out, ← hW2'.out, ← hW3'.out]
  go_upto_region 22 with (fail)
  refine start_ (n := 5) (S := fun w' => w'.cell? ⟨b, 0, none⟩ = some (.bool bad) ∧ w'.cell? ⟨b, 1, none⟩ = some (.slice ak nk ck) ∧ w'.cell? ⟨b, 2, none⟩ = some (.slice av nv cv)) (ds := [3]) #[false, false, false, false, false] (by kernel_rfl) rfl rfl ⟨m0, m1, m2⟩ (fun hHeld => ?_)
  refine pure_ (i := 0) (N := some 174) (v := ?_) (a' := ?_) #[true, false, false, false, false] rfl rfl (by kernel_rfl) (fun _ _ _ h => h) (Or.inl ⟨by rfl, ?_⟩) ?_ ?_
  rotate_left
  · intro w'
    go_simp
    with_reducible rfl
  rotate_left
  · simp only [Act.put, List.setIfInBounds_toArray, List.set_cons_zero, List.set_cons_succ, i64_w, i32_w]
    rfl
  refine pure_ (i := 2) (N := some 6) (v := ?_) (a' := ?_) #[true, false, true, false, false] rfl rfl (by kernel_rfl) (fun _ _ _ h => h) (Or.inl ⟨by rfl, ?_⟩) ?_ ?_
  rotate_left
  · intro w'
    go_simp
    with_reducible rfl
  rotate_left
  · simp only [Act.put, List.setIfInBounds_toArray, List.set_cons_zero, List.set_cons_succ, i64_w, i32_w]
    rfl
  refine take_ (i := 1) (N := some 175) (v := ?_) (a' := ?_) #[true, true, true, false, false] rfl rfl (by kernel_rfl) (fun _ _ _ h => h) (Or.inl ⟨by rfl, ?_⟩) hHeld ?_ ?_
  rotate_left
  · rintro w' ⟨s0, s1, s2⟩
    go_simp
    with_reducible rfl
  rotate_left
  · simp only [Act.put, List.setIfInBounds_toArray, List.set_cons_zero, List.set_cons_succ, i64_w, i32_w]
    rfl
  refine last_ (i := 3) (N := none) #[true, true, true, true, false] rfl rfl (by kernel_rfl) (by decide) (fun K hK => ?_)
  refine skip_ (w1 := ?_) (by rfl) rfl ?_ ?_
  rotate_left
  · go_simp
    rfl
  refine hK.out _ _ ?_
  clear hK K
  refine pure_ (i := 4) (N := some 8) (v := ?_) (a' := ?_) #[true, true, true, true, true] rfl rfl (by kernel_rfl) (fun _ _ _ h => h) (Or.inl ⟨by rfl, ?_⟩) ?_ ?_
  rotate_left
  · intro w'
    go_simp
    with_reducible rfl
  rotate_left
  · simp only [Act.put, List.setIfInBounds_toArray, List.set_cons_zero, List.set_cons_succ, i64_w, i32_w]
    rfl
  refine done_ (by kernel_rfl) ?_
  clear m0 m1 m2 s0 s1 s2 s3 y0 y1 y2 z0 z1 z2 hHeld
  go_wp2_with fail
  refine bodyPost_ret (ret_tct rfl _ _ (b + 2) 42 #[.bool bad, .slice ak nk ck, .slice av nv cv] _ rfl (blk3 hz.out _ _ _) Try.underlying42 rfl (by kernel_rfl)) rfl ?_
  have kf0 : Chg (fun j => j = b + 2) W3 (((W3.setCell ⟨b + 2, 0, none⟩ (.bool bad)).setCell ⟨b + 2, 1, none⟩ (.slice ak nk ck)).setCell ⟨b + 2, 2, none⟩ (.slice av nv cv)) := (((Chg.refl (fun j => j = b + 2) W3).setCell _ (.inl rfl) _).setCell _ (.inl rfl) _).setCell _ (.inl rfl) _
  first
  | (have kf := kf0
     have kc : Chg (fun j => Q j ∧ j < lim) w W3 := k123.out.mono fun _ h => h.elim
     have kw : Chg (fun j => Q j ∧ j < lim) w _ := kc.trans' kf (fun j hj => .inr (by have := hbb'.out; omega))
     have kt : ∀ (T : Nat → Prop) w2, Chg T _ w2 → Chg (fun j => T j ∨ j = b + 2) W3 w2 := fun T w2 k2 => (kf.mono fun _ h => .inr h).trans (k2.mono fun _ h => .inl h)
     have hq : ∀ (T : Nat → Prop), (∀ j, T j → lim ≤ j ∧ j < w.heap.size) → ∀ j, (T j ∨ j = b + 2) → lim ≤ j ∧ j < W3.heap.size := fun T hT j hj => by
       have h1 := hbb'.out; have h2 := z3'.out; have h3 := hlim.out
       rcases hj with hj | hj
       · have := hT j hj; omega
       · omega
     have fz : ∀ (T : Nat → Prop) w2, (∀ j, T j → lim ≤ j ∧ j < w.heap.size) → Chg T _ w2 → PSt Q w2 w2.heap.size d bad _ _ _ := fun T w2 hT k2 => by
       have kt' := kt T w2 k2
       have hq' := hq T hT
       exact (ps.out.chgT (kt') (fun j hj => (hq' j hj).1)).up
     exact ⟨_, _, _, rfl, ⟨kw, (fz NoB _ (fun _ h => h.elim) (Chg.refl _ _)).map, fz⟩, Nat.le_succ _⟩)
  | (have kf := kf0.drew
     have kc : Chg (fun j => Q j ∧ j < lim) w W3 := k123.out.mono fun _ h => h.elim
     have kw : Chg (fun j => Q j ∧ j < lim) w _ := kc.trans' kf (fun j hj => .inr (by have := hbb'.out; omega))
     have kt : ∀ (T : Nat → Prop) w2, Chg T _ w2 → Chg (fun j => T j ∨ j = b + 2) W3 w2 := fun T w2 k2 => (kf.mono fun _ h => .inr h).trans (k2.mono fun _ h => .inl h)
     have hq : ∀ (T : Nat → Prop), (∀ j, T j → lim ≤ j ∧ j < w.heap.size) → ∀ j, (T j ∨ j = b + 2) → lim ≤ j ∧ j < W3.heap.size := fun T hT j hj => by
       have h1 := hbb'.out; have h2 := z3'.out; have h3 := hlim.out
       rcases hj with hj | hj
       · have := hT j hj; omega
       · omega
     have fz : ∀ (T : Nat → Prop) w2, (∀ j, T j → lim ≤ j ∧ j < w.heap.size) → Chg T _ w2 → PSt Q w2 w2.heap.size d bad _ _ _ := fun T w2 hT k2 => by
       have kt' := kt T w2 k2
       have hq' := hq T hT
       exact (ps.out.chgT (kt') (fun j hj => (hq' j hj).1)).up
     exact ⟨_, _, _, rfl, ⟨kw, (fz NoB _ (fun _ h => h.elim) (Chg.refl _ _)).map, fz⟩, Nat.le_succ _⟩)

theorem step20 (Q : Nat → Prop) (w : World) (lim d : Nat) (bad : Bool) (pp : Option Addr) (mv : Value) (L : List E) (kind : Int) (key : ByteArray) (val : Int) (eq : Bool) (h : PSt Q w lim d bad pp mv L) (hl : L.length ≤ 900) :
    Calls Try.prog 20 #[.pointer pp, mv, .agg #[.int .i64 kind, .string key, .int .i64 val, .bool eq]] w fun e w' => ∃ pp' mv' L', e = .returned (.tuple #[.pointer pp', mv', .bool true]) ∧ StepEnd Q w w' lim d bad pp' mv' L' ∧ L'.length ≤ L.length + 1 := by
  by_cases n0 : kind = 0
  · subst n0; exact step20_0 Q w lim d bad pp mv L key val eq h hl
  by_cases n1 : kind = 1
  · subst n1; exact step20_1 Q w lim d bad pp mv L key val eq h hl
  by_cases n2 : kind = 2
  · subst n2; exact step20_2 Q w lim d bad pp mv L key val eq h hl
  by_cases n3 : kind = 3
  · subst n3; exact step20_3 Q w lim d bad pp mv L key val eq h hl
  by_cases n4 : kind = 4
  · subst n4; exact step20_4 Q w lim d bad pp mv L key val eq h hl
  by_cases n5 : kind = 5
  · subst n5; exact step20_5 Q w lim d bad pp mv L key val eq h hl
  exact step20_x Q w lim d bad pp mv L kind key val eq h hl n0 n1 n2 n3 n4 n5
end Go.Proofs.Ytamnmoejjjaegaa
