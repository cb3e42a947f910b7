/- awake returns true. No conditions but the laid tables. -/
import Derived.Test.YtgnnjkmlnfdngaaDoorU
import Derived.Test.YtgnnjkmlnfdngaaDoorO
set_option linter.unusedVariables false
set_option linter.unusedSimpArgs false
namespace Go.Proofs.YtgnnjkmlnfdngaaDoor
open Go Go.RowKit Go.Sort

theorem itoa_small (u : Nat) (h : u < 10) : Lib.itoa (u : Int) = [UInt8.ofNat (48 + u)] := by
  unfold Lib.itoa
  rw [if_neg (by omega), Int.toNat_natCast, decDigits_small u h]
def awNames : List (List UInt8) := [[97], [98, 98]]
def awRows : List (List (List UInt8)) := [[[49], [50]], [[51, 51, 51]]]
theorem aw_table : tv (TableL awNames awRows) = .string ⟨#[97, 32, 32, 32, 32, 98, 98, 10, 45, 45, 45, 32, 32, 45, 45, 10, 49, 32, 32, 32, 32, 50, 10, 51, 51, 51, 10]⟩ := by kernel_rfl
def awC : List Prob := [(2, [47, 97], 0)]
def awM : List Prob := [(6, [65, 49], 7)]
theorem aw_audit : tv (auditL awC awM [[47, 98]] (-1)) = .string ⟨([99, 97, 116, 97, 108, 111, 103, 32, 99, 108, 97, 115, 115, 32, 47, 97, 10, 109, 101, 100, 105, 97, 32, 99, 111, 112, 121, 32, 65, 49, 32, 55].append [10, 108, 111, 115, 116, 32, 47, 98, 10, 112, 114, 111, 98, 108, 101, 109, 115, 32, 51, 44, 32, 109, 97, 114, 103, 105, 110, 32, 110, 111, 110, 101, 10]).toArray⟩ := by
  have h7 : Lib.itoa 7 = [55] := itoa_small 7 (by omega)
  have h3 : Lib.itoa 3 = [51] := itoa_small 3 (by omega)
  have e1 : probsL catW awC = [99, 97, 116, 97, 108, 111, 103, 32, 99, 108, 97, 115, 115, 32, 47, 97, 10] := by kernel_rfl
  have e2 : probsL mediaW awM = [109, 101, 100, 105, 97, 32, 99, 111, 112, 121, 32, 65, 49] ++ (32 :: Lib.itoa 7) ++ [10] := by kernel_rfl
  have e3 : lostL [[47, 98]] = [108, 111, 115, 116, 32, 47, 98, 10] := by kernel_rfl
  have e4 : endL ((awC.length : Int) + (awM.length : Int) + (([[47, 98]] : List (List UInt8)).length : Int)) (-1) = probW ++ Lib.itoa 3 ++ marW ++ noneW := by kernel_rfl
  unfold auditL
  rw [e1, e2, e3, e4, h7, h3]
  rfl
theorem aw_quant : tv (quantL 2048) = .string ⟨#[50, 75]⟩ := by
  have h2 : Lib.itoa 2 = [50] := itoa_small 2 (by omega)
  have e : quantL 2048 = Lib.itoa 2 ++ [75] := by kernel_rfl
  rw [e, h2]
  rfl
theorem aw_error : tv (errorL 12) = .string ⟨#[110, 111, 32, 115, 112, 97, 99, 101, 32, 108, 101, 102, 116]⟩ := by kernel_rfl

theorem sl_of (w : World) (g : Nat) (xs : List Value) (n : Nat) (hn : n = xs.length) (h : ∀ j x, xs[j]? = some x → w.cell? ⟨g, j, none⟩ = some x) : Sl w (.slice (some ⟨g, 0, none⟩) n n) xs := by
  subst hn
  exact .inr ⟨g, 0, xs.length, rfl, Nat.le_refl _, fun j y hy => by rw [Nat.zero_add]; exact h j y hy⟩
theorem slp_of (w : World) (g : Nat) (p : Prob) (h0 : w.cell? ⟨g, 0, none⟩ = some (.int .i64 p.1)) (h1 : w.cell? ⟨g, 1, none⟩ = some (tv p.2.1)) (h2 : w.cell? ⟨g, 2, none⟩ = some (.int .i64 p.2.2)) : SlP w (.slice (some ⟨g, 0, none⟩) 1 1) [p] :=
  .inr ⟨g, 0, 1, rfl, Nat.le_refl _, fun j q hq => by
    obtain rfl : j = 0 := by have := (List.getElem?_eq_some_iff.1 hq).1; simpa using this
    obtain rfl : p = q := by simpa using hq
    exact ⟨h0, h1, h2⟩⟩
/-- A literal of cells behind later blocks. -/
theorem lit_cells {w w' : World} (t : TypeId) (cs : List Value) (k : Chg NoB (w.alloc (.cells cs.toArray t)) w') (j : Nat) (x : Value) (hx : cs[j]? = some x) : w'.cell? ⟨w.heap.size, j, none⟩ = some x := by
  refine k.cell (fun h => h) ?_
  rw [cell_of_row _ _ j _ _ _ (heap_alloc_new w _)]
  simpa using hx

set_option maxHeartbeats 8000000 in
set_option maxRecDepth 100000 in
theorem awake12 (w : World) (hL : Lay w) :
    Calls Tryd.prog 12 #[] w fun e w' => e = .returned (.bool true) ∧ Chg NoB w w' := by
  have hL' := Hid.mk' hL
  obtain ⟨w1, hw1⟩ : ∃ w1, w.alloc (Obj.cells #[Value.int IntKind.i64 2, Value.string { data := #[47, 97] }, Value.int IntKind.i64 0] 64) = w1 := ⟨_, rfl⟩
  obtain ⟨w2, hw2⟩ : ∃ w2, w1.alloc (Obj.cells #[Value.int IntKind.i64 6, Value.string { data := #[65, 49] }, Value.int IntKind.i64 7] 64) = w2 := ⟨_, rfl⟩
  obtain ⟨w3, hw3⟩ : ∃ w3, w2.alloc (Obj.cells #[Value.string { data := #[47, 98] }] 9) = w3 := ⟨_, rfl⟩
  obtain ⟨w4, hw4⟩ : ∃ w4, w3.alloc (Obj.cells #[Value.slice (some { block := w.heap.size, off := 0 }) 1 1, Value.slice (some { block := w.heap.size + 1, off := 0 }) 1 1, Value.slice (some { block := w.heap.size + 1 + 1, off := 0 }) 1 1, Value.int IntKind.i64 (-1)] 31) = w4 := ⟨_, rfl⟩
  obtain ⟨w5, hw5⟩ : ∃ w5, w4.alloc (Obj.cells #[Value.string { data := #[97] }, Value.string { data := #[98, 98] }] 9) = w5 := ⟨_, rfl⟩
  obtain ⟨w6, hw6⟩ : ∃ w6, w5.alloc (Obj.cells #[Value.string { data := #[49] }, Value.string { data := #[50] }] 9) = w6 := ⟨_, rfl⟩
  obtain ⟨w7, hw7⟩ : ∃ w7, w6.alloc (Obj.cells #[Value.string { data := #[51, 51, 51] }] 9) = w7 := ⟨_, rfl⟩
  obtain ⟨w8, hw8⟩ : ∃ w8, w7.alloc (Obj.cells #[Value.slice (some { block := w.heap.size + 1 + 1 + 1 + 1 + 1, off := 0 }) 2 2, Value.slice (some { block := w.heap.size + 1 + 1 + 1 + 1 + 1 + 1, off := 0 }) 1 1] 22) = w8 := ⟨_, rfl⟩
  have s1 : w1.heap.size = w.heap.size + 1 := by rw [← hw1]; simp
  have s2 : w2.heap.size = w.heap.size + 1 + 1 := by rw [← hw2, ← s1]; simp
  have s3 : w3.heap.size = w.heap.size + 1 + 1 + 1 := by rw [← hw3, ← s2]; simp
  have s4 : w4.heap.size = w.heap.size + 1 + 1 + 1 + 1 := by rw [← hw4, ← s3]; simp
  have s5 : w5.heap.size = w.heap.size + 1 + 1 + 1 + 1 + 1 := by rw [← hw5, ← s4]; simp
  have s6 : w6.heap.size = w.heap.size + 1 + 1 + 1 + 1 + 1 + 1 := by rw [← hw6, ← s5]; simp
  have s7 : w7.heap.size = w.heap.size + 1 + 1 + 1 + 1 + 1 + 1 + 1 := by rw [← hw7, ← s6]; simp
  have k8 : Chg NoB w8 w8 := Chg.refl _ _
  have k7 : Chg NoB w7 w8 := by rw [← hw8]; exact (Chg.refl _ _).alloc _
  have k6 : Chg NoB w6 w8 := by rw [← hw7] at k7; exact ((Chg.refl _ _).alloc _).trans k7
  have k5 : Chg NoB w5 w8 := by rw [← hw6] at k6; exact ((Chg.refl _ _).alloc _).trans k6
  have k4 : Chg NoB w4 w8 := by rw [← hw5] at k5; exact ((Chg.refl _ _).alloc _).trans k5
  have k3 : Chg NoB w3 w8 := by rw [← hw4] at k4; exact ((Chg.refl _ _).alloc _).trans k4
  have k2 : Chg NoB w2 w8 := by rw [← hw3] at k3; exact ((Chg.refl _ _).alloc _).trans k3
  have k1 : Chg NoB w1 w8 := by rw [← hw2] at k2; exact ((Chg.refl _ _).alloc _).trans k2
  have k0 : Chg NoB w w8 := by rw [← hw1] at k1; exact ((Chg.refl _ _).alloc _).trans k1
  have b0 := lit_cells (w := w) 64 [Value.int IntKind.i64 2, Value.string { data := #[47, 97] }, Value.int IntKind.i64 0] (by rw [← hw1] at k1; exact k1)
  have b1 := lit_cells (w := w1) 64 [Value.int IntKind.i64 6, Value.string { data := #[65, 49] }, Value.int IntKind.i64 7] (by rw [← hw2] at k2; exact k2)
  have b2 := lit_cells (w := w2) 9 [Value.string { data := #[47, 98] }] (by rw [← hw3] at k3; exact k3)
  have b3 := lit_cells (w := w3) 31 [Value.slice (some { block := w.heap.size, off := 0 }) 1 1, Value.slice (some { block := w.heap.size + 1, off := 0 }) 1 1, Value.slice (some { block := w.heap.size + 1 + 1, off := 0 }) 1 1, Value.int IntKind.i64 (-1)] (by rw [← hw4] at k4; exact k4)
  have b4 := lit_cells (w := w4) 9 [Value.string { data := #[97] }, Value.string { data := #[98, 98] }] (by rw [← hw5] at k5; exact k5)
  have b5 := lit_cells (w := w5) 9 [Value.string { data := #[49] }, Value.string { data := #[50] }] (by rw [← hw6] at k6; exact k6)
  have b6 := lit_cells (w := w6) 9 [Value.string { data := #[51, 51, 51] }] (by rw [← hw7] at k7; exact k7)
  have b7 := lit_cells (w := w7) 22 [Value.slice (some { block := w.heap.size + 1 + 1 + 1 + 1 + 1, off := 0 }) 2 2, Value.slice (some { block := w.heap.size + 1 + 1 + 1 + 1 + 1 + 1, off := 0 }) 1 1] (by rw [hw8]; exact k8)
  rw [s1] at b1
  rw [s2] at b2
  rw [s3] at b3
  rw [s4] at b4
  rw [s5] at b5
  rw [s6] at b6
  rw [s7] at b7
  have t10 := Table10 (.slice (some ⟨w.heap.size + 1 + 1 + 1 + 1, 0, none⟩) 2 2) (.slice (some ⟨w.heap.size + 1 + 1 + 1 + 1 + 1 + 1 + 1, 0, none⟩) 2 2) awNames awRows w8
    (sl_of _ _ _ _ rfl b4) ⟨_, rfl, sl_of _ _ _ _ rfl b7, fun k u r hu hr => by
      match k with
      | 0 =>
        simp [awRows] at hu hr
        subst hu hr
        exact sl_of _ _ _ _ rfl b5
      | 1 =>
        simp [awRows] at hu hr
        subst hu hr
        exact sl_of _ _ _ _ rfl b6
      | k + 2 => simp at hu⟩
    (by decide) (by decide) (by decide) (by decide)
  rw [aw_table] at t10
  have t14 : ∀ w', Chg NoB w8 w' → Calls Tryd.prog 14 #[.agg #[Value.slice (some { block := w.heap.size, off := 0 }) 1 1, Value.slice (some { block := w.heap.size + 1, off := 0 }) 1 1, Value.slice (some { block := w.heap.size + 1 + 1, off := 0 }) 1 1, Value.int IntKind.i64 (-1)]] w' fun e w'' => e = .returned (tv (auditL awC awM [[47, 98]] (-1))) ∧ Chg NoB w' w'' := fun w' k => by
    refine Audit14 _ _ _ awC awM [[47, 98]] (-1) w' ((slp_of w8 _ _ (b0 0 _ rfl) (b0 1 _ rfl) (b0 2 _ rfl)).new k) ((slp_of w8 _ _ (b1 0 _ rfl) (b1 1 _ rfl) (b1 2 _ rfl)).new k) ((sl_of w8 _ _ _ rfl b2).new k) (hL'.out.new (k0.trans k)) (by decide) (by decide) (by decide) ?_ ?_ (by decide) ⟨by decide, by decide⟩
    · intro p hp
      obtain rfl := List.mem_singleton.1 hp
      exact ⟨⟨by decide, by decide⟩, by decide, ⟨by decide, by decide⟩⟩
    · intro p hp
      obtain rfl := List.mem_singleton.1 hp
      exact ⟨⟨by decide, by decide⟩, by decide, ⟨by decide, by decide⟩⟩
  rw [aw_audit] at t14
  have t16 : ∀ w', Chg NoB w8 w' → Calls Tryd.prog 16 #[.int .i64 2048] w' fun e w'' => e = .returned (tv (quantL 2048)) ∧ Chg NoB w' w'' := fun w' k => Quantity16 2048 (by decide) (by decide) w' (hL'.out.new (k0.trans k))
  rw [aw_quant] at t16
  have t17 : ∀ w', Chg NoB w8 w' → Calls Tryd.prog 17 #[.int .i64 12] w' fun e w'' => e = .returned (tv (errorL 12)) ∧ Chg NoB w' w'' := fun w' k => Error17 12 (by decide) (by decide) w' (hL'.out.new (k0.trans k))
  rw [aw_error] at t17
  have t10' := Hid.mk' t10
  have t14' := Hid.mk' t14
  have t16' := Hid.mk' t16
  have t17' := Hid.mk' t17
  have k0' := Hid.mk' k0
  have g : Hid (∀ w', Chg NoB w8 w' → ∀ j x, #[Value.slice (some { block := w.heap.size, off := 0 }) 1 1, Value.slice (some { block := w.heap.size + 1, off := 0 }) 1 1, Value.slice (some { block := w.heap.size + 1 + 1, off := 0 }) 1 1, Value.int IntKind.i64 (-1)][j]? = some x → w'.cell? ⟨w.heap.size + 1 + 1 + 1, j, none⟩ = some x) := fun w' k j x hx => k.cell (fun h => h) (b3 j x (by simpa using hx))
  have hw' : Hid ((((((((w.alloc (Obj.cells #[Value.int IntKind.i64 2, Value.string { data := #[47, 97] }, Value.int IntKind.i64 0] 64)).alloc (Obj.cells #[Value.int IntKind.i64 6, Value.string { data := #[65, 49] }, Value.int IntKind.i64 7] 64)).alloc (Obj.cells #[Value.string { data := #[47, 98] }] 9)).alloc (Obj.cells #[Value.slice (some { block := w.heap.size, off := 0 }) 1 1, Value.slice (some { block := w.heap.size + 1, off := 0 }) 1 1, Value.slice (some { block := w.heap.size + 1 + 1, off := 0 }) 1 1, Value.int IntKind.i64 (-1)] 31)).alloc (Obj.cells #[Value.string { data := #[97] }, Value.string { data := #[98, 98] }] 9)).alloc (Obj.cells #[Value.string { data := #[49] }, Value.string { data := #[50] }] 9)).alloc (Obj.cells #[Value.string { data := #[51, 51, 51] }] 9)).alloc (Obj.cells #[Value.slice (some { block := w.heap.size + 1 + 1 + 1 + 1 + 1, off := 0 }) 2 2, Value.slice (some { block := w.heap.size + 1 + 1 + 1 + 1 + 1 + 1, off := 0 }) 1 1] 22) = w8) := by
    show _ = _
    rw [hw1, hw2, hw3, hw4, hw5, hw6, hw7, hw8]
  clear hL t10 t14 t16 t17 b0 b1 b2 b3 b4 b5 b6 b7 k0 k1 k2 k3 k4 k5 k6 k7 k8 s1 s2 s3 s4 s5 s6 s7 hw1 hw2 hw3 hw4 hw5 hw6 hw7 hw8
  go_enter Tryd.func12, Tryd.ntmps12
  go_wp2_with fail
  rw [hw'.out]
  refine t10'.out.mono ?_
  rintro e wa ⟨rfl, ka⟩
  have x0 := g.out wa ka 0 _ rfl
  have x1 := g.out wa ka 1 _ rfl
  have x2 := g.out wa ka 2 _ rfl
  have x3 := g.out wa ka 3 _ rfl
  replace ka := Hid.mk' ka
  go_wp2_with (first
    | (go_at_call 14; refine (t14'.out _ ka.out).mono ?_; rintro e wb ⟨rfl, kb⟩; replace kb := Hid.mk' (ka.out.trans kb))
    | (go_at_call 16; refine (t16'.out _ kb.out).mono ?_; rintro e wc ⟨rfl, kc⟩; replace kc := Hid.mk' (kb.out.trans kc))
    | (go_at_call 17; refine (t17'.out _ kc.out).mono ?_; rintro e wd ⟨rfl, kd⟩; replace kd := Hid.mk' (kc.out.trans kd)))
  go_ret
  exact ⟨rfl, k0'.out.trans kd.out⟩
end Go.Proofs.YtgnnjkmlnfdngaaDoor
