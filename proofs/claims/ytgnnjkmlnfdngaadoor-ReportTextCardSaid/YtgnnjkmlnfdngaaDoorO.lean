/- Quantity, Error of the reference and of the program. No conditions but the laid tables. -/
import Derived.Test.YtgnnjkmlnfdngaaDoorK
import Derived.Great.BuildSlice
set_option linter.unusedVariables false
set_option linter.unusedSimpArgs false
namespace Go.Proofs.YtgnnjkmlnfdngaaDoor
open Go Go.RowKit Go.Sort

theorem tmod_1024 (n : Int) (h : n.tmod 1048576 = 0) : n.tmod 1024 = 0 := by
  have : (1048576 : Int) ∣ n := Int.dvd_of_tmod_eq_zero h
  exact Int.tmod_eq_zero_of_dvd (Int.dvd_trans (by decide) this)

set_option maxHeartbeats 4000000 in
set_option maxRecDepth 100000 in
theorem Quantity19 (n : Int) (h0 : -9223372036854775808 ≤ n) (h1 : n ≤ 9223372036854775807) (w : World) :
    Calls Tryd.prog 19 #[.int .i64 n] w fun e w' => e = .returned (tv (quantL n)) ∧ Chg NoB w w' := by
  have hw : ∀ m : Int, 1 ≤ m → IntKind.i64.wrap (n.tdiv m) = n.tdiv m := fun m hm => by
    have := tdiv_range n m hm h0 h1
    rw [IntKind.wrap_i64]; omega
  have r1 := tdiv_range n 1048576 (by omega) h0 h1
  have r2 := tdiv_range n 1024 (by omega) h0 h1
  by_cases c1 : n ≠ 0 ∧ n.tmod 1048576 = 0
  · have c30 := number20 (n.tdiv 1048576) r1.1 r1.2 w
    have lt := itoa_le (n.tdiv 1048576) r1.1 r1.2
    have hq : quantL n = Lib.itoa (n.tdiv 1048576) ++ [77] := by unfold quantL; rw [if_pos c1]
    rw [hq]
    have w1 := hw 1048576 (by omega)
    obtain ⟨L, hLL⟩ : ∃ L, Lib.itoa (n.tdiv 1048576) = L := ⟨_, rfl⟩
    rw [hLL] at c30 lt ⊢
    obtain ⟨B, hB⟩ : ∃ B, bsOf L = B := ⟨_, rfl⟩
    have sz : B.size = L.length := by rw [← hB, size_bsOf]
    have b1 : L.length + 1 ≤ 9223372036854775807 := by omega
    rw [← strAdd L B hB [77]]
    unfold tv at c30
    rw [hB] at c30
    have c30' := Hid.mk' c30
    obtain ⟨c1a, c1b⟩ := c1
    have m1 : n.tmod 1024 = 0 := tmod_1024 n c1b
    have c1c : (n == 0) = false := by rw [beq_eq_false_iff_ne]; exact c1a
    have c1d : (n.tmod 1048576 == 0) = true := by rw [beq_iff_eq]; exact c1b
    clear h0 h1 r1 r2 c30 lt hq hLL hw hB
    go_enter Tryd.func19, Tryd.ntmps19
    go_wp2_with (go_at_call 20; refine c30'.out.mono ?_; rintro e w2 ⟨rfl, k2⟩)
    go_ret
    exact ⟨rfl, k2⟩
  · by_cases c2 : n ≠ 0 ∧ n.tmod 1024 = 0
    · have c30 := number20 (n.tdiv 1024) r2.1 r2.2 w
      have lt := itoa_le (n.tdiv 1024) r2.1 r2.2
      have hq : quantL n = Lib.itoa (n.tdiv 1024) ++ [75] := by unfold quantL; rw [if_neg c1, if_pos c2]
      rw [hq]
      have w1 := hw 1024 (by omega)
      obtain ⟨L, hLL⟩ : ∃ L, Lib.itoa (n.tdiv 1024) = L := ⟨_, rfl⟩
      rw [hLL] at c30 lt ⊢
      obtain ⟨B, hB⟩ : ∃ B, bsOf L = B := ⟨_, rfl⟩
      have sz : B.size = L.length := by rw [← hB, size_bsOf]
      have b1 : L.length + 1 ≤ 9223372036854775807 := by omega
      rw [← strAdd L B hB [75]]
      unfold tv at c30
      rw [hB] at c30
      have c30' := Hid.mk' c30
      obtain ⟨c1a, c1b⟩ := c2
      have c1c : (n == 0) = false := by rw [beq_eq_false_iff_ne]; exact c1a
      have c1d : (n.tmod 1048576 == 0) = false := by rw [beq_eq_false_iff_ne]; exact fun h => c1 ⟨c1a, h⟩
      have c1f : ¬ n.tmod 1048576 = 0 := fun h => c1 ⟨c1a, h⟩
      have c1e : (n.tmod 1024 == 0) = true := by rw [beq_iff_eq]; exact c1b
      clear h0 h1 r1 r2 c30 lt hq hLL hw hB c1
      go_enter Tryd.func19, Tryd.ntmps19
      go_wp2_with (go_at_call 20; refine c30'.out.mono ?_; rintro e w2 ⟨rfl, k2⟩)
      go_ret
      exact ⟨rfl, k2⟩
    · have c30 := number20 n h0 h1 w
      have hq : quantL n = Lib.itoa n := by unfold quantL; rw [if_neg c1, if_neg c2]
      rw [hq]
      obtain ⟨L, hLL⟩ : ∃ L, Lib.itoa n = L := ⟨_, rfl⟩
      rw [hLL] at c30 ⊢
      have c30' := Hid.mk' c30
      by_cases hn : n = 0
      · subst hn
        clear h0 h1 r1 r2 c30 hq hLL hw c1 c2
        go_enter Tryd.func19, Tryd.ntmps19
        go_wp2_with (go_at_call 20; refine c30'.out.mono ?_; rintro e w2 ⟨rfl, k2⟩)
        go_ret
        exact ⟨rfl, k2⟩
      · have c1c : (n == 0) = false := by rw [beq_eq_false_iff_ne]; exact hn
        have c1d : (n.tmod 1048576 == 0) = false := by rw [beq_eq_false_iff_ne]; exact fun h => c1 ⟨hn, h⟩
        have c1f : ¬ n.tmod 1048576 = 0 := fun h => c1 ⟨hn, h⟩
        have c2d : (n.tmod 1024 == 0) = false := by rw [beq_eq_false_iff_ne]; exact fun h => c2 ⟨hn, h⟩
        have c2f : ¬ n.tmod 1024 = 0 := fun h => c2 ⟨hn, h⟩
        clear h0 h1 r1 r2 c30 hq hLL hw c1 c2
        go_enter Tryd.func19, Tryd.ntmps19
        go_wp2_with (go_at_call 20; refine c30'.out.mono ?_; rintro e w2 ⟨rfl, k2⟩)
        go_ret
        exact ⟨rfl, k2⟩

theorem ret_c {P : Program} {fn : Func} {p : Tmp} {ty : TypeId} (h : fn.results = #[.cell p ty]) (tmps : Array Value) (w : World) (g : Nat) (t : TypeId) (cs : Array Value) (d : TypeDesc)
    (hp : tmps.getD p undef = .pointer (some ⟨g, 0, none⟩)) (hg : w.heap[g]? = some (.cells cs t (0, 0)))
    (hu : P.underlying ty = some d) (hd : (match d with | .struct _ | .array _ _ => true | _ => false) = true) (hi : (P.info? ty).map (·.size) = some cs.size) :
    (results fn tmps).run P w = .ok (.agg cs) w := by
  have hp' : tmps[p]?.getD undef = .pointer (some ⟨g, 0, none⟩) := by simpa using hp
  simp [results, h, hp', asAddr, run_loadVar_row w g t ty cs (0, 0) d hg hu hd hi]

/-- The words for errors. -/
def errsL : List (List UInt8) := [[111, 107], [115, 121, 110, 116, 97, 120, 32, 101, 114, 114, 111, 114], [116, 114, 117, 110, 99, 97, 116, 101, 100], [116, 114, 97, 105, 108, 105, 110, 103, 32, 98, 121, 116, 101, 115], [119, 114, 111, 110, 103, 32, 99, 104, 101, 99, 107, 115, 117, 109], [117, 110, 107, 110, 111, 119, 110, 32, 118, 101, 114, 115, 105, 111, 110], [116, 111, 111, 32, 108, 111, 110, 103], [111, 117, 116, 32, 111, 102, 32, 114, 97, 110, 103, 101], [105, 110, 118, 97, 108, 105, 100], [119, 114, 111, 110, 103, 32, 111, 114, 100, 101, 114], [101, 120, 105, 115, 116, 115, 32, 97, 108, 114, 101, 97, 100, 121], [110, 111, 116, 32, 102, 111, 117, 110, 100], [110, 111, 32, 115, 112, 97, 99, 101, 32, 108, 101, 102, 116], [119, 114, 111, 110, 103, 32, 115, 116, 97, 116, 101], [98, 117, 115, 121], [117, 110, 114, 101, 97, 100, 97, 98, 108, 101, 32, 98, 108, 111, 99, 107], [111, 117, 116, 32, 111, 102, 32, 111, 114, 100, 101, 114], [112, 114, 111, 116, 101, 99, 116, 101, 100], [114, 101, 116, 97, 105, 110, 101, 100], [104, 101, 108, 100], [113, 117, 111, 116, 97, 32, 101, 120, 99, 101, 101, 100, 101, 100], [99, 111, 110, 102, 108, 105, 99, 116], [115, 116, 97, 108, 101], [108, 111, 115, 116], [99, 111, 114, 114, 117, 112, 116], [110, 101, 115, 116, 101, 100, 32, 116, 111, 111, 32, 100, 101, 101, 112, 108, 121], [116, 111, 111, 32, 108, 97, 116, 101], [110, 111, 116, 32, 114, 117, 110, 110, 105, 110, 103]]

theorem setRow_new (w : World) (t : TypeId) (old cs : Array Value) : ((w.alloc (.cells old t)).setRow w.heap.size cs).heap[w.heap.size]? = some (.cells cs t (0, 0)) ∧ Chg NoB w ((w.alloc (.cells old t)).setRow w.heap.size cs) := by
  have h0 := heap_alloc_new w (.cells old t)
  refine ⟨setRow_heap _ _ old cs t (0, 0) h0, ((Chg.refl _ w).alloc (.cells old t)).trans' (S2 := fun k => k = w.heap.size) ⟨rfl, rfl, rfl, by simp, fun k hk hn => setRow_other _ _ _ _ hn⟩ fun k hk => .inr (by omega)⟩
def errsV : Array Value := (errsL.map tv).toArray
set_option maxHeartbeats 4000000 in
set_option maxRecDepth 100000 in
theorem words32 (w : World) : Calls Tryd.prog 32 #[] w fun e w' => e = .returned (.agg errsV) ∧ Chg NoB w w' := by
  go_enter Tryd.func32, Tryd.ntmps32
  go_wp2_with (first
    | (refine wpList_buildTo rfl 68 _ rfl (some 1) rfl errsV (by kernel_rfl) ?_)
    | (refine wpList_store_rowTo rfl 68 _ _ rfl rfl w.heap.size errsV rfl rfl 68 _ (heap_alloc_new _ _) (by kernel_rfl) (by kernel_rfl) (by kernel_rfl) ?_))
  obtain ⟨h1, h2⟩ := setRow_new w 68 _ errsV
  refine bodyPost_ret (ret_c rfl _ _ w.heap.size 68 errsV _ rfl h1 Tryd.underlying68 rfl (by kernel_rfl)) rfl ?_
  exact ⟨rfl, h2⟩

/-- The words for an error. -/
def errorL (e : Int) : List UInt8 := if e < 0 ∨ 28 ≤ e then [101, 114, 114, 111, 114, 32] ++ Lib.itoa e else errsL.getD e.toNat []

theorem errs_at (e : Int) (h : ¬ (e < 0 ∨ 28 ≤ e)) : errsV[e.toNat]? = some (tv (errorL e)) := by
  unfold errorL
  rw [if_neg h]
  have hl : e.toNat < errsL.length := by show _ < 28; omega
  unfold errsV
  rw [List.getElem?_toArray, List.getElem?_map, List.getElem?_eq_getElem hl]
  simp [List.getD, List.getElem?_eq_getElem hl]

set_option maxHeartbeats 4000000 in
set_option maxRecDepth 100000 in
theorem Error17 (n : Int) (h0 : -9223372036854775808 ≤ n) (h1 : n ≤ 9223372036854775807) (w : World) (hL : Lay w) :
    Calls Tryd.prog 17 #[.int .i64 n] w fun e w' => e = .returned (tv (errorL n)) ∧ Chg NoB w w' := by
  have hE : errsV.size = 28 := rfl
  by_cases hn : n < 0 ∨ 28 ≤ n
  · have hq : errorL n = [101, 114, 114, 111, 114, 32] ++ Lib.itoa n := by unfold errorL; rw [if_pos hn]
    have lt := itoa_le n h0 h1
    rw [hq]
    have c30 : Hid (∀ w', Chg NoB w w' → Calls Tryd.prog 30 #[.int .i64 n] w' fun e w'' => e = .returned (tv (Lib.itoa n)) ∧ Chg NoB w w'') := fun w' k => (number30 n h0 h1 w' (hL.new k)).mono fun e w'' h => ⟨h.1, k.trans h.2⟩
    obtain ⟨L, hLL⟩ : ∃ L, Lib.itoa n = L := ⟨_, rfl⟩
    rw [hLL] at c30 lt ⊢
    obtain ⟨B, hB⟩ : ∃ B, bsOf L = B := ⟨_, rfl⟩
    have sz : B.size = L.length := by rw [← hB, size_bsOf]
    have b1 : 6 + L.length ≤ 9223372036854775807 := by omega
    have hr : tv ([101, 114, 114, 111, 114, 32] ++ L) = .string ((⟨#[101, 114, 114, 111, 114, 32]⟩ : ByteArray) ++ B) := by rw [← hB, show (⟨#[101, 114, 114, 111, 114, 32]⟩ : ByteArray) = bsOf [101, 114, 114, 111, 114, 32] from rfl, bsOf_add]; rfl
    rw [hr]
    unfold tv at c30
    rw [hB] at c30
    obtain ⟨V, hV⟩ : ∃ V, errsV = V := ⟨_, rfl⟩
    have c32 := Hid.mk' (words32 w)
    rw [hV] at c32
    clear h0 h1 hL lt hq hLL hB hr hE hV
    rcases Int.lt_or_le n 0 with hneg | hpos
    · clear hn
      have b3 : n < 28 := by omega
      go_enter Tryd.func17, Tryd.ntmps17
      go_wp2_with (first
        | (go_at_call 32; refine c32.out.mono ?_; rintro e w2 ⟨rfl, k2⟩; replace k2 := Hid.mk' k2)
        | (go_at_call 30; refine (c30.out _ (by first | exact Chg.refl _ _ | exact k2.out)).mono ?_; rintro e w3 ⟨rfl, k3⟩; replace k3 := Hid.mk' k3))
      go_ret
      exact ⟨rfl, k3.out⟩
    · have b2 : ¬ n < 0 := by omega
      have b3 : 28 ≤ n := hn.resolve_left b2
      clear hn hpos
      go_enter Tryd.func17, Tryd.ntmps17
      go_wp2_with (first
        | (go_at_call 32; refine c32.out.mono ?_; rintro e w2 ⟨rfl, k2⟩; replace k2 := Hid.mk' k2)
        | (go_at_call 30; refine (c30.out _ (by first | exact Chg.refl _ _ | exact k2.out)).mono ?_; rintro e w3 ⟨rfl, k3⟩; replace k3 := Hid.mk' k3))
      go_ret
      exact ⟨rfl, k3.out⟩
  · have hat := errs_at n hn
    obtain ⟨l, hl⟩ : ∃ l, errorL n = l := ⟨_, rfl⟩
    rw [hl] at hat ⊢
    obtain ⟨V, hV⟩ : ∃ V, errsV = V := ⟨_, rfl⟩
    have c32 : Hid (∀ w', Chg NoB w w' → Calls Tryd.prog 32 #[] w' fun e w'' => e = .returned (.agg V) ∧ Chg NoB w w'') := fun w' k => by
      have := (words32 w').mono fun e w'' (h : _ ∧ _) => (⟨h.1, k.trans h.2⟩ : e = .returned (.agg errsV) ∧ Chg NoB w w'')
      rwa [hV] at this
    rw [hV] at hat hE
    obtain ⟨k, rfl⟩ : ∃ k : Nat, n = k := ⟨n.toNat, by omega⟩
    have b2 : ¬ ((k : Int) < 0) := by omega
    have b3 : ¬ (28 ≤ (k : Int)) := by omega
    have b4 : k < 28 := by omega
    rw [show ((k : Nat) : Int).toNat = k by omega] at hat
    have hat' := Hid.mk' hat
    have hix : ∀ w, (Instr.index 68 (.agg V) (.int .i64 (k : Int))).run Tryd.prog w = .ok (tv l) w := fun w => by
      have s9 : (sizeOf 9).run Tryd.prog w = .ok 1 w := Tryd.sizeOf9 w
      have a9 : (isAgg 9).run Tryd.prog w = .ok false w := Tryd.isAgg9 w
      unfold Instr.index
      simp [asIntOf, run_underlying Tryd.underlying68, b2, b4, part, s9, a9, hat]
    unfold tv at hix
    clear hn hl hV h0 h1 hL hat
    go_enter Tryd.func17, Tryd.ntmps17
    go_wp2_with (go_at_call 32; refine (c32.out _ (by first | exact Chg.refl _ _ | exact k2.out)).mono ?_; rintro e w2 ⟨rfl, k2⟩; replace k2 := Hid.mk' k2)
    go_ret
    exact ⟨rfl, k2.out⟩
end Go.Proofs.YtgnnjkmlnfdngaaDoor
