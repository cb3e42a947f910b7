/- Numbers: Quantity of the program; Number and Quantity of the reference. No conditions but the laid tables. -/
import Derived.Test.YtgnnjkmlnfdngaaDoorJ
import Derived.Deep.RegionWith
set_option linter.unusedVariables false
set_option linter.unusedSimpArgs false
namespace Go.Proofs.YtgnnjkmlnfdngaaDoor
open Go Go.RowKit Go.Sort

theorem strAdd (l : List UInt8) (B : ByteArray) (h : bsOf l = B) (r : List UInt8) : Value.string (B ++ (⟨r.toArray⟩ : ByteArray)) = tv (l ++ r) := by
  rw [← h]; unfold tv; rw [← bsOf_add]; rfl

set_option maxHeartbeats 4000000 in
set_option maxRecDepth 100000 in
theorem Quantity16 (n : Int) (h0 : -9223372036854775808 ≤ n) (h1 : n ≤ 9223372036854775807) (w : World) (hL : Lay w) :
    Calls Tryd.prog 16 #[.int .i64 n] w fun e w' => e = .returned (tv (quantL n)) ∧ Chg NoB w w' := by
  have hw : ∀ m : Int, 1 ≤ m → IntKind.i64.wrap (n.tdiv m) = n.tdiv m := fun m hm => by
    have := tdiv_range n m hm h0 h1
    rw [IntKind.wrap_i64]; omega
  have r1 := tdiv_range n 1048576 (by omega) h0 h1
  have r2 := tdiv_range n 1024 (by omega) h0 h1
  by_cases c1 : n ≠ 0 ∧ n.tmod 1048576 = 0
  · have c30 := number30 (n.tdiv 1048576) r1.1 r1.2 w hL
    have lt := itoa_le (n.tdiv 1048576) r1.1 r1.2
    have hq : quantL n = Lib.itoa (n.tdiv 1048576) ++ [77] := by unfold quantL; rw [if_pos c1]
    rw [hq]
    have w1 := hw 1048576 (by omega)
    obtain ⟨L, hLL⟩ : ∃ L, Lib.itoa (n.tdiv 1048576) = L := ⟨_, rfl⟩
    rw [hLL] at c30 lt ⊢
    obtain ⟨B, hB⟩ : ∃ B, bsOf L = B := ⟨_, rfl⟩
    have sz : B.size = L.length := by rw [← hB, size_bsOf]
    have b1 : L.length + 1 ≤ 9223372036854775807 := by omega
    rw [← strAdd L B hB [77]]
    unfold tv at c30
    rw [hB] at c30
    have c30' := Hid.mk' c30
    obtain ⟨c1a, c1b⟩ := c1
    have c1c : (n == 0) = false := by rw [beq_eq_false_iff_ne]; exact c1a
    have c1d : (n.tmod 1048576 == 0) = true := by rw [beq_iff_eq]; exact c1b
    clear h0 h1 hL r1 r2 c30 lt hq hLL hw hB
    go_enter Tryd.func16, Tryd.ntmps16
    go_wp2_with (go_at_call 30; refine c30'.out.mono ?_; rintro e w2 ⟨rfl, k2⟩)
    go_ret
    exact ⟨rfl, k2⟩
  · by_cases c2 : n ≠ 0 ∧ n.tmod 1024 = 0
    · have c30 := number30 (n.tdiv 1024) r2.1 r2.2 w hL
      have lt := itoa_le (n.tdiv 1024) r2.1 r2.2
      have hq : quantL n = Lib.itoa (n.tdiv 1024) ++ [75] := by unfold quantL; rw [if_neg c1, if_pos c2]
      rw [hq]
      have w1 := hw 1024 (by omega)
      obtain ⟨L, hLL⟩ : ∃ L, Lib.itoa (n.tdiv 1024) = L := ⟨_, rfl⟩
      rw [hLL] at c30 lt ⊢
      obtain ⟨B, hB⟩ : ∃ B, bsOf L = B := ⟨_, rfl⟩
      have sz : B.size = L.length := by rw [← hB, size_bsOf]
      have b1 : L.length + 1 ≤ 9223372036854775807 := by omega
      rw [← strAdd L B hB [75]]
      unfold tv at c30
      rw [hB] at c30
      have c30' := Hid.mk' c30
      obtain ⟨c1a, c1b⟩ := c2
      have c1c : (n == 0) = false := by rw [beq_eq_false_iff_ne]; exact c1a
      have c1d : (n.tmod 1048576 == 0) = false := by rw [beq_eq_false_iff_ne]; exact fun h => c1 ⟨c1a, h⟩
      have c1f : ¬ n.tmod 1048576 = 0 := fun h => c1 ⟨c1a, h⟩
      have c1e : (n.tmod 1024 == 0) = true := by rw [beq_iff_eq]; exact c1b
      clear h0 h1 hL r1 r2 c30 lt hq hLL hw hB c1
      go_enter Tryd.func16, Tryd.ntmps16
      go_wp2_with (go_at_call 30; refine c30'.out.mono ?_; rintro e w2 ⟨rfl, k2⟩)
      go_ret
      exact ⟨rfl, k2⟩
    · have c30 := number30 n h0 h1 w hL
      have hq : quantL n = Lib.itoa n := by unfold quantL; rw [if_neg c1, if_neg c2]
      rw [hq]
      obtain ⟨L, hLL⟩ : ∃ L, Lib.itoa n = L := ⟨_, rfl⟩
      rw [hLL] at c30 ⊢
      have c30' := Hid.mk' c30
      by_cases hn : n = 0
      · subst hn
        clear h0 h1 hL r1 r2 c30 hq hLL hw c1 c2
        go_enter Tryd.func16, Tryd.ntmps16
        go_wp2_with (go_at_call 30; refine c30'.out.mono ?_; rintro e w2 ⟨rfl, k2⟩)
        go_ret
        exact ⟨rfl, k2⟩
      · have c1c : (n == 0) = false := by rw [beq_eq_false_iff_ne]; exact hn
        have c1d : (n.tmod 1048576 == 0) = false := by rw [beq_eq_false_iff_ne]; exact fun h => c1 ⟨hn, h⟩
        have c1f : ¬ n.tmod 1048576 = 0 := fun h => c1 ⟨hn, h⟩
        have c2d : (n.tmod 1024 == 0) = false := by rw [beq_eq_false_iff_ne]; exact fun h => c2 ⟨hn, h⟩
        have c2f : ¬ n.tmod 1024 = 0 := fun h => c2 ⟨hn, h⟩
        clear h0 h1 hL r1 r2 c30 hq hLL hw c1 c2
        go_enter Tryd.func16, Tryd.ntmps16
        go_wp2_with (go_at_call 30; refine c30'.out.mono ?_; rintro e w2 ⟨rfl, k2⟩)
        go_ret
        exact ⟨rfl, k2⟩

theorem decDigits_small (u : Nat) (h : u < 10) : Lib.decDigits u = [UInt8.ofNat (48 + u)] := by rw [Lib.decDigits, dif_pos h]
theorem decDigits_big (u : Nat) (h : ¬ u < 10) : Lib.decDigits u = Lib.decDigits (u / 10) ++ Lib.decDigits (u % 10) := by
  rw [Lib.decDigits, dif_neg h, decDigits_small (u % 10) (by omega)]

set_option maxHeartbeats 4000000 in
set_option maxRecDepth 100000 in
theorem number20_small (u : Nat) (h : u < 10) (w : World) :
    Calls Tryd.prog 20 #[.int .i64 u] w fun e w' => e = .returned (tv (Lib.decDigits u)) ∧ Chg NoB w w' := by
  have hq : Lib.decDigits u = [UInt8.ofNat (48 + u)] := decDigits_small u h
  rw [hq]
  have b1 : ¬ ((u : Int) < 0) := by omega
  have b2 : (u : Int) < 10 := by omega
  have b4 : IntKind.i64.wrap (48 + (u : Int)) = 48 + (u : Int) := by rw [IntKind.wrap_i64]; omega
  have b5 : IntKind.u8.wrap (48 + (u : Int)) = 48 + (u : Int) := by rw [IntKind.wrap_u8]; omega
  have hs : strOfNums [48 + (u : Int)] = ⟨#[UInt8.ofNat (48 + u)]⟩ := by
    apply ByteArray.ext
    have : (48 + (u : Int)).toNat = 48 + u := by omega
    simp [strOfNums, this]
  have hconv : (convert 51 9 (.slice (some ⟨w.heap.size, 0, none⟩) 1 1)).run Tryd.prog (w.alloc (.cells #[.int .u8 (48 + (u : Int))] 5)) = .ok (.string ⟨#[UInt8.ofNat (48 + u)]⟩) (w.alloc (.cells #[.int .u8 (48 + (u : Int))] 5)) := by
    have := run_convert_bytes_arg (P := Tryd.prog) (w.alloc (.cells #[.int .u8 (48 + (u : Int))] 5)) 51 5 Tryd.underlying51 Tryd.underlying5 w.heap.size 0 1 1 [48 + (u : Int)] rfl (fun i hi => by
      obtain rfl : i = 0 := by omega
      rw [cell_of_row _ _ _ _ _ _ (heap_alloc_new w _)]; rfl) 9 Tryd.underlying9
    rw [hs] at this
    exact this
  clear hq hs
  go_enter Tryd.func20, Tryd.ntmps20
  go_wp2_with fail
  go_ret
  exact ⟨rfl, (Chg.refl _ _).alloc _⟩

set_option maxHeartbeats 4000000 in
set_option maxRecDepth 100000 in
/-- Number of the reference, at a number that is not negative. -/
theorem number20_nat (u : Nat) (h : u ≤ 9223372036854775807) (w : World) :
    Calls Tryd.prog 20 #[.int .i64 u] w fun e w' => e = .returned (tv (Lib.decDigits u)) ∧ Chg NoB w w' := by
  induction u using Nat.strongRecOn generalizing w with
  | _ u ih =>
    by_cases h10 : u < 10
    · exact number20_small u h10 w
    · have ih1 := ih (u / 10) (by omega) (by omega)
      have ih2 := fun w => number20_small (u % 10) (by omega) w
      have hq := decDigits_big u h10
      have l1 := nDigits_le 19 (u / 10) (by omega) (by omega)
      have l2 := nDigits_le 19 (u % 10) (by omega) (by omega)
      rw [← Lib.decDigits_length] at l1 l2
      rw [hq]
      obtain ⟨L1, hL1⟩ : ∃ L, Lib.decDigits (u / 10) = L := ⟨_, rfl⟩
      obtain ⟨L2, hL2⟩ : ∃ L, Lib.decDigits (u % 10) = L := ⟨_, rfl⟩
      rw [hL1] at ih1 l1 ⊢
      rw [hL2] at ih2 l2 ⊢
      obtain ⟨B1, hB1⟩ : ∃ B, bsOf L1 = B := ⟨_, rfl⟩
      obtain ⟨B2, hB2⟩ : ∃ B, bsOf L2 = B := ⟨_, rfl⟩
      have s1 : B1.size = L1.length := by rw [← hB1, size_bsOf]
      have s2 : B2.size = L2.length := by rw [← hB2, size_bsOf]
      have hr : tv (L1 ++ L2) = .string (B1 ++ B2) := by rw [← hB1, ← hB2, bsOf_add]; rfl
      rw [hr]
      unfold tv at ih1 ih2
      rw [hB1] at ih1
      rw [hB2] at ih2
      have b0 : L1.length + L2.length ≤ 9223372036854775807 := by omega
      have b1 : ¬ ((u : Int) < 0) := by omega
      have b2 : ¬ ((u : Int) < 10) := by omega
      have d1 : (u : Int).tdiv 10 = ((u / 10 : Nat) : Int) := by rw [Int.tdiv_eq_ediv_of_nonneg (by omega)]; omega
      have d2 : (u : Int).tmod 10 = ((u % 10 : Nat) : Int) := by rw [Int.tmod_eq_emod_of_nonneg (by omega)]; omega
      have w1 : IntKind.i64.wrap ((u / 10 : Nat) : Int) = ((u / 10 : Nat) : Int) := by rw [IntKind.wrap_i64]; omega
      have w2 : IntKind.i64.wrap ((u % 10 : Nat) : Int) = ((u % 10 : Nat) : Int) := by rw [IntKind.wrap_i64]; omega
      obtain ⟨x1, hx1⟩ : ∃ x, u / 10 = x := ⟨_, rfl⟩
      obtain ⟨x2, hx2⟩ : ∃ x, u % 10 = x := ⟨_, rfl⟩
      rw [hx1] at d1 w1 ih1
      rw [hx2] at d2 w2 ih2
      have ih1' := Hid.mk' ih1
      have ih2' := Hid.mk' ih2
      clear ih ih1 ih2 hq hL1 hL2 hB1 hB2 hr l1 l2 hx1 hx2 h h10
      go_enter Tryd.func20, Tryd.ntmps20
      go_wp2_with (first
        | (go_at_call_of 20 (Value.int .i64 (x1 : Int)); refine (ih1'.out _).mono ?_; rintro e w2 ⟨rfl, k2⟩; replace k2 := Hid.mk' k2)
        | (go_at_call_of 20 (Value.int .i64 (x2 : Int)); refine (ih2'.out _).mono ?_; rintro e w3 ⟨rfl, k3⟩; replace k3 := Hid.mk' k3))
      go_ret
      exact ⟨rfl, k2.out.trans k3.out⟩

theorem wrapNeg (x : Int) (h : -9223372036854775807 ≤ x) (h1 : x ≤ 9223372036854775807) : IntKind.i64.wrap (-x) = -x := by rw [IntKind.wrap_i64]; omega

set_option maxHeartbeats 4000000 in
set_option maxRecDepth 100000 in
/-- Number of the reference. -/
theorem number20 (n : Int) (h0 : -9223372036854775808 ≤ n) (h1 : n ≤ 9223372036854775807) (w : World) :
    Calls Tryd.prog 20 #[.int .i64 n] w fun e w' => e = .returned (tv (Lib.itoa n)) ∧ Chg NoB w w' := by
  by_cases hn : n < 0
  · have hi : Lib.itoa n = 45 :: Lib.decDigits n.natAbs := by unfold Lib.itoa; rw [if_pos hn]
    rw [hi]
    by_cases h9 : n < -9
    · have ih1 := fun w => number20_nat (n.natAbs / 10) (by omega) w
      have ih2 := fun w => number20_small (n.natAbs % 10) (by omega) w
      have hq := decDigits_big n.natAbs (by omega)
      have l1 := nDigits_le 19 (n.natAbs / 10) (by omega) (by omega)
      have l2 := nDigits_le 19 (n.natAbs % 10) (by omega) (by omega)
      rw [← Lib.decDigits_length] at l1 l2
      rw [hq]
      obtain ⟨L1, hL1⟩ : ∃ L, Lib.decDigits (n.natAbs / 10) = L := ⟨_, rfl⟩
      obtain ⟨L2, hL2⟩ : ∃ L, Lib.decDigits (n.natAbs % 10) = L := ⟨_, rfl⟩
      rw [hL1] at ih1 l1 ⊢
      rw [hL2] at ih2 l2 ⊢
      obtain ⟨B1, hB1⟩ : ∃ B, bsOf L1 = B := ⟨_, rfl⟩
      obtain ⟨B2, hB2⟩ : ∃ B, bsOf L2 = B := ⟨_, rfl⟩
      have s1 : B1.size = L1.length := by rw [← hB1, size_bsOf]
      have s2 : B2.size = L2.length := by rw [← hB2, size_bsOf]
      have hr : tv (45 :: (L1 ++ L2)) = .string ((⟨#[45]⟩ : ByteArray) ++ B1 ++ B2) := by
        rw [← hB1, ← hB2, show (⟨#[45]⟩ : ByteArray) = bsOf [45] from rfl, bsOf_add, bsOf_add]; rfl
      rw [hr]
      unfold tv at ih1 ih2
      rw [hB1] at ih1
      rw [hB2] at ih2
      have b0 : 1 + L1.length ≤ 9223372036854775807 := by omega
      have b0' : 1 + L1.length + L2.length ≤ 9223372036854775807 := by omega
      have s3 : ((⟨#[45]⟩ : ByteArray) ++ B1).size = 1 + L1.length := by rw [ByteArray.size_append, s1]; rfl
      have d1 : n.tdiv 10 = -((n.natAbs / 10 : Nat) : Int) := by
        have : n = -(n.natAbs : Int) := by omega
        rw [this, Int.neg_tdiv, Int.tdiv_eq_ediv_of_nonneg (by omega)]; omega
      have d2 : n.tmod 10 = -((n.natAbs % 10 : Nat) : Int) := by
        have : n = -(n.natAbs : Int) := by omega
        rw [this, Int.neg_tmod, Int.tmod_eq_emod_of_nonneg (by omega)]; omega
      have w1 : IntKind.i64.wrap (-((n.natAbs / 10 : Nat) : Int)) = -((n.natAbs / 10 : Nat) : Int) := by rw [IntKind.wrap_i64]; omega
      have w2 : IntKind.i64.wrap (-((n.natAbs % 10 : Nat) : Int)) = -((n.natAbs % 10 : Nat) : Int) := by rw [IntKind.wrap_i64]; omega
      have w3 : IntKind.i64.wrap ((n.natAbs / 10 : Nat) : Int) = ((n.natAbs / 10 : Nat) : Int) := by rw [IntKind.wrap_i64]; omega
      have w4 : IntKind.i64.wrap ((n.natAbs % 10 : Nat) : Int) = ((n.natAbs % 10 : Nat) : Int) := by rw [IntKind.wrap_i64]; omega
      obtain ⟨x1, hx1⟩ : ∃ x, n.natAbs / 10 = x := ⟨_, rfl⟩
      obtain ⟨x2, hx2⟩ : ∃ x, n.natAbs % 10 = x := ⟨_, rfl⟩
      rw [hx1] at d1 w1 w3 ih1
      rw [hx2] at d2 w2 w4 ih2
      have ih1' := Hid.mk' ih1
      have ih2' := Hid.mk' ih2
      clear ih1 ih2 hq hL1 hL2 hB1 hB2 hr l1 l2 hx1 hx2 hi h0 h1
      go_enter Tryd.func20, Tryd.ntmps20
      go_wp2_with (first
        | (go_at_call_of 20 (Value.int .i64 (x1 : Int)); refine (ih1'.out _).mono ?_; rintro e w2 ⟨rfl, k2⟩; replace k2 := Hid.mk' k2)
        | (go_at_call_of 20 (Value.int .i64 (x2 : Int)); refine (ih2'.out _).mono ?_; rintro e w3 ⟨rfl, k3⟩; replace k3 := Hid.mk' k3))
      go_ret
      exact ⟨rfl, k2.out.trans k3.out⟩
    · have ih1 := fun w => number20_small n.natAbs (by omega) w
      have l1 := nDigits_le 19 n.natAbs (by omega) (by omega)
      rw [← Lib.decDigits_length] at l1
      obtain ⟨L1, hL1⟩ : ∃ L, Lib.decDigits n.natAbs = L := ⟨_, rfl⟩
      rw [hL1] at ih1 l1 ⊢
      obtain ⟨B1, hB1⟩ : ∃ B, bsOf L1 = B := ⟨_, rfl⟩
      have s1 : B1.size = L1.length := by rw [← hB1, size_bsOf]
      have hr : tv (45 :: L1) = .string ((⟨#[45]⟩ : ByteArray) ++ B1) := by
        rw [← hB1, show (⟨#[45]⟩ : ByteArray) = bsOf [45] from rfl, bsOf_add]; rfl
      rw [hr]
      unfold tv at ih1
      rw [hB1] at ih1
      have b0 : 1 + L1.length ≤ 9223372036854775807 := by omega
      have w1 : IntKind.i64.wrap (-n) = -n := by rw [IntKind.wrap_i64]; omega
      have e1 : (n.natAbs : Int) = -n := by omega
      rw [e1] at ih1
      have ih1' := Hid.mk' ih1
      clear ih1 hL1 hB1 hr l1 hi h0 h1 e1
      go_enter Tryd.func20, Tryd.ntmps20
      go_wp2_with (go_at_call 20; refine (ih1'.out _).mono ?_; rintro e w2 ⟨rfl, k2⟩; replace k2 := Hid.mk' k2)
      go_ret
      exact ⟨rfl, k2.out⟩
  · have hi : Lib.itoa n = Lib.decDigits n.toNat := by unfold Lib.itoa; rw [if_neg hn]
    have := number20_nat n.toNat (by omega) w
    rw [hi]
    rwa [show ((n.toNat : Nat) : Int) = n by omega] at this
end Go.Proofs.YtgnnjkmlnfdngaaDoor
