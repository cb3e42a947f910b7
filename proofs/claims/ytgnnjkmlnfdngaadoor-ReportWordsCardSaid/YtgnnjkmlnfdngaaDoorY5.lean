/- The law ReportWords returns true: the walk. No conditions but the laid tables. -/
import Derived.Test.YtgnnjkmlnfdngaaDoorP
import Derived.Test.YtgnnjkmlnfdngaaDoorW
set_option linter.unusedVariables false
set_option linter.unusedSimpArgs false
namespace Go.Proofs.YtgnnjkmlnfdngaaDoor
open Go Go.RowKit Go.Sort

theorem dec_ne (u : Nat) : Lib.decDigits u ≠ [] := by
  by_cases h : u < 10
  · rw [decDigits_small u h]; simp
  · rw [decDigits_big u h]
    intro h2
    have := (List.append_eq_nil_iff.1 h2).2
    rw [decDigits_small (u % 10) (by omega)] at this
    cases this
theorem dec_last (u : Nat) : ∃ l x, Lib.decDigits u = l ++ [x] ∧ x ≠ 75 ∧ x ≠ 77 := by
  have key : ∀ v, v < 10 → UInt8.ofNat (48 + v) ≠ 75 ∧ UInt8.ofNat (48 + v) ≠ 77 := by decide
  by_cases h : u < 10
  · exact ⟨[], _, by rw [decDigits_small u h]; rfl, (key u h).1, (key u h).2⟩
  · exact ⟨Lib.decDigits (u / 10), _, by rw [decDigits_big u h, decDigits_small (u % 10) (by omega)], (key _ (by omega)).1, (key _ (by omega)).2⟩
theorem itoa_last (n : Int) : ∃ l x, Lib.itoa n = l ++ [x] ∧ x ≠ 75 ∧ x ≠ 77 := by
  unfold Lib.itoa
  split
  · obtain ⟨l, x, h, a, b⟩ := dec_last n.natAbs
    exact ⟨45 :: l, x, by rw [h]; rfl, a, b⟩
  · exact dec_last _
/-- A quantity: a text, its last byte, and what the law finds of them. -/
theorem quant_parts (n : Int) (h0 : -9223372036854775808 ≤ n) (h1 : n ≤ 9223372036854775807) :
    (∃ L, quantL n = L ++ [77] ∧ Lib.itoa (n.tdiv 1048576) = L ∧ n.tmod 1048576 = 0) ∨ (∃ L, quantL n = L ++ [75] ∧ Lib.itoa (n.tdiv 1024) = L ∧ n.tmod 1024 = 0) ∨
    (∃ l x, quantL n = l ++ [x] ∧ Lib.itoa n = l ++ [x] ∧ x ≠ 75 ∧ x ≠ 77) := by
  unfold quantL
  by_cases c1 : n ≠ 0 ∧ n.tmod 1048576 = 0
  · rw [if_pos c1]; exact .inl ⟨_, rfl, rfl, c1.2⟩
  · rw [if_neg c1]
    by_cases c2 : n ≠ 0 ∧ n.tmod 1024 = 0
    · rw [if_pos c2]; exact .inr (.inl ⟨_, rfl, rfl, c2.2⟩)
    · rw [if_neg c2]
      obtain ⟨l, x, h, a, b⟩ := itoa_last n
      exact .inr (.inr ⟨l, x, h, h, a, b⟩)
theorem last_at (l : List UInt8) (x : UInt8) (h : l.length < (bsOf (l ++ [x])).size) : (bsOf (l ++ [x]))[l.length]'h = x := by
  have e : ∀ (a : Array UInt8) (h : l.length < a.size), a = (l ++ [x]).toArray → a[l.length]'h = x := by rintro a h rfl; simp
  exact e (bsOf (l ++ [x])).data h rfl

set_option maxHeartbeats 8000000 in
set_option maxRecDepth 100000 in
theorem words5 (w : World) (hL : Lay w) (e : Int) (e0 : -9223372036854775808 ≤ e) (e1 : e ≤ 9223372036854775807) (n : Int) (h0 : -9223372036854775808 ≤ n) (h1 : n ≤ 9223372036854775807) :
    Calls Tryd.prog 5 #[.int .i64 e, .int .i64 n] w fun e w' => e = .returned (.bool true) ∧ Chg NoB w w' := by
  have c16 := Quantity16 n h0 h1 w hL
  have c17 : ∀ w', Chg NoB w w' → Calls Tryd.prog 17 #[.int .i64 e] w' fun e2 w'' => e2 = .returned (tv (errorL e)) ∧ Chg NoB w w'' := fun w' k => (Error17 e e0 e1 w' (hL.new k)).mono fun _ _ h => ⟨h.1, k.trans h.2⟩
  have c18 : ∀ w', Chg NoB w w' → Calls Tryd.prog 18 #[.int .i64 e] w' fun e2 w'' => e2 = .returned (tv (errorL e)) ∧ Chg NoB w w'' := fun w' k => (Error18 e e0 e1 w').mono fun _ _ h => ⟨h.1, k.trans h.2⟩
  have c19 : ∀ w', Chg NoB w w' → Calls Tryd.prog 19 #[.int .i64 n] w' fun e2 w'' => e2 = .returned (tv (quantL n)) ∧ Chg NoB w w'' := fun w' k => (Quantity19 n h0 h1 w').mono fun _ _ h => ⟨h.1, k.trans h.2⟩
  have c12 : ∀ w', Chg NoB w w' → Calls Tryd.prog 12 #[] w' fun e2 w'' => e2 = .returned (.bool true) ∧ Chg NoB w w'' := fun w' k => (awake12 w' (hL.new k)).mono fun _ _ h => ⟨h.1, k.trans h.2⟩
  have c20 : ∀ m w', -9223372036854775808 ≤ m → m ≤ 9223372036854775807 → Chg NoB w w' → Calls Tryd.prog 20 #[.int .i64 m] w' fun e2 w'' => e2 = .returned (tv (Lib.itoa m)) ∧ Chg NoB w w'' := fun m w' a b k => (number20 m a b w').mono fun _ _ h => ⟨h.1, k.trans h.2⟩
  obtain ⟨E, hE⟩ : ∃ E, bsOf (errorL e) = E := ⟨_, rfl⟩
  unfold tv at c17 c18
  rw [hE] at c17 c18
  have c17' := Hid.mk' c17
  have c18' := Hid.mk' c18
  have c12' := Hid.mk' c12
  clear c17 c18 c12 hE hL e0 e1
  rcases quant_parts n h0 h1 with ⟨L, q1, q2, q3⟩ | ⟨L, q1, q2, q3⟩ | ⟨l, x, q1, q2, q3, q4⟩
  · have r := tdiv_range n 1048576 (by omega) h0 h1
    have c20a := fun w' => c20 _ w' r.1 r.2
    rw [q2] at c20a
    rw [q1] at c16 c19
    have hb := last_at L 77
    have sz : (bsOf (L ++ [77])).size = L.length + 1 := by rw [size_bsOf]; simp
    have lt : L.length ≤ 20 := by rw [← q2]; exact itoa_le _ r.1 r.2
    have hx : (bsOf (L ++ [77])).extract 0 L.length = bsOf L := by
      apply ByteArray.ext
      simp [bsOf, ByteArray.data_extract]
    obtain ⟨B, hB⟩ : ∃ B, bsOf (L ++ [77]) = B := ⟨_, rfl⟩
    obtain ⟨D, hD⟩ : ∃ D, bsOf L = D := ⟨_, rfl⟩
    obtain ⟨m, hm⟩ : ∃ m, L.length = m := ⟨_, rfl⟩
    unfold tv at c16 c19 c20a
    rw [hB] at c16 c19 sz
    rw [hD] at c20a hx
    rw [hm] at sz lt hx
    have hb2 : ∀ h : m < B.size, B[m]'h = 77 := by subst hm hB; exact hb
    rw [hB] at hx
    have n1 : IntKind.i64.wrap ((m : Int) + 1 - 1) = (m : Int) := by rw [IntKind.wrap_i64]; omega
    have n2 : IntKind.i64.wrap (n.tdiv 1048576) = n.tdiv 1048576 := by rw [IntKind.wrap_i64]; omega
    have n3 : (n.tmod 1048576 == 0) = true := by rw [beq_iff_eq]; exact q3
    have c16' := Hid.mk' c16
    have c19' := Hid.mk' c19
    have c20' := Hid.mk' c20a
    have d1 : B.size - 1 = m := by omega
    clear c16 c19 c20 c20a q1 q2 q3 hb hB hD hm r
    go_enter Tryd.func5, Tryd.ntmps5
    go_wp2_with (first
      | (go_at_call 16; refine c16'.out.mono ?_; rintro e w1 ⟨rfl, k1⟩; replace k1 := Hid.mk' k1)
      | (go_at_call 17; refine (c17'.out _ k1.out).mono ?_; rintro e w2 ⟨rfl, k2⟩; replace k2 := Hid.mk' k2)
      | (go_at_call 18; refine (c18'.out _ k2.out).mono ?_; rintro e w3 ⟨rfl, k3⟩; replace k3 := Hid.mk' k3)
      | (go_at_call 19; refine (c19'.out _ k3.out).mono ?_; rintro e w4 ⟨rfl, k4⟩; replace k4 := Hid.mk' k4)
      | (go_at_call 20; refine (c20'.out _ k4.out).mono ?_; rintro e w5 ⟨rfl, k5⟩; replace k5 := Hid.mk' k5)
      | (go_at_call 12; refine (c12'.out _ k5.out).mono ?_; rintro e w6 ⟨rfl, k6⟩; replace k6 := Hid.mk' k6))
    go_ret
    exact ⟨rfl, k6.out⟩
  · have r := tdiv_range n 1024 (by omega) h0 h1
    have c20a := fun w' => c20 _ w' r.1 r.2
    rw [q2] at c20a
    rw [q1] at c16 c19
    have hb := last_at L 75
    have sz : (bsOf (L ++ [75])).size = L.length + 1 := by rw [size_bsOf]; simp
    have lt : L.length ≤ 20 := by rw [← q2]; exact itoa_le _ r.1 r.2
    have hx : (bsOf (L ++ [75])).extract 0 L.length = bsOf L := by
      apply ByteArray.ext
      simp [bsOf, ByteArray.data_extract]
    obtain ⟨B, hB⟩ : ∃ B, bsOf (L ++ [75]) = B := ⟨_, rfl⟩
    obtain ⟨D, hD⟩ : ∃ D, bsOf L = D := ⟨_, rfl⟩
    obtain ⟨m, hm⟩ : ∃ m, L.length = m := ⟨_, rfl⟩
    unfold tv at c16 c19 c20a
    rw [hB] at c16 c19 sz
    rw [hD] at c20a hx
    rw [hm] at sz lt hx
    have hb2 : ∀ h : m < B.size, B[m]'h = 75 := by subst hm hB; exact hb
    rw [hB] at hx
    have n1 : IntKind.i64.wrap ((m : Int) + 1 - 1) = (m : Int) := by rw [IntKind.wrap_i64]; omega
    have n2 : IntKind.i64.wrap (n.tdiv 1024) = n.tdiv 1024 := by rw [IntKind.wrap_i64]; omega
    have n3 : (n.tmod 1024 == 0) = true := by rw [beq_iff_eq]; exact q3
    have c16' := Hid.mk' c16
    have c19' := Hid.mk' c19
    have c20' := Hid.mk' c20a
    have d1 : B.size - 1 = m := by omega
    clear c16 c19 c20 c20a q1 q2 q3 hb hB hD hm r
    go_enter Tryd.func5, Tryd.ntmps5
    go_wp2_with (first
      | (go_at_call 16; refine c16'.out.mono ?_; rintro e w1 ⟨rfl, k1⟩; replace k1 := Hid.mk' k1)
      | (go_at_call 17; refine (c17'.out _ k1.out).mono ?_; rintro e w2 ⟨rfl, k2⟩; replace k2 := Hid.mk' k2)
      | (go_at_call 18; refine (c18'.out _ k2.out).mono ?_; rintro e w3 ⟨rfl, k3⟩; replace k3 := Hid.mk' k3)
      | (go_at_call 19; refine (c19'.out _ k3.out).mono ?_; rintro e w4 ⟨rfl, k4⟩; replace k4 := Hid.mk' k4)
      | (go_at_call 20; refine (c20'.out _ k4.out).mono ?_; rintro e w5 ⟨rfl, k5⟩; replace k5 := Hid.mk' k5)
      | (go_at_call 12; refine (c12'.out _ k5.out).mono ?_; rintro e w6 ⟨rfl, k6⟩; replace k6 := Hid.mk' k6))
    go_ret
    exact ⟨rfl, k6.out⟩
  · have c20a := fun w' => c20 n w' h0 h1
    have lt2 := itoa_le n h0 h1
    rw [q2] at c20a lt2
    rw [q1] at c16 c19
    have hb := last_at l x
    have sz : (bsOf (l ++ [x])).size = l.length + 1 := by rw [size_bsOf]; simp
    have lt : l.length ≤ 20 := by rw [List.length_append] at lt2; omega
    obtain ⟨B, hB⟩ : ∃ B, bsOf (l ++ [x]) = B := ⟨_, rfl⟩
    obtain ⟨m, hm⟩ : ∃ m, l.length = m := ⟨_, rfl⟩
    unfold tv at c16 c19 c20a
    rw [hB] at c16 c19 c20a sz
    rw [hm] at sz lt
    have hb2 : ∀ h : m < B.size, B[m]'h = x := by subst hm hB; exact hb
    have n1 : IntKind.i64.wrap ((m : Int) + 1 - 1) = (m : Int) := by rw [IntKind.wrap_i64]; omega
    have n2 : IntKind.i64.wrap n = n := by rw [IntKind.wrap_i64]; omega
    have x1 : ((x.toNat : Int) == 75) = false := by rw [beq_eq_false_iff_ne]; intro h; exact q3 (UInt8.toNat_inj.1 (by show x.toNat = 75; omega))
    have x2 : ((x.toNat : Int) == 77) = false := by rw [beq_eq_false_iff_ne]; intro h; exact q4 (UInt8.toNat_inj.1 (by show x.toNat = 77; omega))
    have t1 : n.tmod 1 = 0 := Int.tmod_one n
    have t2 : n.tdiv 1 = n := Int.tdiv_one n
    have c16' := Hid.mk' c16
    have c19' := Hid.mk' c19
    have c20' := Hid.mk' c20a
    have d1 : B.size - 1 = m := by omega
    clear c16 c19 c20 c20a q1 q2 q3 q4 hb hB hm lt2
    go_enter Tryd.func5, Tryd.ntmps5
    go_wp2_with (first
      | (go_at_call 16; refine c16'.out.mono ?_; rintro e w1 ⟨rfl, k1⟩; replace k1 := Hid.mk' k1)
      | (go_at_call 17; refine (c17'.out _ k1.out).mono ?_; rintro e w2 ⟨rfl, k2⟩; replace k2 := Hid.mk' k2)
      | (go_at_call 18; refine (c18'.out _ k2.out).mono ?_; rintro e w3 ⟨rfl, k3⟩; replace k3 := Hid.mk' k3)
      | (go_at_call 19; refine (c19'.out _ k3.out).mono ?_; rintro e w4 ⟨rfl, k4⟩; replace k4 := Hid.mk' k4)
      | (go_at_call 20; refine (c20'.out _ k4.out).mono ?_; rintro e w5 ⟨rfl, k5⟩; replace k5 := Hid.mk' k5)
      | (go_at_call 12; refine (c12'.out _ k5.out).mono ?_; rintro e w6 ⟨rfl, k6⟩; replace k6 := Hid.mk' k6))
    go_ret
    exact ⟨rfl, k6.out⟩
end Go.Proofs.YtgnnjkmlnfdngaaDoor
