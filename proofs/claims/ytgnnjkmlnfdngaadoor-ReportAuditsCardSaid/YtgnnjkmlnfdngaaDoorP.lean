/- Error of the reference. No conditions. -/
import Derived.Test.YtgnnjkmlnfdngaaDoorO
set_option linter.unusedVariables false
set_option linter.unusedSimpArgs false
namespace Go.Proofs.YtgnnjkmlnfdngaaDoor
open Go Go.RowKit Go.Sort

theorem some9 : (Tryd.prog.info? 9).isSome = true := by kernel_rfl
theorem hie9 : Tryd.prog.info? 9 = some ((Tryd.prog.info? 9).get some9) := (Option.some_get some9).symm

set_option maxHeartbeats 4000000 in
set_option maxRecDepth 100000 in
theorem Error18 (n : Int) (h0 : -9223372036854775808 ≤ n) (h1 : n ≤ 9223372036854775807) (w : World) :
    Calls Tryd.prog 18 #[.int .i64 n] w fun e w' => e = .returned (tv (errorL n)) ∧ Chg NoB w w' := by
  obtain ⟨w1, hw1⟩ : ∃ w1, w.alloc (.cells errsV 9) = w1 := ⟨_, rfl⟩
  have k1 : Chg NoB w w1 := by rw [← hw1]; exact (Chg.refl _ _).alloc _
  by_cases hn : n < 0 ∨ 28 ≤ n
  · have hq : errorL n = [101, 114, 114, 111, 114, 32] ++ Lib.itoa n := by unfold errorL; rw [if_pos hn]
    have lt := itoa_le n h0 h1
    rw [hq]
    have c20 := number20 n h0 h1 w1
    obtain ⟨L, hLL⟩ : ∃ L, Lib.itoa n = L := ⟨_, rfl⟩
    rw [hLL] at c20 lt ⊢
    obtain ⟨B, hB⟩ : ∃ B, bsOf L = B := ⟨_, rfl⟩
    have sz : B.size = L.length := by rw [← hB, size_bsOf]
    have b1 : 6 + L.length ≤ 9223372036854775807 := by omega
    have hr : tv ([101, 114, 114, 111, 114, 32] ++ L) = .string ((⟨#[101, 114, 114, 111, 114, 32]⟩ : ByteArray) ++ B) := by rw [← hB, show (⟨#[101, 114, 114, 111, 114, 32]⟩ : ByteArray) = bsOf [101, 114, 114, 111, 114, 32] from rfl, bsOf_add]; rfl
    rw [hr]
    unfold tv at c20
    rw [hB] at c20
    have c20' := Hid.mk' c20
    have k1' := Hid.mk' k1
    have hw1' := Hid.mk' hw1
    clear h0 h1 lt hq hLL hB hr c20 k1 hw1
    rcases Int.lt_or_le n 0 with hneg | hpos
    · clear hn
      have b3 : n < 28 := by omega
      go_enter Tryd.func18, Tryd.ntmps18
      go_wp2_with (first
        | (refine wpList_buildSlice rfl 22 9 28 _ rfl errsV ((Tryd.prog.info? 9).get some9) (.string ⟨#[]⟩) Tryd.underlying22 hie9 (by kernel_rfl) (by decide +kernel) (by decide +kernel) (by kernel_rfl) ?_; rw [hw1'.out])
        | (go_at_call 20; refine (c20'.out).mono ?_; rintro e w3 ⟨rfl, k3⟩; replace k3 := Hid.mk' k3))
      go_ret
      exact ⟨rfl, k1'.out.trans k3.out⟩
    · have b2 : ¬ n < 0 := by omega
      have b3 : 28 ≤ n := hn.resolve_left b2
      clear hn hpos
      go_enter Tryd.func18, Tryd.ntmps18
      go_wp2_with (first
        | (refine wpList_buildSlice rfl 22 9 28 _ rfl errsV ((Tryd.prog.info? 9).get some9) (.string ⟨#[]⟩) Tryd.underlying22 hie9 (by kernel_rfl) (by decide +kernel) (by decide +kernel) (by kernel_rfl) ?_; rw [hw1'.out])
        | (go_at_call 20; refine (c20'.out).mono ?_; rintro e w3 ⟨rfl, k3⟩; replace k3 := Hid.mk' k3))
      go_ret
      exact ⟨rfl, k1'.out.trans k3.out⟩
  · have hat := errs_at n hn
    obtain ⟨l, hl⟩ : ∃ l, errorL n = l := ⟨_, rfl⟩
    rw [hl] at hat ⊢
    obtain ⟨k, rfl⟩ : ∃ k : Nat, n = k := ⟨n.toNat, by omega⟩
    have b2 : ¬ ((k : Int) < 0) := by omega
    have b3 : ¬ (28 ≤ (k : Int)) := by omega
    have b4 : k < 28 := by omega
    have b5 : (k : Int) < 28 := by omega
    rw [show ((k : Nat) : Int).toNat = k by omega] at hat
    have c1 : w1.cell? ⟨w.heap.size, k, none⟩ = some (tv l) := by
      rw [← hw1, cell_of_row _ _ k _ _ _ (heap_alloc_new w _)]; exact hat
    unfold tv at c1
    have k1' := Hid.mk' k1
    have hw1' := Hid.mk' hw1
    clear hn hl h0 h1 hat k1 hw1
    go_enter Tryd.func18, Tryd.ntmps18
    go_wp2_with (refine wpList_buildSlice rfl 22 9 28 _ rfl errsV ((Tryd.prog.info? 9).get some9) (.string ⟨#[]⟩) Tryd.underlying22 hie9 (by kernel_rfl) (by decide +kernel) (by decide +kernel) (by kernel_rfl) ?_; rw [hw1'.out])
    go_ret
    exact ⟨rfl, k1'.out⟩
end Go.Proofs.YtgnnjkmlnfdngaaDoor
