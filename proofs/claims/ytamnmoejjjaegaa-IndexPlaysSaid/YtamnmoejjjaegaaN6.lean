/- What (*node).enrich does where nothing is lacking or where two children are joined. Conditions: what lacking returns, what join does. -/
import Derived.Test.YtamnmoejjjaegaaN2
import Derived.Test.YtamnmoejjjaegaaN3
set_option linter.unusedVariables false
set_option linter.unusedSimpArgs false
namespace Go.Proofs.Ytamnmoejjjaegaa
open Go Go.RowKit

set_option maxHeartbeats 1000000 in
set_option maxRecDepth 100000 in
theorem enrich0 (n : Nat) (i : Nat) (vi vd : Int) (w : World) (hvi : vi = i)
    (hlack : Calls Try.prog 52 #[.pointer (some ⟨n, 0, none⟩), .int .i64 vi, .int .i64 vd] w fun e w' => e = .returned (.int .i64 0) ∧ Chg NoB w w') :
    Calls Try.prog 40 #[.pointer (some ⟨n, 0, none⟩), .int .i64 vi, .int .i64 vd] w fun e w' => e = .returned (.int .i64 vi) ∧ Chg NoB w w' := by
  subst hvi
  have hl := Hid.mk' hlack
  clear hlack
  go_enter Try.func40, Try.ntmps40
  go_wp2_with (go_at_call 52; refine hl.out.mono ?_; rintro e W1 ⟨rfl, k1⟩)
  go_ret
  exact ⟨rfl, k1⟩

set_option maxHeartbeats 1000000 in
set_option maxRecDepth 100000 in
theorem enrich3 (n : Nat) (i : Nat) (vi vd : Int) (Q : World → Prop) (w : World) (hvi : vi = (i : Int) + 1) (hi : i ≤ 1000)
    (hlack : Calls Try.prog 52 #[.pointer (some ⟨n, 0, none⟩), .int .i64 vi, .int .i64 vd] w fun e w' => e = .returned (.int .i64 3) ∧ Chg NoB w w')
    (hj : ∀ w1, Chg NoB w w1 → Calls Try.prog 42 #[.pointer (some ⟨n, 0, none⟩), .int .i64 (i : Int)] w1 fun e w' => e = .returned (.tuple #[]) ∧ Q w') :
    Calls Try.prog 40 #[.pointer (some ⟨n, 0, none⟩), .int .i64 vi, .int .i64 vd] w fun e w' => e = .returned (.int .i64 (i : Int)) ∧ Q w' := by
  subst hvi
  have hl := Hid.mk' hlack
  have hj' := Hid.mk' hj
  clear hlack hj
  have e1 : (i : Int) + 1 - 1 = i := by omega
  go_enter Try.func40, Try.ntmps40
  go_wp2_with (first | (go_at_call 52; refine hl.out.mono ?_; rintro e W1 ⟨rfl, k1⟩) | (go_at_call 42; refine (hj'.out _ k1).mono ?_; rintro e W2 ⟨rfl, q⟩))
  go_ret
  exact ⟨rfl, q⟩

set_option maxHeartbeats 1000000 in
set_option maxRecDepth 100000 in
theorem enrich4 (n : Nat) (i : Nat) (vi vd : Int) (Q : World → Prop) (w : World) (hvi : vi = (i : Int)) (hi : i ≤ 1000)
    (hlack : Calls Try.prog 52 #[.pointer (some ⟨n, 0, none⟩), .int .i64 vi, .int .i64 vd] w fun e w' => e = .returned (.int .i64 4) ∧ Chg NoB w w')
    (hj : ∀ w1, Chg NoB w w1 → Calls Try.prog 42 #[.pointer (some ⟨n, 0, none⟩), .int .i64 (i : Int)] w1 fun e w' => e = .returned (.tuple #[]) ∧ Q w') :
    Calls Try.prog 40 #[.pointer (some ⟨n, 0, none⟩), .int .i64 vi, .int .i64 vd] w fun e w' => e = .returned (.int .i64 (i : Int)) ∧ Q w' := by
  subst hvi
  have hl := Hid.mk' hlack
  have hj' := Hid.mk' hj
  clear hlack hj
  go_enter Try.func40, Try.ntmps40
  go_wp2_with (first | (go_at_call 52; refine hl.out.mono ?_; rintro e W1 ⟨rfl, k1⟩) | (go_at_call 42; refine (hj'.out _ k1).mono ?_; rintro e W2 ⟨rfl, q⟩))
  go_ret
  exact ⟨rfl, q⟩
end Go.Proofs.Ytamnmoejjjaegaa
