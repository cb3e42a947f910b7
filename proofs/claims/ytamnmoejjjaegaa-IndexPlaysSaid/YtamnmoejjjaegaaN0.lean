/- What (*node).leaf returns. No conditions. -/
import Derived.Test.YtamnmoejjjaegaaS
import Derived.Test.YtamnmoejjjaegaaH
set_option linter.unusedVariables false
set_option linter.unusedSimpArgs false
namespace Go.Proofs.Ytamnmoejjjaegaa
open Go Go.RowKit

theorem leaf_yes (b : Nat) (a : Option Addr) (c : Nat) (w : World) (h2 : w.cell? ⟨b, 2, none⟩ = some (.slice a 0 c)) :
    Calls Try.prog 25 #[.pointer (some ⟨b, 0, none⟩)] w fun e w' => e = .returned (.bool true) ∧ w = w' := by
  go_enter Try.func25, Try.ntmps25
  go_wp2
  go_ret
  exact ⟨rfl, rfl⟩
theorem leaf_no (b : Nat) (a : Option Addr) (n c : Nat) (w : World) (h2 : w.cell? ⟨b, 2, none⟩ = some (.slice a n c)) (hn : 0 < n) :
    Calls Try.prog 25 #[.pointer (some ⟨b, 0, none⟩)] w fun e w' => e = .returned (.bool false) ∧ w = w' := by
  have hb : ((n : Int) == 0) = false := by rw [beq_eq_false_iff_ne]; omega
  go_enter Try.func25, Try.ntmps25
  go_wp2
  go_ret
  exact ⟨rfl, rfl⟩
end Go.Proofs.Ytamnmoejjjaegaa
