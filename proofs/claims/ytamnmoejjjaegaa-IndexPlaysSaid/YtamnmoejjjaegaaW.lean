/- Steps of a drawn region: the builtin append at rows. -/
import Derived.Test.YtamnmoejjjaegaaA1
import Derived.Test.YtamnmoejjjaegaaWLast
import Derived.Below
import Derived.Deep.Draws
import Derived.Deep.AppendLies
import Derived.Maps.AppendAt
import Derived.OwnWalk
import Derived.Laws.BytesArg
import Derived.Laws.MakeOwn
import Derived.Laws.OwnMore
import Derived.Deep.OwnRows
import Derived.Tactics
import Derived.Lib.ConvBytes
import Derived.Laws.Slices
import Derived.WalkKit
import Derived.KernelRfl
import Derived.RowKit3
import Derived.Deep.LoopGhost
import Derived.Deep.QuietTactic
import Derived.BigQuiet
import Derived.WideLaws
import Derived.Deep.DeepCutAuto
import Derived.Deep.CutBlock
import Derived.Deep.RegionHeld3
import Derived.Laws.Rows
import Derived.Lib.AppendStr
import Derived.ArgAppend
import Derived.Laws.IdiomCopy
import Derived.RowKit
import Derived.Deep.CutRange
set_option linter.unusedVariables false
namespace Go.Proofs.Ytamnmoejjjaegaa
open Go Go.RowKit Go.Proofs.YtamnmoejjjaegaaW.PrintLast
section
variable {P : Program} {ops : Array Oper} {Q : Exit → Act → World → Prop}
theorem append_step {oi : Oper} {N : Option Tmp} {a : Act} {w : World} {K : Act → World → Prop} (hw : Region.wanted oi (yielded ops a.tmps) = true) (hN : oi.dst = N) (s x : Operand) (t e : TypeId) (z : Value) (bytes : Nat)
    (ho : oi.op = .call { callee := .builtin .append, args := #[s, x], argTypes := #[t, t] }) (ht : P.underlying t = some (.slice e)) (hinfo : (P.info? e).map (fun i => (i.zero, i.size, i.bytes)) = some (some z, 1, bytes)) (hz1 : z.cells = #[z])
    (v u : Value) (xs ys : List Value) (hs : a.eval s = v) (hx : a.eval x = u) (h : Row w e v xs) (hu : Row w e u ys) (h1 : ∀ y ∈ ys, y.oneCell' = true) (hb : (xs.length + ys.length) * bytes ≤ 140737488355328) (hl : xs.length + ys.length ≤ 1099511627776)
    (hK : ∀ v' w', Row w' e v' (xs ++ ys) → (∀ k, own v' k → own v k ∨ (w.heap.size ≤ k ∧ k < w'.heap.size)) → Chg (own v) w w' → K (a.put N v') w') :
    if Region.wanted oi (yielded ops a.tmps) = true then Oper.wp P oi a w K Q else K (a.put N undef) w := by
  obtain ⟨v', w', hr, h2, h3, h4⟩ := run_append_row (P := P) w t oi.type e z bytes ht hinfo hz1 v u xs ys h hu h1 hb hl
  refine value_ (w1 := w') (v := v') hw hN ?_ (hK v' w' h2 h3 h4)
  unfold execOp
  simp only [ho, resolve, invoke, builtin, Sem.run_bind, Sem.run_pure, Result.andThen_ok, List.map_toArray, List.map_cons, List.map_nil, hs, hx, hr]
theorem named {K : Act → World → Prop} {a : Act} {w : World} (h : ∀ w', w' = w → K a w') : K a w := h w rfl
end
/-- What the first of two fields' updates in one statement, and the second's literal, leave, whatever their order: s: the literals' blocks and the new row. -/
def Half (W : World) (E1 E2 : TypeId) (u1 : Value) (xs1 : List Value) (x2 : Value) (s : Nat × Nat × (Option Addr × Nat × Nat)) (w' : World) : Prop :=
  Row w' E1 (.slice s.2.2.1 s.2.2.2.1 s.2.2.2.2) xs1 ∧ Row w' E2 (.slice (some ⟨s.2.1, 0, none⟩) 1 1) [x2] ∧
  (∀ k, own (.slice s.2.2.1 s.2.2.2.1 s.2.2.2.2) k → own u1 k ∨ (W.heap.size ≤ k ∧ k < w'.heap.size)) ∧ W.heap.size ≤ s.2.1 ∧ Chg (own u1) W w'
end Go.Proofs.Ytamnmoejjjaegaa
