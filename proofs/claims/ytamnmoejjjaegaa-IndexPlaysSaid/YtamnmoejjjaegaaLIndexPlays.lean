/- The law IndexPlays: for every input it returns true; the input reads as it did. No conditions. -/
import Derived.Test.YtamnmoejjjaegaaRows
import Derived.Test.YtamnmoejjjaegaaX5
import Derived.WalkKit
import Derived.ProofKit
import Derived.OpenShut
import Derived.ShutString
import Derived.ChangeOld
import Derived.Below
import Derived.SizedLaws
import Derived.Deep.Slices
import Derived.Lib.SmallJoins
namespace Go.Proofs.Ytamnmoejjjaegaa.indexPlays
open Go Go.ChangeShapes Go.WideShapes Go.ChangeAt Go.RowKit Go.Joins
open Go.ChangeMaps (open_string shut_string)
set_option linter.unusedVariables false
set_option linter.unusedSimpArgs false
theorem own : ownKnob Try.prog.godebug = none := by kernel_rfl
theorem laidOut : laidOutB Try.prog = true := by kernel_rfl
theorem cells28 : Try.prog.cellsOf 28 = 4 := by kernel_rfl

theorem steps_of {H : Type} {enc : TypeId × Value → H} {w : World} {fuel : Nat} {a : Option Addr} {len cap : Nat} {x : DataW H × List MemPlace} (h : DataW.trod enc Try.prog w 0 (fun _ => true) true fuel 22 [.slice a len cap] = some x) : ∃ l : List St, Steps w a len l := by
  rcases Deep.open_slice Try.underlying22 h with ⟨hcs, -⟩ | ⟨b, l, c, m, n, D, Pl, hcs, -, hl, hm, hmm, -, hx⟩
  · simp at hcs
    obtain ⟨rfl, rfl, rfl⟩ := hcs
    exact ⟨[], rfl, fun i s hs => by simp at hs⟩
  · simp at hcs
    obtain ⟨rfl, rfl, rfl⟩ := hcs
    have each : ∀ i, i < len → ∃ s : St, StepAt w (b.add (i * 4)) s := fun i hi => by
      obtain ⟨cs', h1, h2⟩ := hx i (by rw [hmm]; simp; omega)
      rw [cells28] at h1
      obtain ⟨-, hlen, hcell⟩ := World.cells?_some h1
      obtain ⟨y0, y1, y2, y3, k, -, -, t0, t1, t2, t3⟩ := trod_struct4 Try.underlying28 h2
      match cs', hlen with
      | [v0, v1, v2, v3], _ =>
        have c3 : Try.prog.cellsOf 3 = 1 := by kernel_rfl
        have c9 : Try.prog.cellsOf 9 = 1 := by kernel_rfl
        have c4 : Try.prog.cellsOf 4 = 1 := by kernel_rfl
        simp [c3, c9, c4] at t0 t1 t2 t3
        obtain ⟨z0, q0, -, -⟩ := DataW.trod_int Try.underlying3 t0
        obtain ⟨z1, q1, -, -⟩ := DataW.trod_string Try.underlying9 t1
        obtain ⟨z2, q2, -, -⟩ := DataW.trod_int Try.underlying3 t2
        obtain ⟨z3, q3, -⟩ := DataW.trod_bool Try.underlying4 t3
        simp only [List.cons.injEq, and_true] at q0 q1 q2 q3
        subst q0 q1 q2 q3
        have g0 := hcell 0 (by omega)
        have g1 := hcell 1 (by omega)
        have g2 := hcell 2 (by omega)
        have g3 := hcell 3 (by omega)
        exact ⟨(z0, z1, z2, z3), by simpa [Addr.add] using g0, by simpa [Addr.add] using g1, by simpa [Addr.add] using g2, by simpa [Addr.add] using g3⟩
    obtain ⟨f, hf⟩ := Deep.choose_lt (α := St) each
    refine ⟨(List.range len).map f, by simp, fun i s hs => ?_⟩
    rw [List.getElem?_map] at hs
    cases hr : (List.range len)[i]? with
    | none => rw [hr] at hs; cases hs
    | some j =>
      rw [hr] at hs
      have hij := (List.getElem?_eq_some_iff.1 hr)
      obtain ⟨hi, rfl⟩ := hij
      simp at hs hi
      exact ⟨b, rfl, hs ▸ hf i hi⟩
theorem below {w w' : World} (h : Chg NoB w w') : Below w.heap.size w w' := ⟨h.os, h.tape, h.output, h.size, fun k hk => h.block k hk (fun h => h)⟩

set_option maxRecDepth 100000 in
theorem lifted (os : Os) (started : os.Started) (H : Type) (enc : TypeId × Value → H) :
    ReturnsInHanded {} Try.checked os 5 .any (Rows.indexPlaysSpec.pre6 enc Try.prog Try.f5 Rows.indexPlaysRow.domain false) (Rows.indexPlaysSpec.post enc Try.prog Try.f5 false true false false) := by
  refine returnsInHanded_of_change (C := Try.checked) own started (by kernel_rfl) Try.func5
    (ChangeSpec.witness6 (enc := enc) (C := Try.checked) false ⟨#[], #[.int .i64 0, .slice none 0 0], []⟩ 8 (by kernel_rfl) (by kernel_rfl) (by kernel_rfl) (by kernel_rfl)) ?_
  intro W base args ds gs before hval0 hW hcnd _
  have hval : ∀ (j : Nat) t v, Try.f5.params[j]? = some t → args[j]? = some v → Value.okWide Try.prog W .any base t v := hval0
  have hW' := hW
  obtain ⟨p, q, hA0, hV, rfl, hfz, hnd⟩ := hW
  have hA : DataW.TrodAll enc Try.prog W 0 (fun _ => true) true Try.f5.params.toList args.toList ds p := hA0
  rw [Try.params5] at hA hval
  obtain ⟨v0, vs0, d0, ds0, p0, q0, hargs, rfl, rfl, h0, r0⟩ := trodAll_cons hA
  obtain ⟨v1, vs1, d1, ds1, p1, q1, rfl, rfl, rfl, h1, r1⟩ := trodAll_cons r0
  obtain ⟨rfl, rfl, rfl⟩ := trodAll_nil r1
  obtain rfl : args = #[v0, v1] := by cases args; simp_all
  obtain ⟨rfl, rfl⟩ := trodVars_none hV
  obtain ⟨a0, rfl, rfl, rfl, w0⟩ := open_int Try.underlying3 (hval 0 3 v0 rfl rfl) h0
  obtain ⟨a1, len1, cap1, rfl⟩ := okWide_slice Try.underlying22 (hval 1 22 v1 rfl rfl)
  have k1 := h1
  have lt1 : ∀ x ∈ p1, x.block < W.heap.size := by obtain ⟨m, hm⟩ := k1; exact DataW.trod_lt m _ _ _ hm
  obtain ⟨l1, hl1⟩ : ∃ l, Steps W a1 len1 l := by
    obtain ⟨fuel, hf⟩ := h1
    exact steps_of (by simpa [Value.cells] using hf)
  clear hA0 hval0
  refine (plays5 a0 a1 len1 cap1 l1 W hl1).mono fun e W' ⟨he, chg⟩ => ?_
  subst he
  have bel := below chg
  exact ⟨_, rfl, _, _, _, [], _, [], hW', trodAll_mk1 (shut_bool Try.underlying4 _), (trodAll_cons_mk (shut_int Try.underlying3 w0) (trodAll_cons_mk (Below.trod laidOut (by kernel_rfl) (of_decide_eq_true (by kernel_rfl)) k1 bel lt1) trodAll_mk0)), rfl, bel.frame _, fun h => by cases h⟩
theorem over : Rows.indexPlaysRow.holds Try.pinned (OpenSpec.ofChange Rows.indexPlaysSpec) :=
  OpenClaim.holds_of_wide 5 Try.f5 rfl rfl rfl rfl rfl rfl rfl ⟨rfl, rfl, rfl, rfl, rfl⟩ rfl rfl rfl rfl rfl (by kernel_rfl) Try.func5 (by kernel_rfl)
    (of_decide_eq_true (by kernel_rfl)) (by unfold Func.isWrapper; first | (rw [if_pos (by decide +kernel)]; kernel_rfl) | (rw [if_neg (by decide +kernel)]; exact ⟨rfl, rfl⟩))
    (fun os started H enc _ => lifted os started H enc)
theorem proved : Rows.IndexPlaysSaid := over
end Go.Proofs.Ytamnmoejjjaegaa.indexPlays
namespace Go.Proofs.Ytamnmoejjjaegaa
/-- The row, under a short name, for the claim. -/
theorem indexPlays_holds : Rows.IndexPlaysSaid := indexPlays.proved
#print axioms indexPlays_holds
end Go.Proofs.Ytamnmoejjjaegaa

