/- From the rows' conditions: slices of lines. No conditions. -/
import Derived.Test.YtgnnjkmlnfdngaaDoorFs
import Derived.Test.YtgnnjkmlnfdngaaDoorAe
set_option linter.unusedVariables false
set_option linter.unusedSimpArgs false
namespace Go.Proofs.YtgnnjkmlnfdngaaDoor
open Go Go.ChangeShapes Go.WideShapes Go.ChangeAt Go.RowKit Go.Joins

theorem c45 : Tryd.prog.cellsOf 45 = 2 := by kernel_rfl
set_option maxRecDepth 100000 in
theorem slL_of {H : Type} {enc : TypeId × Value → H} {w : World} {fuel : Nat} {a : Option Addr} {len cap : Nat} {x : DataW H × List MemPlace} (h : DataW.trod enc Tryd.prog w 0 (fun _ => true) true fuel 42 [.slice a len cap] = some x) :
    ∃ ps : List Line, SlL w (.slice a len cap) ps := by
  rcases Deep.open_slice Tryd.underlying42 h with ⟨hcs, -⟩ | ⟨b, len', cap', m, n, D, Pl, hcs, -, hl, hm, hmm, -, hx⟩
  · simp at hcs
    obtain ⟨rfl, rfl, rfl⟩ := hcs
    exact ⟨[], .inl ⟨none, 0, rfl, rfl⟩⟩
  · simp at hcs
    obtain ⟨rfl, rfl, rfl⟩ := hcs
    by_cases h0 : len = 0
    · subst h0
      exact ⟨[], .inl ⟨some b, cap, rfl, rfl⟩⟩
    · have hm2 : len ≤ m := by rw [hmm]; simp; omega
      have each : ∀ i, i < len → ∃ p : Line, w.cell? ((b.add (i * 2)).add 0) = some (tv p.1) ∧ w.cell? ((b.add (i * 2)).add 1) = some (.int .i64 p.2) := fun i hi => by
        obtain ⟨cs', h1, h2⟩ := hx i (by omega)
        rw [c45] at h1
        obtain ⟨-, hlen, hcell⟩ := World.cells?_some h1
        obtain ⟨y0, y1, k, -, -, t0, t1⟩ := trod_struct2 Tryd.underlying45 h2
        match cs', hlen with
        | [v0, v1], _ =>
          simp [c3, c9] at t0 t1
          obtain ⟨z0, q0, -, -⟩ := DataW.trod_string Tryd.underlying9 t0
          obtain ⟨z1, q1, -, -⟩ := DataW.trod_int Tryd.underlying3 t1
          simp only [List.cons.injEq, and_true] at q0 q1
          subst q0 q1
          have g0 := hcell 0 (by omega)
          have g1 := hcell 1 (by omega)
          refine ⟨(z0.data.toList, z1), ?_, by simpa using g1⟩
          unfold tv; rw [bsOf_data]; simpa using g0
      have hb : b.spot = none := by
        obtain ⟨p, h1, -⟩ := each 0 (by omega)
        exact spot_none h1
      obtain ⟨g, o, sp⟩ := b
      obtain rfl : sp = none := hb
      have hadd : ∀ i j, ((⟨g, o, none⟩ : Addr).add i).add j = ⟨g, o + i + j, none⟩ := fun i j => by
        have e : ∀ (g o k : Nat), (⟨g, o, none⟩ : Addr).add k = ⟨g, o + k, none⟩ := fun g o k => by simp only [Addr.add]; split <;> simp_all
        rw [e, e]
      obtain ⟨f, hf⟩ := Deep.choose_lt (α := Line) each
      refine ⟨(List.range len).map f, .inr ⟨g, o, cap, by simp, by simpa using hl, fun j p hp => ?_⟩⟩
      rw [List.getElem?_map] at hp
      obtain ⟨k, hk, rfl⟩ := Option.map_eq_some_iff.1 hp
      obtain ⟨hlt, rfl⟩ := List.getElem?_eq_some_iff.1 hk
      simp only [List.length_range] at hlt
      have := hf j hlt
      simp only [hadd] at this
      simpa using this
end Go.Proofs.YtgnnjkmlnfdngaaDoor
