/- From the rows' conditions: slices of problems. No conditions. -/
import Derived.Test.YtgnnjkmlnfdngaaDoorFr
import Derived.Test.YtgnnjkmlnfdngaaDoorR
import Derived.Deep.Strs
set_option linter.unusedVariables false
set_option linter.unusedSimpArgs false
namespace Go.Proofs.YtgnnjkmlnfdngaaDoor
open Go Go.ChangeShapes Go.WideShapes Go.ChangeAt Go.RowKit Go.Joins

theorem c64 : Tryd.prog.cellsOf 64 = 3 := by kernel_rfl
theorem spot_none {w : World} {b : Addr} {x : Value} (h : w.cell? b = some x) : b.spot = none := by
  unfold World.cell? at h
  split at h
  · split at h
    · cases h
    · rename_i hs
      cases hsp : b.spot with
      | none => rfl
      | some k => rw [hsp] at hs; simp at hs
  · cases h
theorem slT_of2 {H : Type} {enc : TypeId × Value → H} {w : World} {fuel : Nat} {y : Value} {x : DataW H × List MemPlace} (h : DataW.trod enc Tryd.prog w 0 (fun _ => true) true fuel 22 [y] = some x) :
    ∃ l : List (List UInt8), Sl w y (l.map tv) := by
  have hsl : ∃ a len cap, y = .slice a len cap := by
    rcases Deep.open_slice1 Tryd.underlying22 c9 h with ⟨hcs, -⟩ | ⟨b, l, c, m, n, V, D, Pl, hcs, -⟩
    · simp at hcs; exact ⟨_, _, _, hcs⟩
    · simp at hcs; exact ⟨_, _, _, hcs⟩
  obtain ⟨a, len, cap, rfl⟩ := hsl
  exact slT_of h
set_option maxRecDepth 100000 in
theorem slP_of {H : Type} {enc : TypeId × Value → H} {w : World} {fuel : Nat} {y : Value} {x : DataW H × List MemPlace} (h : DataW.trod enc Tryd.prog w 0 (fun _ => true) true fuel 29 [y] = some x) :
    ∃ ps : List Prob, SlP w y ps ∧ ∀ p ∈ ps, InI p.1 ∧ InI p.2.2 := by
  rcases Deep.open_slice Tryd.underlying29 h with ⟨hcs, -⟩ | ⟨b, len, cap, m, n, D, Pl, hcs, -, hl, hm, hmm, -, hx⟩
  · simp at hcs
    subst hcs
    exact ⟨[], .inl ⟨none, 0, rfl, rfl⟩, fun p hp => by cases hp⟩
  · simp at hcs
    subst hcs
    by_cases h0 : len = 0
    · subst h0
      exact ⟨[], .inl ⟨some b, cap, rfl, rfl⟩, fun p hp => by cases hp⟩
    · have hm2 : len ≤ m := by rw [hmm]; simp; omega
      have each : ∀ i, i < len → ∃ p : Prob, (InI p.1 ∧ InI p.2.2) ∧ w.cell? ((b.add (i * 3)).add 0) = some (.int .i64 p.1) ∧ w.cell? ((b.add (i * 3)).add 1) = some (tv p.2.1) ∧ w.cell? ((b.add (i * 3)).add 2) = some (.int .i64 p.2.2) := fun i hi => by
        obtain ⟨cs', h1, h2⟩ := hx i (by omega)
        rw [c64] at h1
        obtain ⟨-, hlen, hcell⟩ := World.cells?_some h1
        obtain ⟨y0, y1, y2, k, -, -, t0, t1, t2⟩ := Deep.trod_struct3 Tryd.underlying64 h2
        match cs', hlen with
        | [v0, v1, v2], _ =>
          simp [c3, c9] at t0 t1 t2
          obtain ⟨z0, q0, -, a0⟩ := DataW.trod_int Tryd.underlying3 t0
          obtain ⟨z1, q1, -, -⟩ := DataW.trod_string Tryd.underlying9 t1
          obtain ⟨z2, q2, -, a2⟩ := DataW.trod_int Tryd.underlying3 t2
          simp only [List.cons.injEq, and_true] at q0 q1 q2
          subst q0 q1 q2
          have g0 := hcell 0 (by omega)
          have g1 := hcell 1 (by omega)
          have g2 := hcell 2 (by omega)
          refine ⟨(z0, z1.data.toList, z2), ⟨?_, ?_⟩, by simpa using g0, ?_, by simpa using g2⟩
          · unfold InI; simpa [Lit.wf, IntKind.min, IntKind.max, IntKind.signed, IntKind.bits] using a0
          · unfold InI; simpa [Lit.wf, IntKind.min, IntKind.max, IntKind.signed, IntKind.bits] using a2
          · unfold tv; rw [bsOf_data]; simpa using g1
      have hb : b.spot = none := by
        obtain ⟨p, -, h1, -⟩ := each 0 (by omega)
        exact spot_none h1
      obtain ⟨g, o, sp⟩ := b
      obtain rfl : sp = none := hb
      have hadd : ∀ i j, ((⟨g, o, none⟩ : Addr).add i).add j = ⟨g, o + i + j, none⟩ := fun i j => by
        have e : ∀ (g o k : Nat), (⟨g, o, none⟩ : Addr).add k = ⟨g, o + k, none⟩ := fun g o k => by simp only [Addr.add]; split <;> simp_all
        rw [e, e]
      obtain ⟨f, hf⟩ := Deep.choose_lt (α := Prob) each
      refine ⟨(List.range len).map f, .inr ⟨g, o, cap, by simp, by simpa using hl, fun j p hp => ?_⟩, fun p hp => ?_⟩
      · rw [List.getElem?_map] at hp
        obtain ⟨k, hk, rfl⟩ := Option.map_eq_some_iff.1 hp
        obtain ⟨hlt, rfl⟩ := List.getElem?_eq_some_iff.1 hk
        simp only [List.length_range] at hlt
        have := (hf j hlt).2
        simp only [hadd] at this
        simpa using this
      · obtain ⟨k, hk, rfl⟩ := List.mem_map.1 hp
        exact (hf k (List.mem_range.1 hk)).1
end Go.Proofs.YtgnnjkmlnfdngaaDoor
