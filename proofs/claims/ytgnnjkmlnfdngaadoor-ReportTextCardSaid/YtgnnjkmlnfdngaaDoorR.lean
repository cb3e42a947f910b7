/- What problems writes. Conditions: at most 20 problems, names of at most 30 bytes. -/
import Derived.Test.YtgnnjkmlnfdngaaDoorK
import Derived.Test.YtgnnjkmlnfdngaaDoorI
set_option linter.unusedVariables false
set_option linter.unusedSimpArgs false
namespace Go.Proofs.YtgnnjkmlnfdngaaDoor
open Go Go.RowKit Go.Sort

abbrev Prob := Int × List UInt8 × Int
def InI (n : Int) : Prop := -9223372036854775808 ≤ n ∧ n ≤ 9223372036854775807
/-- The word for a kind of problems. -/
def kindL (k : Int) : List UInt8 := if 1 ≤ k ∧ k < 11 then kindsL.getD k.toNat [] else [111, 116, 104, 101, 114]
/-- The line of a problem. -/
def probL (word : List UInt8) (p : Prob) : List UInt8 :=
  word ++ [32] ++ kindL p.1 ++ (if p.2.1 = [] then [] else 32 :: p.2.1) ++ (if p.2.2 = 0 then [] else 32 :: Lib.itoa p.2.2)
def probsL (word : List UInt8) (ps : List Prob) : List UInt8 := (ps.map fun p => probL word p ++ [10]).flatten

/-- A slice of problems that can be read. -/
def SlP (w : World) (u : Value) (ps : List Prob) : Prop :=
  (∃ a c, u = .slice a 0 c ∧ ps = []) ∨ ∃ g o c, u = .slice (some ⟨g, o, none⟩) ps.length c ∧ ps.length ≤ c ∧ ∀ j p, ps[j]? = some p → w.cell? ⟨g, o + j * 3, none⟩ = some (.int .i64 p.1) ∧ w.cell? ⟨g, o + j * 3 + 1, none⟩ = some (tv p.2.1) ∧ w.cell? ⟨g, o + j * 3 + 2, none⟩ = some (.int .i64 p.2.2)
theorem SlP.new {w w' : World} {u : Value} {ps : List Prob} (h : SlP w u ps) (k : Chg NoB w w') : SlP w' u ps := by
  rcases h with h | ⟨g, o, c, rfl, h1, h2⟩
  · exact .inl h
  · exact .inr ⟨g, o, c, rfl, h1, fun j p hp => ⟨k.cell (fun h => h) (h2 j p hp).1, k.cell (fun h => h) (h2 j p hp).2.1, k.cell (fun h => h) (h2 j p hp).2.2⟩⟩
theorem SlP.form' {w : World} {u : Value} {ps : List Prob} (h : SlP w u ps) : ∃ a n c, u = .slice a n c ∧ Hid (n = ps.length) := by
  rcases h with ⟨a, c, rfl, rfl⟩ | ⟨g, o, c, rfl, _⟩
  · exact ⟨a, 0, c, rfl, rfl⟩
  · exact ⟨_, _, c, rfl, rfl⟩
theorem SlP.at {w : World} {a : Option Addr} {n c : Nat} {ps : List Prob} (h : SlP w (.slice a n c) ps) (hp : 0 < ps.length) :
    ∃ g o, a = some ⟨g, o, none⟩ ∧ ∀ j p, ps[j]? = some p → w.cell? ⟨g, o + j * 3, none⟩ = some (.int .i64 p.1) ∧ w.cell? ⟨g, o + j * 3 + 1, none⟩ = some (tv p.2.1) ∧ w.cell? ⟨g, o + j * 3 + 2, none⟩ = some (.int .i64 p.2.2) := by
  rcases h with ⟨_, _, h, rfl⟩ | ⟨g, o, c', h, h1, h2⟩
  · simp at hp
  · simp only [Value.slice.injEq] at h
    obtain ⟨rfl, rfl, rfl⟩ := h
    exact ⟨g, o, rfl, h2⟩
theorem kinds_at (w : World) (h : Lay w) (k : Nat) (hk : k < 11) : w.cell? ⟨0, k, none⟩ = some (tv (kindsL.getD k [])) := by
  have := World.var?_cell (g := 0) (by kernel_rfl) h.2 k
  rw [this, List.getElem?_toArray, List.getElem?_map, List.getElem?_eq_getElem (by show k < 11; exact hk)]
  simp [List.getD, List.getElem?_eq_getElem (show k < kindsL.length from hk)]
end Go.Proofs.YtgnnjkmlnfdngaaDoor
