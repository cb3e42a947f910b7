/- From the rows' conditions to what the walks ask: the laid variables; slices of texts, of numbers, of rows. No conditions. -/
import Derived.Test.YtgnnjkmlnfdngaaDoorJ
import Derived.Test.YtgnnjkmlnfdngaaDoorTie
import Derived.WalkKit
import Derived.ProofKit
import Derived.OpenShut
import Derived.ShutString
import Derived.ChangeOld
import Derived.Below
import Derived.SizedLaws
import Derived.Deep.Slices
import Derived.Lib.SmallJoins
import Derived.Lib.LaidTab
import Derived.LaidMore
import Derived.Lay
import Derived.SevenTiedAt
import Derived.Stop.Joined
set_option linter.unusedVariables false
set_option linter.unusedSimpArgs false
namespace Go.Proofs.YtgnnjkmlnfdngaaDoor
open Go Go.ChangeShapes Go.WideShapes Go.ChangeAt Go.RowKit Go.Joins

theorem own0 : ownKnob Tryd.prog.godebug = none := by kernel_rfl
theorem laidOut : laidOutB Tryd.prog = true := by kernel_rfl
def laidL6 : List (String × DataW Unit) := [("math/bits.deBruijn32tab", Rows.laid_math_bits_deBruijn32tab), ("math/bits.deBruijn64tab", Rows.laid_math_bits_deBruijn64tab), ("internal/strconv.uint64pow10", Rows.laid_internal_strconv_uint64pow10), ("unicode/utf8.acceptRanges", Rows.laid_unicode_utf8_acceptRanges), ("tapearchive/report.kinds", Rows.laid_tapearchive_report_kinds), ("unicode/utf8.first", Rows.laid_unicode_utf8_first)]
theorem pow10_laid : (Rows.laid_internal_strconv_uint64pow10 : DataW Unit) = Lib.tabData .u64 Lib.pow10Tab := by kernel_rfl
theorem kinds_laid : (Rows.laid_tapearchive_report_kinds : DataW Unit) = .agg (kindsL.map fun b => .lit (.string b)) := by kernel_rfl
theorem c9 : Tryd.prog.cellsOf 9 = 1 := by kernel_rfl
theorem c3 : Tryd.prog.cellsOf 3 = 1 := by kernel_rfl
theorem c22 : Tryd.prog.cellsOf 22 = 1 := by kernel_rfl
theorem c71 : Tryd.prog.cellsOf 71 = 11 := by kernel_rfl

theorem kinds_cells {W : World} {sp : Nat → Bool} {fuel : Nat} {cs : Array Value} {p : List MemPlace} (hd : DataW.trod (fun _ => ()) Tryd.prog W 0 sp false fuel 71 cs.toList = some (.agg (kindsL.map fun b => .lit (.string b)), p)) : cs = (kindsL.map tv).toArray := by
  obtain ⟨xs, m, _, ex, hlen, hl, hel⟩ := DataW.trod_array Tryd.underlying71 hd
  rw [c71] at hlen
  have e3 : xs.map (·.1) = kindsL.map fun b => (DataW.lit (.string b) : DataW Unit) := (DataW.agg.inj (Prod.mk.inj ex).1).symm
  have hk : kindsL.length = 11 := rfl
  apply Array.ext'
  apply List.ext_getElem?
  intro r
  by_cases hr : r < 11
  · have hE := hel r hr
    rw [c9, Nat.mul_one, List.getElem?_eq_getElem (by omega)] at hE
    obtain ⟨z, e1, e2, _⟩ := DataW.trod_string Tryd.underlying9 hE
    have e4 : (xs.map (·.1))[r]? = (kindsL.map fun b => (DataW.lit (.string b) : DataW Unit))[r]? := by rw [e3]
    rw [List.getElem?_map, List.getElem?_map, List.getElem?_eq_getElem (by omega : r < xs.length), List.getElem?_eq_getElem (by omega : r < kindsL.length), e2] at e4
    have hz : z.data.toList = kindsL[r]'(by omega) := by simpa using e4
    have h0 : ((cs.toList.drop r).take 1)[0]? = some (.string z) := by rw [e1]; rfl
    have h1 : cs.toList[r]? = some (.string z) := by simpa using h0
    rw [h1, List.getElem?_map, List.getElem?_eq_getElem (by omega : r < kindsL.length)]
    simp only [Option.map_some, Option.some.injEq]
    rw [← hz]
    unfold tv
    rw [bsOf_data]
  · rw [List.getElem?_eq_none (by omega), List.getElem?_eq_none (by rw [List.length_map]; omega)]

theorem lay_of {W : World} (h : laidMetH Tryd.prog laidL6 W) : Lay W := by
  rw [MakeChecks.laidMetH_plain _ _ _ (by kernel_rfl)] at h
  obtain ⟨ps, ⟨_, _, _, _, _, _, _, _, _, _, h1, _⟩, _⟩ := h
  obtain ⟨_, _, _, _, _, _, _, _, _, _, h2, _⟩ := h1
  obtain ⟨g, t, cs, fuel, p, q, hg, ht, hv, hd, h3, _⟩ := h2
  obtain ⟨_, _, _, _, _, _, _, _, _, _, h4, _⟩ := h3
  obtain ⟨g', t', cs', fuel', p', q', hg', ht', hv', hd', _, _⟩ := h4
  obtain rfl := Option.some.inj ((show Tryd.prog.globalNamed "internal/strconv.uint64pow10" = some 2 by kernel_rfl).symm.trans hg)
  obtain rfl := Option.some.inj ((show (Tryd.prog.globals[2]?).map (·.type) = some 114 by kernel_rfl).symm.trans ht)
  obtain rfl := Option.some.inj ((show Tryd.prog.globalNamed "tapearchive/report.kinds" = some 0 by kernel_rfl).symm.trans hg')
  obtain rfl := Option.some.inj ((show (Tryd.prog.globals[0]?).map (·.type) = some 71 by kernel_rfl).symm.trans ht')
  refine ⟨?_, ?_⟩
  · rw [pow10_laid] at hd
    unfold Lib.TabIs
    rw [hv, ← Lib.cells_of_tab Tryd.underlying114 Tryd.underlying87 (by kernel_rfl) (by kernel_rfl) hd]
  · rw [kinds_laid] at hd'
    rw [hv', kinds_cells hd']

/-- A slice whose elements take one cell each. -/
theorem sl1_of {H : Type} {enc : TypeId × Value → H} {w : World} {fuel : Nat} {t e : TypeId} {a : Option Addr} {len cap : Nat} {x : DataW H × List MemPlace} (ht : Tryd.prog.underlying t = some (.slice e)) (hc : Tryd.prog.cellsOf e = 1)
    (h : DataW.trod enc Tryd.prog w 0 (fun _ => true) true fuel t [.slice a len cap] = some x) :
    ∃ ys : List Value, Sl w (.slice a len cap) ys ∧ ys.length = len ∧ ∀ y ∈ ys, ∃ n d, DataW.trod enc Tryd.prog w 0 (fun _ => true) true n e [y] = some d := by
  rcases Deep.open_slice1 ht hc h with ⟨hcs, -⟩ | ⟨b, l, c, m, n, V, D, Pl, hcs, -, hl, hm, hmm, -, hx⟩
  · simp at hcs
    obtain ⟨rfl, rfl, rfl⟩ := hcs
    exact ⟨[], .inl ⟨none, 0, rfl, rfl⟩, rfl, fun y hy => by cases hy⟩
  · simp at hcs
    obtain ⟨rfl, rfl, rfl⟩ := hcs
    by_cases h0 : len = 0
    · subst h0
      exact ⟨[], .inl ⟨some b, cap, rfl, rfl⟩, rfl, fun y hy => by cases hy⟩
    · have hm2 : len ≤ m := by rw [hmm]; simp; omega
      have hb : b.spot = none := by
        have h1 := (hx 0 (by omega)).1
        have h2 : b.add 0 = b := rfl
        rw [h2] at h1
        unfold World.cell? at h1
        split at h1
        · split at h1
          · cases h1
          · rename_i hs
            cases hsp : b.spot with
            | none => rfl
            | some k => rw [hsp] at hs; simp at hs
        · cases h1
      obtain ⟨g, o, sp⟩ := b
      obtain rfl : sp = none := hb
      refine ⟨(List.range len).map V, .inr ⟨g, o, cap, by simp, by simpa using hl, fun j y hy => ?_⟩, by simp, fun y hy => ?_⟩
      · rw [List.getElem?_map] at hy
        obtain ⟨k, hk, rfl⟩ := Option.map_eq_some_iff.1 hy
        obtain ⟨hlt, rfl⟩ := List.getElem?_eq_some_iff.1 hk
        simp only [List.length_range] at hlt
        have h1 := (hx j (by omega)).1
        have h2 : (⟨g, o, none⟩ : Addr).add j = ⟨g, o + j, none⟩ := by simp only [Addr.add]; split <;> simp_all
        rw [h2] at h1
        simpa using h1
      · obtain ⟨k, hk, rfl⟩ := List.mem_map.1 hy
        exact ⟨_, _, (hx k (by have := List.mem_range.1 hk; omega)).2⟩
theorem map_of {P : Value → Prop} {α : Type} {f : α → Value} : ∀ (ys : List Value), (∀ y ∈ ys, ∃ a, y = f a) → ∃ l : List α, ys = l.map f
  | [], _ => ⟨[], rfl⟩
  | y :: ys, h => by
    obtain ⟨a, rfl⟩ := h y (List.mem_cons_self ..)
    obtain ⟨l, rfl⟩ := map_of (P := P) ys fun y hy => h y (List.mem_cons_of_mem _ hy)
    exact ⟨a :: l, rfl⟩
theorem slT_of {H : Type} {enc : TypeId × Value → H} {w : World} {fuel : Nat} {a : Option Addr} {len cap : Nat} {x : DataW H × List MemPlace} (h : DataW.trod enc Tryd.prog w 0 (fun _ => true) true fuel 22 [.slice a len cap] = some x) :
    ∃ l : List (List UInt8), Sl w (.slice a len cap) (l.map tv) := by
  obtain ⟨ys, h1, -, h2⟩ := sl1_of Tryd.underlying22 c9 h
  obtain ⟨l, rfl⟩ := map_of (P := fun _ => True) (f := tv) ys fun y hy => by
    obtain ⟨n, d, hd⟩ := h2 y hy
    obtain ⟨s, hs, -⟩ := DataW.trod_string Tryd.underlying9 hd
    refine ⟨s.data.toList, ?_⟩
    unfold tv
    rw [bsOf_data]
    simpa using hs
  exact ⟨l, h1⟩
theorem slN_of {H : Type} {enc : TypeId × Value → H} {w : World} {fuel : Nat} {a : Option Addr} {len cap : Nat} {x : DataW H × List MemPlace} (h : DataW.trod enc Tryd.prog w 0 (fun _ => true) true fuel 43 [.slice a len cap] = some x) :
    ∃ l : List Int, Sl w (.slice a len cap) (l.map fun n => .int .i64 n) ∧ ∀ n ∈ l, -9223372036854775808 ≤ n ∧ n ≤ 9223372036854775807 := by
  obtain ⟨ys, h1, -, h2⟩ := sl1_of Tryd.underlying43 c3 h
  obtain ⟨l, rfl⟩ := map_of (P := fun _ => True) (f := fun n : { n : Int // -9223372036854775808 ≤ n ∧ n ≤ 9223372036854775807 } => Value.int .i64 n.1) ys fun y hy => by
    obtain ⟨n, d, hd⟩ := h2 y hy
    obtain ⟨s, hs, -, hw⟩ := DataW.trod_int Tryd.underlying3 hd
    refine ⟨⟨s, ?_⟩, by simpa using hs⟩
    simpa [Lit.wf, IntKind.min, IntKind.max, IntKind.signed, IntKind.bits] using hw
  refine ⟨l.map (·.1), by simpa [List.map_map] using h1, fun n hn => ?_⟩
  obtain ⟨x, -, rfl⟩ := List.mem_map.1 hn
  exact x.2
theorem sl2_of {H : Type} {enc : TypeId × Value → H} {w : World} {fuel : Nat} {a : Option Addr} {len cap : Nat} {x : DataW H × List MemPlace} (h : DataW.trod enc Tryd.prog w 0 (fun _ => true) true fuel 23 [.slice a len cap] = some x) :
    ∃ l : List (List (List UInt8)), Sl2 w (.slice a len cap) l := by
  obtain ⟨ys, h1, -, h2⟩ := sl1_of Tryd.underlying23 c22 h
  have key : ∀ ys : List Value, (∀ y ∈ ys, ∃ n d, DataW.trod enc Tryd.prog w 0 (fun _ => true) true n 22 [y] = some d) → ∃ l : List (List (List UInt8)), ys.length = l.length ∧ ∀ (k : Nat) (u : Value) (r : List (List UInt8)), ys[k]? = some u → l[k]? = some r → Sl w u (r.map tv) := by
    intro ys hy
    induction ys with
    | nil => exact ⟨[], rfl, fun k u r a => by simp at a⟩
    | cons y ys ih =>
      obtain ⟨l, hl, hall⟩ := ih fun z hz => hy z (List.mem_cons_of_mem _ hz)
      obtain ⟨n, d, hd⟩ := hy y (List.mem_cons_self ..)
      have hsl : ∃ a len cap, y = .slice a len cap := by
        rcases Deep.open_slice1 Tryd.underlying22 c9 hd with ⟨hcs, -⟩ | ⟨b, l, c, m, n, V, D, Pl, hcs, -⟩
        · simp at hcs; exact ⟨_, _, _, hcs⟩
        · simp at hcs; exact ⟨_, _, _, hcs⟩
      obtain ⟨a, len, cap, rfl⟩ := hsl
      obtain ⟨r, hr⟩ := slT_of hd
      refine ⟨r :: l, by simp [hl], fun k u r' hu hr' => ?_⟩
      cases k with
      | zero => simp at hu hr'; subst hu hr'; exact hr
      | succ k => simp at hu hr'; exact hall k u r' hu hr'
  obtain ⟨l, hl, hall⟩ := key ys h2
  exact ⟨l, ys, hl, h1, hall⟩
theorem below0 {w w' : World} (h : Chg NoB w w') : Below w.heap.size w w' := ⟨h.os, h.tape, h.output, h.size, fun k hk => h.block k hk (fun h => h)⟩
end Go.Proofs.YtgnnjkmlnfdngaaDoor
