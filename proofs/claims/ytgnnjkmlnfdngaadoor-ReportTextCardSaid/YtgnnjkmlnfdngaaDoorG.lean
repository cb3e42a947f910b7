/- What table writes. Conditions: at most 12 columns and 30 rows, cells of at most 100 bytes. -/
import Derived.Test.YtgnnjkmlnfdngaaDoorF
import Derived.Deep.RegionWith
set_option linter.unusedVariables false
set_option linter.unusedSimpArgs false
namespace Go.Proofs.YtgnnjkmlnfdngaaDoor
open Go Go.RowKit

def mx (rows : List (List (List UInt8))) (i w : Nat) : Nat := rows.foldl (fun w r => max w (cellL r i).length) w
def widthL (names : List (List UInt8)) (rows : List (List (List UInt8))) (i : Nat) : Nat := mx rows i (cellL names i).length
def widthsL (names : List (List UInt8)) (rows : List (List (List UInt8))) : List Nat := (List.range names.length).map (widthL names rows)
def ruleL (n : Nat) : List UInt8 := List.replicate n 45
def rulesL (names : List (List UInt8)) (rows : List (List (List UInt8))) : List (List UInt8) := (List.range names.length).map fun i => ruleL (widthL names rows i)
def lineL (ws : List Nat) (row : List (List UInt8)) : List UInt8 := laidL ws row ++ [10]
/-- The text of a table. -/
def tableL (names : List (List UInt8)) (rows : List (List (List UInt8))) : List UInt8 :=
  lineL (widthsL names rows) names ++ lineL (widthsL names rows) (rulesL names rows) ++ (rows.map (lineL (widthsL names rows))).flatten

/-- A slice of rows that can be read. -/
def Sl2 (w : World) (v : Value) (rows : List (List (List UInt8))) : Prop :=
  ∃ us : List Value, us.length = rows.length ∧ Sl w v us ∧ ∀ (k : Nat) (u : Value) (r : List (List UInt8)), us[k]? = some u → rows[k]? = some r → Sl w u (r.map tv)
theorem Sl2.new {w w' : World} {u : Value} {ys : List (List (List UInt8))} (h : Sl2 w u ys) (hc : Chg NoB w w') : Sl2 w' u ys := by
  obtain ⟨us, h1, h2, h3⟩ := h
  exact ⟨us, h1, h2.new hc, fun k u r a b => (h3 k u r a b).new hc⟩

theorem mx_le (rows : List (List (List UInt8))) (i m : Nat) (h : ∀ r ∈ rows, (cellL r i).length ≤ m) (w : Nat) (hw : w ≤ m) : mx rows i w ≤ m := by
  unfold mx
  induction rows generalizing w with
  | nil => exact hw
  | cons r rows ih => exact ih (fun r' hr' => h r' (List.mem_cons_of_mem _ hr')) _ (by have := h r (List.mem_cons_self ..); show max _ _ ≤ _; omega)
theorem mx_ge (rows : List (List (List UInt8))) (i w : Nat) : w ≤ mx rows i w := by
  unfold mx
  induction rows generalizing w with
  | nil => exact Nat.le_refl _
  | cons r rows ih => exact Nat.le_trans (Nat.le_max_left _ _) (ih _)
theorem mx_cell (rows : List (List (List UInt8))) (i w : Nat) (r : List (List UInt8)) (hr : r ∈ rows) : (cellL r i).length ≤ mx rows i w := by
  unfold mx
  induction rows generalizing w with
  | nil => cases hr
  | cons r' rows ih =>
    rcases List.mem_cons.1 hr with rfl | h
    · exact Nat.le_trans (Nat.le_max_right _ _) (mx_ge rows i _)
    · exact ih _ h
theorem mx_take (rows : List (List (List UInt8))) (i w k : Nat) (r : List (List UInt8)) (h : rows[k]? = some r) : mx (rows.take (k + 1)) i w = max (mx (rows.take k) i w) (cellL r i).length := by
  unfold mx
  rw [List.take_add_one, h, List.foldl_append]
  rfl

theorem info3 : (Tryd.prog.info? 3).map (fun i => (i.zero, i.size, i.bytes)) = some (some (.int .i64 0), 1, 8) := by kernel_rfl
theorem trim_le (l : List UInt8) (c : UInt8) : (Lib.trimRightB l c).length ≤ l.length := by
  unfold Lib.trimRightB
  rw [List.length_reverse]
  exact Nat.le_trans (List.dropWhile_sublist _).length_le (by simp)
theorem laid_le (ws : List Nat) (row : List (List UInt8)) (hb : ∀ k x, ws[k]? = some x → (cellL row k).length ≤ x ∧ x ≤ 1000) : (laidL ws row).length ≤ ws.length * 1002 := by
  unfold laidL
  refine Nat.le_trans (trim_le _ _) ?_
  have := join_le [32, 32] 1000 ((List.range ws.length).map (wordL ws row)) (fun x hx => by
    obtain ⟨k, hk, rfl⟩ := List.mem_map.1 hx
    have hk := List.mem_range.1 hk
    have hy : ws[k]? = some (ws[k]'(by omega)) := by simp [List.getElem?_eq_getElem (by omega : k < ws.length)]
    have := hb k _ hy
    unfold wordL padL
    rw [hy]
    simp; omega)
  simpa using this
theorem nil_line (a : Addr) (w : World) : (nilAhead 240 49 (.pointer (some a)) "tapearchive/report.line").run Tryd.prog w = .ok (some false) w := by kernel_rfl
theorem method_line (a : Addr) (w : World) : (method 240 49 (.pointer (some a)) "tapearchive/report.line").run Tryd.prog w = .ok (98, .pointer (some a)) w := by kernel_rfl

/-- The sheet g (its buffer once v, in the world wr) holds t now; nothing else that was there in wr has turned. -/
def PH (wr : World) (g : Nat) (v : Value) (t : List UInt8) (w : World) : Prop :=
  ∃ v', SheetAt w g v' t ∧ (∀ k, own v' k → own v k ∨ wr.heap.size ≤ k) ∧ Chg (fun k => k = g ∨ own v k) wr w
theorem PH.start {g : Nat} {v : Value} {t : List UInt8} {w : World} (h : SheetAt w g v t) : PH w g v t w := ⟨v, h, fun _ h => .inl h, Chg.refl _ _⟩
theorem PH.new {wr : World} {g : Nat} {v : Value} {t : List UInt8} {w w' : World} (h : PH wr g v t w) (k : Chg NoB w w') : PH wr g v t w' := by
  obtain ⟨v', h1, h2, h3⟩ := h
  exact ⟨v', h1.chg k (fun h => h) (fun _ _ h => h), h2, h3.trans (k.mono fun _ h => h.elim)⟩
theorem PH.drew {wr : World} {g : Nat} {v : Value} {t : List UInt8} {w : World} (h : PH wr g v t w) : PH wr g v t w.drew := h.new (Chg.refl NoB w).drew
theorem PH.drewN {wr : World} {g : Nat} {v : Value} {t : List UInt8} {w : World} (h : PH wr g v t w) (n : Nat) : PH wr g v t (w.drewN n) := h.new ((Chg.refl NoB w).drewN n)
theorem PH.line {wr : World} {g : Nat} {v : Value} {t : List UInt8} {w : World} (h : PH wr g v t w) (s : List UInt8) (hl : t.length + s.length + 1 ≤ 1000000) :
    Calls Tryd.prog 98 #[.pointer (some ⟨g, 0, none⟩), tv s] w fun e w' => e = .returned (.tuple #[]) ∧ PH wr g v (t ++ s ++ [10]) w' := by
  obtain ⟨v', h1, h2, h3⟩ := h
  refine (line98 g v' t (bsOf s) w h1 (by rw [size_bsOf]; exact hl)).mono ?_
  rintro e w' ⟨rfl, v2, a, b, c⟩
  refine ⟨rfl, v2, a, fun k hk => ?_, h3.trans' c fun k hk => ?_⟩
  · rcases b k hk with h | h
    · exact h2 k h
    · exact .inr (Nat.le_trans h3.size h)
  · rcases hk with rfl | h
    · exact .inl (.inl rfl)
    · exact (h2 k h).imp (fun h => .inr h) id
theorem PH.sl {wr : World} {g : Nat} {v : Value} {t : List UInt8} {w : World} (h : PH wr g v t w) {u : Value} {ys : List Value} (hu : Sl wr u ys) (hd : ∀ k, own u k → ¬ (k = g ∨ own v k)) : Sl w u ys := by
  obtain ⟨v', h1, h2, h3⟩ := h
  exact hu.chg h3 hd
theorem widths_ok (names : List (List UInt8)) (rows : List (List (List UInt8))) (hb : ∀ s ∈ names, s.length ≤ 100) (hc : ∀ r ∈ rows, ∀ s ∈ r, s.length ≤ 100) (k x : Nat) (h : (widthsL names rows)[k]? = some x) :
    x ≤ 1000 ∧ (cellL names k).length ≤ x ∧ (cellL (rulesL names rows) k).length ≤ x ∧ ∀ r ∈ rows, (cellL r k).length ≤ x := by
  have hcl : ∀ (r : List (List UInt8)) i, (∀ s ∈ r, s.length ≤ 100) → (cellL r i).length ≤ 100 := fun r i h => by
    unfold cellL
    rcases h' : r[i]? with _ | s
    · simp
    · exact h _ (List.mem_of_getElem? h')
  unfold widthsL at h
  rw [List.getElem?_map] at h
  obtain ⟨j, hj, rfl⟩ := Option.map_eq_some_iff.1 h
  obtain ⟨hlt, rfl⟩ : k < names.length ∧ k = j := by
    have := (List.getElem?_eq_some_iff.1 hj).1
    rw [List.length_range] at this
    rw [List.getElem?_range this] at hj
    exact ⟨this, by simpa using hj⟩
  refine ⟨?_, mx_ge _ _ _, ?_, fun r hr => mx_cell _ _ _ r hr⟩
  · have := mx_le rows k 100 (fun r hr => hcl r k (hc r hr)) _ (hcl names k hb)
    unfold widthL; omega
  · unfold rulesL cellL
    rw [List.getElem?_map, List.getElem?_range hlt]
    simp [ruleL]
end Go.Proofs.YtgnnjkmlnfdngaaDoor
