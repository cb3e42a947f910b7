/- The words of a table: plain. -/
import Derived.Test.YtgnnjkmlnfdngaaDoorAd
import Derived.Test.YtgnnjkmlnfdngaaDoorM
import Derived.Test.YtgnnjkmlnfdngaaDoorI
set_option linter.unusedVariables false
set_option linter.unusedSimpArgs false
namespace Go.Proofs.YtgnnjkmlnfdngaaDoor
open Go Go.RowKit

theorem wgo_sep (c : UInt8) (hc : isSep c = true) (b : List UInt8) : ∀ (a cur : List UInt8), wgo (a ++ c :: b) cur = wgo a cur ++ wgo b []
  | [], cur => by
    show wgo (c :: b) cur = flushL cur ++ wgo b []
    rw [wgo, if_pos hc]
  | x :: a, cur => by
    show wgo (x :: (a ++ c :: b)) cur = _
    rw [wgo, wgo]
    split
    · rw [wgo_sep c hc b a, List.append_assoc]
    · exact wgo_sep c hc b a _
theorem words_sep (a b : List UInt8) (c : UInt8) (hc : isSep c = true) : wordsL (a ++ c :: b) = wordsL a ++ wordsL b := wgo_sep c hc b a []
def Word (x : List UInt8) : Prop := x ≠ [] ∧ ∀ b ∈ x, isSep b = false
theorem wgo_plain : ∀ (x cur : List UInt8), (∀ b ∈ x, isSep b = false) → wgo x cur = flushL (cur ++ x)
  | [], cur, h => by rw [wgo, List.append_nil]
  | b :: x, cur, h => by
    rw [wgo, if_neg (by rw [h b (List.mem_cons_self ..)]; decide), wgo_plain x _ fun y hy => h y (List.mem_cons_of_mem _ hy)]
    simp
theorem words_word (x : List UInt8) (h : Word x) : wordsL x = [x] := by
  unfold wordsL
  rw [wgo_plain x [] h.2, List.nil_append]
  unfold flushL
  rw [if_neg h.1]
theorem words_seps : ∀ (b : List UInt8), (∀ c ∈ b, isSep c = true) → wordsL b = []
  | [], _ => rfl
  | c :: b, h => by
    have := words_sep [] b c (h c (List.mem_cons_self ..))
    rw [List.nil_append] at this
    rw [this, words_seps b fun y hy => h y (List.mem_cons_of_mem _ hy)]; rfl
theorem words_trail (a b : List UInt8) (h : ∀ c ∈ b, isSep c = true) : wordsL (a ++ b) = wordsL a := by
  cases b with
  | nil => rw [List.append_nil]
  | cons c b =>
    rw [words_sep a b c (h c (List.mem_cons_self ..)), words_seps b fun y hy => h y (List.mem_cons_of_mem _ hy), List.append_nil]
theorem trim_split (l : List UInt8) : ∃ b, l = Lib.trimRightB l 32 ++ b ∧ ∀ c ∈ b, c = 32 := by
  refine ⟨(l.reverse.takeWhile (· == 32)).reverse, ?_, fun c hc => ?_⟩
  · unfold Lib.trimRightB
    rw [← List.reverse_append, List.takeWhile_append_dropWhile, List.reverse_reverse]
  · have := List.mem_reverse.1 hc
    have h2 := List.all_eq_true.1 (List.all_takeWhile (l := l.reverse) (p := (· == 32))) c this
    simpa using h2
theorem words_trim (l : List UInt8) : wordsL (Lib.trimRightB l 32) = wordsL l := by
  obtain ⟨b, hb, hc⟩ := trim_split l
  have := words_trail (Lib.trimRightB l 32) b fun c h => by rw [hc c h]; rfl
  rw [← hb] at this
  exact this.symm
theorem words_cell (ws : List Nat) (row : List (List UInt8)) (i : Nat) (h : Word (cellL row i)) : wordsL (wordL ws row i) = [cellL row i] := by
  unfold wordL padL
  rw [words_trail _ _ fun c hc => by rw [List.eq_of_mem_replicate hc]; rfl, words_word _ h]
theorem words_join (ws : List Nat) (row : List (List UInt8)) : ∀ n, (∀ i, i < n → Word (cellL row i)) → wordsL (joinP ws row n) = (List.range n).map (cellL row)
  | 0, _ => rfl
  | n + 1, h => by
    have ih := words_join ws row n fun i hi => h i (by omega)
    have hw := words_cell ws row n (h n (by omega))
    rw [joinP_succ, List.range_succ, List.map_append, List.map_singleton, ← ih, ← hw]
    split
    · rename_i h0
      subst h0
      rfl
    · have e : joinP ws row n ++ [32, 32] ++ wordL ws row n = joinP ws row n ++ 32 :: (([] : List UInt8) ++ 32 :: wordL ws row n) := by simp
      rw [e, words_sep _ _ 32 rfl, words_sep _ _ 32 rfl]
      rfl
theorem words_laid (ws : List Nat) (row : List (List UInt8)) (h : ∀ i, i < ws.length → Word (cellL row i)) : wordsL (laidL ws row) = (List.range ws.length).map (cellL row) := by
  have := words_join ws row ws.length h
  unfold laidL
  rw [words_trim]
  exact this
theorem cells_row (row : List (List UInt8)) : (List.range row.length).map (cellL row) = row := by
  apply List.ext_getElem?
  intro i
  rw [List.getElem?_map]
  by_cases h : i < row.length
  · rw [List.getElem?_range h, List.getElem?_eq_getElem h]
    simp [cellL, h]
  · rw [List.getElem?_eq_none (by simp; omega), List.getElem?_eq_none (by omega)]; rfl

def EndsNL (l : List UInt8) : Prop := ∃ x, l = x ++ [10]
theorem ends_line (a : List UInt8) (ws : List Nat) (r : List (List UInt8)) : EndsNL (a ++ lineL ws r) := ⟨a ++ laidL ws r, by unfold lineL; simp⟩
theorem ends_lines (ws : List Nat) : ∀ (rows : List (List (List UInt8))) (a : List UInt8), EndsNL a → EndsNL (a ++ (rows.map (lineL ws)).flatten)
  | [], a, h => by simpa using h
  | r :: rows, a, h => by
    have := ends_lines ws rows (a ++ lineL ws r) (ends_line a ws r)
    simpa using this
theorem table_le (names : List (List UInt8)) (rows : List (List (List UInt8))) (hn : names.length ≤ 12) (hr : rows.length ≤ 30) (hb : ∀ s ∈ names, s.length ≤ 100) (hc : ∀ r ∈ rows, ∀ s ∈ r, s.length ≤ 100) : (tableL names rows).length ≤ 400000 := by
  have hok := widths_ok names rows hb hc
  have hWl : (widthsL names rows).length = names.length := by unfold widthsL; simp
  have each : ∀ row, (∀ k x, (widthsL names rows)[k]? = some x → (cellL row k).length ≤ x ∧ x ≤ 1000) → (lineL (widthsL names rows) row).length ≤ 12025 := fun row h => by
    have h1 := laid_le _ row h
    rw [hWl] at h1
    have h2 : names.length * 1002 ≤ 12 * 1002 := Nat.mul_le_mul_right _ hn
    unfold lineL
    rw [List.length_append, List.length_singleton]
    omega
  have h1 := each names fun k x h => ⟨(hok k x h).2.1, (hok k x h).1⟩
  have h2 := each (rulesL names rows) fun k x h => ⟨(hok k x h).2.2.1, (hok k x h).1⟩
  have h3 : ∀ q : List (List (List UInt8)), (∀ r ∈ q, r ∈ rows) → ((q.map (lineL (widthsL names rows))).flatten).length ≤ q.length * 12025 := fun q hq => by
    induction q with
    | nil => simp
    | cons a q ih =>
      have h4 := ih fun r h => hq r (List.mem_cons_of_mem _ h)
      have h5 := each a fun k x h => ⟨(hok k x h).2.2.2 a (hq a (List.mem_cons_self ..)), (hok k x h).1⟩
      simp only [List.map_cons, List.flatten_cons, List.length_append, List.length_cons]
      omega
  have h4 := h3 rows fun _ h => h
  have h5 : rows.length * 12025 ≤ 30 * 12025 := Nat.mul_le_mul_right _ hr
  unfold tableL
  rw [List.length_append, List.length_append]
  omega
theorem table_snoc (names : List (List UInt8)) (rows : List (List (List UInt8))) (r : List (List UInt8)) :
    ∃ q, tableL names (rows ++ [r]) = q ++ 10 :: laidL (widthsL names (rows ++ [r])) r ++ [10] := by
  unfold tableL
  generalize hW : widthsL names (rows ++ [r]) = W
  generalize rulesL names (rows ++ [r]) = R
  obtain ⟨x, hx⟩ := ends_lines W rows (lineL W names ++ lineL W R) (ends_line _ _ _)
  refine ⟨x, ?_⟩
  rw [List.map_append, List.flatten_append, ← List.append_assoc, hx]
  unfold lineL
  simp
theorem dec_word (u : Nat) : ∀ b ∈ Lib.decDigits u, isSep b = false := by
  induction u using Nat.strongRecOn with
  | _ u ih =>
    have key : ∀ v : Fin 10, isSep (UInt8.ofNat (48 + v.val)) = false := by decide
    intro b hb
    rw [Lib.decDigits] at hb
    split at hb
    · rename_i h
      obtain rfl := List.mem_singleton.1 hb
      exact key ⟨u, h⟩
    · rename_i h
      rcases List.mem_append.1 hb with hb | hb
      · exact ih _ (by omega) b hb
      · obtain rfl := List.mem_singleton.1 hb
        exact key ⟨u % 10, by omega⟩
theorem dec_ne' (u : Nat) : Lib.decDigits u ≠ [] := by
  rw [Lib.decDigits]
  split
  · simp
  · simp
theorem itoa_word (n : Int) (h : 0 ≤ n) : Word (Lib.itoa n) := by
  unfold Lib.itoa
  rw [if_neg (by omega)]
  exact ⟨dec_ne' _, dec_word _⟩
end Go.Proofs.YtgnnjkmlnfdngaaDoor
