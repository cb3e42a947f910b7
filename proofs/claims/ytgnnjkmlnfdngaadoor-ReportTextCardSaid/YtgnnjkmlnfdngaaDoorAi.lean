/- The text of a table: its words, its line feeds: plain. -/
import Derived.Test.YtgnnjkmlnfdngaaDoorAh
set_option linter.unusedVariables false
set_option linter.unusedSimpArgs false
namespace Go.Proofs.YtgnnjkmlnfdngaaDoor
open Go Go.RowKit

def Okc (s : List UInt8) : Prop := Word s ∧ s.length ≤ 30
def dashL (n : Nat) : List (List UInt8) := List.replicate n [45]
def allC (names : List (List UInt8)) (rows : List (List (List UInt8))) : List (List (List UInt8)) := names :: dashL names.length :: rows
def GoodR (names : List (List UInt8)) (l : List (List (List UInt8))) : Prop := ∀ r ∈ l, r.length = names.length ∧ ∀ s ∈ r, Okc s
theorem dash_ok (n : Nat) : ∀ s ∈ dashL n, Okc s := fun s hs => by
  obtain rfl := List.eq_of_mem_replicate hs
  exact ⟨⟨by decide, by decide⟩, by decide⟩
/-- Separators of a text. -/
def seps (s : List UInt8) : Nat := (s.filter isSep).length
theorem wgo_total : ∀ (l cur : List UInt8), (wgo l cur).flatten.length + seps l = cur.length + l.length
  | [], cur => by
    rw [wgo]
    unfold flushL seps
    split
    · rename_i h; subst h; rfl
    · simp
  | b :: l, cur => by
    rw [wgo]
    cases hb : isSep b with
    | true =>
      have := wgo_total l []
      rw [if_pos rfl, List.flatten_append, List.length_append]
      unfold seps at this ⊢
      rw [List.filter_cons, hb, if_pos rfl, List.length_cons, List.length_cons]
      have hf : (flushL cur).flatten.length = cur.length := by unfold flushL; split <;> simp_all
      simp only [List.length_nil] at this
      omega
    | false =>
      have := wgo_total l (cur ++ [b])
      rw [if_neg (by decide)]
      unfold seps at this ⊢
      rw [List.filter_cons, hb, if_neg (by decide)]
      rw [List.length_append] at this
      simp only [List.length_cons, List.length_nil] at this ⊢
      omega
theorem word_of_one (s x : List UInt8) (h : wordsL s = [x]) (hl : x.length = s.length) : Word s := by
  have ht := wgo_total s []
  have h' : wgo s [] = [x] := h
  rw [h'] at ht
  simp only [List.flatten_cons, List.flatten_nil, List.append_nil, List.length_nil] at ht
  have h0 : s.filter isSep = [] := by
    apply List.eq_nil_of_length_eq_zero
    unfold seps at ht; omega
  refine ⟨fun h1 => ?_, fun b hb => ?_⟩
  · subst h1; cases h
  · cases hs : isSep b with
    | false => rfl
    | true =>
      have : b ∈ s.filter isSep := List.mem_filter.2 ⟨hb, hs⟩
      rw [h0] at this
      cases this

theorem words_line (ws : List Nat) (r : List (List UInt8)) (rest : List UInt8) (hl : r.length = ws.length) (h : ∀ s ∈ r, Word s) : wordsL (lineL ws r ++ rest) = r ++ wordsL rest := by
  have e : lineL ws r ++ rest = laidL ws r ++ 10 :: rest := by unfold lineL; simp
  rw [e, words_sep _ _ 10 rfl, words_laid, ← hl, cells_row]
  intro i hi
  unfold cellL
  rw [List.getElem?_eq_getElem (by omega)]
  exact h _ (List.getElem_mem _)
theorem words_lines (ws : List Nat) : ∀ (rows : List (List (List UInt8))), (∀ r ∈ rows, r.length = ws.length ∧ ∀ s ∈ r, Word s) → wordsL ((rows.map (lineL ws)).flatten) = rows.flatten
  | [], _ => rfl
  | r :: rows, h => by
    have h1 := h r (List.mem_cons_self ..)
    rw [List.map_cons, List.flatten_cons, words_line ws r _ h1.1 h1.2, words_lines ws rows fun q hq => h q (List.mem_cons_of_mem _ hq)]
    rfl
theorem rules_word (names : List (List UInt8)) (rows : List (List (List UInt8))) (h : ∀ s ∈ names, Word s) : (rulesL names rows).length = names.length ∧ ∀ s ∈ rulesL names rows, Word s ∧ s.head? = some 45 := by
  unfold rulesL
  refine ⟨by simp, fun s hs => ?_⟩
  obtain ⟨i, hi, rfl⟩ := List.mem_map.1 hs
  have hi := List.mem_range.1 hi
  have h1 : 1 ≤ widthL names rows i := by
    have := mx_ge rows i (cellL names i).length
    have h2 : cellL names i ≠ [] := by
      unfold cellL
      rw [List.getElem?_eq_getElem hi]
      exact (h _ (List.getElem_mem _)).1
    have h3 : 0 < (cellL names i).length := List.length_pos_iff.2 h2
    unfold widthL; omega
  obtain ⟨k, hk⟩ : ∃ k, widthL names rows i = k + 1 := ⟨widthL names rows i - 1, by omega⟩
  rw [hk]
  exact ⟨⟨by unfold ruleL; simp, fun b hb => by rw [List.eq_of_mem_replicate hb]; rfl⟩, rfl⟩
theorem widths_len (names : List (List UInt8)) (rows : List (List (List UInt8))) : (widthsL names rows).length = names.length := by unfold widthsL; simp
theorem table_words (names : List (List UInt8)) (rows : List (List (List UInt8))) (h : GoodR names (allC names rows)) : wordsL (tableL names rows) = names ++ rulesL names rows ++ rows.flatten := by
  have hn := (h names (List.mem_cons_self ..)).2
  have hw := widths_len names rows
  have hr := rules_word names rows fun s hs => (hn s hs).1
  have e : tableL names rows = lineL (widthsL names rows) names ++ (lineL (widthsL names rows) (rulesL names rows) ++ ((rows.map (lineL (widthsL names rows))).flatten)) := by unfold tableL; simp
  rw [e, words_line _ _ _ hw.symm fun s hs => (hn s hs).1, words_line _ _ _ (hr.1.trans hw.symm) fun s hs => (hr.2 s hs).1, words_lines]
  · simp
  · intro r hr2
    have := h r (List.mem_cons_of_mem _ (List.mem_cons_of_mem _ hr2))
    exact ⟨this.1.trans hw.symm, fun s hs => (this.2 s hs).1⟩

/-- A line: not empty, no line feed in it, no space at its end. -/
def LineOK (l : List UInt8) : Prop := l ≠ [] ∧ (∀ b ∈ l, b ≠ 10) ∧ ∀ b, l[l.length - 1]? = some b → b ≠ 32
/-- Each line feed stands behind a byte that is no space. -/
def NLok (s : List UInt8) : Prop := ∀ (i : Nat), s[i]? = some 10 → 1 ≤ i ∧ ∀ b, s[i - 1]? = some b → b ≠ 32
def lfs (s : List UInt8) : Nat := (s.filter (· == 10)).length
theorem lfs_append (a b : List UInt8) : lfs (a ++ b) = lfs a + lfs b := by unfold lfs; rw [List.filter_append, List.length_append]
theorem lfs_none (l : List UInt8) (h : ∀ b ∈ l, b ≠ 10) : lfs l = 0 := by
  unfold lfs
  rw [List.filter_eq_nil_iff.2 fun b hb => by simpa using h b hb]; rfl
theorem NLok.line {l rest : List UInt8} (h : LineOK l) (hr : NLok rest) : NLok (l ++ 10 :: rest) := by
  intro i hi
  have hl : 0 < l.length := List.length_pos_iff.2 h.1
  rcases Nat.lt_trichotomy i l.length with hlt | rfl | hgt
  · rw [List.getElem?_append_left hlt] at hi
    exact absurd rfl (h.2.1 10 (List.mem_of_getElem? hi))
  · refine ⟨by omega, fun b hb => h.2.2 b ?_⟩
    rwa [List.getElem?_append_left (by omega)] at hb
  · obtain ⟨j, rfl⟩ : ∃ j, i = l.length + (j + 1) := ⟨i - l.length - 1, by omega⟩
    rw [List.getElem?_append_right (by omega), show l.length + (j + 1) - l.length = j + 1 by omega, List.getElem?_cons_succ] at hi
    obtain ⟨h1, h2⟩ := hr j hi
    refine ⟨by omega, fun b hb => h2 b ?_⟩
    rw [List.getElem?_append_right (by omega), show l.length + (j + 1) - 1 - l.length = (j - 1) + 1 by omega, List.getElem?_cons_succ] at hb
    exact hb
theorem trim_last (l : List UInt8) : ∀ b, (Lib.trimRightB l 32)[(Lib.trimRightB l 32).length - 1]? = some b → b ≠ 32 := by
  intro b hb
  unfold Lib.trimRightB at hb
  rw [List.length_reverse] at hb
  cases hd : l.reverse.dropWhile (· == 32) with
  | nil => rw [hd] at hb; simp at hb
  | cons x r =>
    rw [hd] at hb
    have h0 := List.head_dropWhile_not (p := (· == (32 : UInt8))) (l := l.reverse) (by rw [hd]; simp)
    simp only [hd, List.head_cons] at h0
    rw [List.reverse_cons, List.length_cons, List.getElem?_append_right (by simp)] at hb
    simp at hb
    subst hb
    simpa using h0
theorem trim_mem (l : List UInt8) (b : UInt8) (h : b ∈ Lib.trimRightB l 32) : b ∈ l := by
  obtain ⟨t, ht, -⟩ := trim_split l
  rw [ht]
  exact List.mem_append_left _ h
theorem joinP_mem (ws : List Nat) (row : List (List UInt8)) (h : ∀ i, ∀ b ∈ cellL row i, b ≠ 10) : ∀ n, ∀ b ∈ joinP ws row n, b ≠ 10
  | 0, b, hb => by
    have e : joinP ws row 0 = [] := rfl
    rw [e] at hb; cases hb
  | n + 1, b, hb => by
    rw [joinP_succ] at hb
    rcases List.mem_append.1 hb with hb | hb
    · split at hb
      · cases hb
      · rcases List.mem_append.1 hb with hb | hb
        · exact joinP_mem ws row h n b hb
        · simp only [List.mem_cons, List.not_mem_nil, or_false] at hb
          rcases hb with rfl | rfl <;> decide
    · unfold wordL padL at hb
      rcases List.mem_append.1 hb with hb | hb
      · exact h n b hb
      · rw [List.eq_of_mem_replicate hb]; decide
theorem laid_line (ws : List Nat) (r : List (List UInt8)) (h0 : 0 < ws.length) (hl : r.length = ws.length) (h : ∀ s ∈ r, Word s) : LineOK (laidL ws r) := by
  have hw : ∀ i, i < ws.length → Word (cellL r i) := fun i hi => by
    unfold cellL
    rw [List.getElem?_eq_getElem (by omega)]
    exact h _ (List.getElem_mem _)
  have hc : ∀ i, ∀ b ∈ cellL r i, b ≠ 10 := fun i b hb => by
    unfold cellL at hb
    by_cases hi : i < r.length
    · rw [List.getElem?_eq_getElem hi] at hb
      have := (h _ (List.getElem_mem hi)).2 b hb
      intro e
      rw [e] at this
      cases this
    · rw [List.getElem?_eq_none (by omega)] at hb
      cases hb
  refine ⟨fun e => ?_, fun b hb => ?_, ?_⟩
  · have := words_laid ws r hw
    rw [e] at this
    have h2 := congrArg List.length this
    simp at h2
    have : (wordsL []).length = 0 := rfl
    omega
  · unfold laidL at hb
    exact joinP_mem ws r hc ws.length b (trim_mem _ b hb)
  · unfold laidL
    exact trim_last _
theorem lines_ok (ws : List Nat) (h0 : 0 < ws.length) : ∀ (rows : List (List (List UInt8))), (∀ r ∈ rows, r.length = ws.length ∧ ∀ s ∈ r, Word s) → NLok ((rows.map (lineL ws)).flatten) ∧ lfs ((rows.map (lineL ws)).flatten) = rows.length
  | [], _ => ⟨fun i hi => by simp at hi, rfl⟩
  | r :: rows, h => by
    have h1 := h r (List.mem_cons_self ..)
    have hok := laid_line ws r h0 h1.1 h1.2
    have ih := lines_ok ws h0 rows fun q hq => h q (List.mem_cons_of_mem _ hq)
    have e : ((r :: rows).map (lineL ws)).flatten = laidL ws r ++ 10 :: ((rows.map (lineL ws)).flatten) := by
      rw [List.map_cons, List.flatten_cons]; unfold lineL; simp
    rw [e]
    refine ⟨NLok.line hok ih.1, ?_⟩
    rw [lfs_append, lfs_none _ hok.2.1]
    have e2 : lfs (10 :: ((rows.map (lineL ws)).flatten)) = lfs ((rows.map (lineL ws)).flatten) + 1 := rfl
    rw [e2, ih.2, List.length_cons]; omega
theorem table_lines (names : List (List UInt8)) (rows : List (List (List UInt8))) (h0 : names ≠ []) (h : GoodR names (allC names rows)) : NLok (tableL names rows) ∧ lfs (tableL names rows) = rows.length + 2 := by
  have hn := (h names (List.mem_cons_self ..)).2
  have hw := widths_len names rows
  have hr := rules_word names rows fun s hs => (hn s hs).1
  have e : tableL names rows = ((names :: rulesL names rows :: rows).map (lineL (widthsL names rows))).flatten := by unfold tableL; simp
  have hp : 0 < names.length := List.length_pos_iff.2 h0
  have := lines_ok (widthsL names rows) (by omega) (names :: rulesL names rows :: rows) fun r hr2 => by
    rcases List.mem_cons.1 hr2 with rfl | hr2
    · exact ⟨hw.symm, fun s hs => (hn s hs).1⟩
    · rcases List.mem_cons.1 hr2 with rfl | hr2
      · exact ⟨hr.1.trans hw.symm, fun s hs => (hr.2 s hs).1⟩
      · have := h r (List.mem_cons_of_mem _ (List.mem_cons_of_mem _ hr2))
        exact ⟨this.1.trans hw.symm, fun s hs => (this.2 s hs).1⟩
  rw [e]
  exact this
end Go.Proofs.YtgnnjkmlnfdngaaDoor
