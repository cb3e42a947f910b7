/- The plain law of IndexOrdered: two lists beside an ascending list. No program, no conditions. -/
import Derived.Test.YtamnmoejjjaegaaBR
set_option linter.unusedVariables false
set_option linter.unusedSimpArgs false
namespace Go.Proofs.Ytamnmoejjjaegaa
open Go

/-- Where a key stands, or the length. -/
def placeM (k : ByteArray) : List ByteArray → Nat
  | [] => 0
  | x :: xs => if x = k then 0 else placeM k xs + 1
theorem placeM_le (k : ByteArray) : ∀ xs : List ByteArray, placeM k xs ≤ xs.length
  | [] => Nat.le_refl _
  | x :: xs => by
    rw [placeM]
    split
    · omega
    · have := placeM_le k xs
      simp; omega
theorem placeM_at (k : ByteArray) : ∀ xs : List ByteArray, placeM k xs < xs.length → xs[placeM k xs]? = some k
  | [], h => by simp at h
  | x :: xs, h => by
    rw [placeM] at h ⊢
    split
    · rename_i hx; simp [hx]
    · rename_i hx
      rw [if_neg hx] at h
      simpa using placeM_at k xs (by simpa using h)
theorem placeM_lt {k : ByteArray} : ∀ {xs : List ByteArray}, placeM k xs < xs.length ↔ k ∈ xs
  | [] => by simp [placeM]
  | x :: xs => by
    rw [placeM]
    have ih := @placeM_lt k xs
    split
    · rename_i hx; simp [hx]
    · rename_i hx
      simp only [List.length_cons, Nat.add_lt_add_iff_right, List.mem_cons, ih]
      constructor
      · exact .inr
      · rintro (h | h)
        · exact (hx h.symm).elim
        · exact h

/-- Two lists hold what an ascending list holds. -/
def Both (ks : List ByteArray) (vs : List Int) (l : List E) : Prop := vs.length = ks.length ∧ ks.Nodup ∧ (ks.zip vs).Perm l

theorem Both.nil : Both [] [] [] := ⟨rfl, List.Pairwise.nil, List.Perm.refl _⟩
theorem Both.len {ks : List ByteArray} {vs : List Int} {l : List E} (h : Both ks vs l) : ks.length = l.length := by
  rw [← h.2.2.length_eq, List.length_zip, h.1, Nat.min_self]

theorem zip_fst (ks : List ByteArray) (vs : List Int) (h : vs.length = ks.length) : (ks.zip vs).map Prod.fst = ks := by
  rw [List.map_fst_zip]; omega
theorem Both.mem {ks : List ByteArray} {vs : List Int} {l : List E} (h : Both ks vs l) (k : ByteArray) : k ∈ ks ↔ k ∈ l.map Prod.fst := by
  have := (h.2.2.map Prod.fst).mem_iff (a := k)
  rwa [zip_fst _ _ h.1] at this

theorem insM_perm (k : ByteArray) (v : Int) : ∀ l : List E, Asc l → (insM k v l).Perm ((k, v) :: delM k l)
  | [], _ => by simp [insM, delM]
  | e :: l, ha => by
    have h2 := List.pairwise_cons.1 ha
    have ih := insM_perm k v l h2.2
    rw [insM]
    unfold delM at ih ⊢
    split
    · rename_i hk
      rw [List.filter_cons, if_pos (by simpa using fun h => kl_ne hk h)]
      exact (List.Perm.cons _ ih).trans (List.Perm.swap ..)
    · rename_i hk1
      have hk1 : kl e.1 k = false := by simpa using hk1
      split
      · rename_i hk
        rw [List.filter_cons, if_neg (by simp [hk])]
        have : l.filter (fun e => decide (e.1 ≠ k)) = l := by
          rw [List.filter_eq_self]
          intro x hx
          simp only [decide_eq_true_eq]
          have := h2.1 x hx
          rw [hk] at this
          exact fun h => kl_ne this h.symm
        rw [this]
      · rename_i hk
        have hk2 : kl k e.1 = true := by
          cases h3 : kl k e.1
          · exact (hk (kl_tri hk1 h3)).elim
          · rfl
        have : (e :: l).filter (fun e => decide (e.1 ≠ k)) = e :: l := by
          rw [List.filter_eq_self]
          intro x hx
          simp only [decide_eq_true_eq]
          rcases List.mem_cons.1 hx with rfl | hx
          · exact fun h => kl_ne hk2 h.symm
          · have := kl_trans hk2 (h2.1 x hx)
            exact fun h => kl_ne this h.symm
        rw [this]

theorem zip_erase (k : ByteArray) : ∀ (ks : List ByteArray) (vs : List Int), vs.length = ks.length → ks.Nodup → placeM k ks < ks.length →
    (ks.take (placeM k ks) ++ ks.drop (placeM k ks + 1)).zip (vs.take (placeM k ks) ++ vs.drop (placeM k ks + 1)) = (ks.zip vs).filter fun e => decide (e.1 ≠ k)
  | [], _, _, _, h => by simp at h
  | _ :: _, [], h, _, _ => by simp at h
  | x :: ks, y :: vs, hl, hn, h => by
    have hn2 := List.nodup_cons.1 hn
    rw [placeM] at h ⊢
    split
    · rename_i hx
      subst hx
      simp only [List.take_zero, List.nil_append, Nat.zero_add, List.drop_succ_cons, List.drop_zero, List.zip_cons_cons]
      rw [List.filter_cons, if_neg (by simp)]
      symm
      rw [List.filter_eq_self]
      intro e he
      have := List.of_mem_zip (show (e.1, e.2) ∈ ks.zip vs from he)
      simp only [decide_eq_true_eq]
      exact fun h => hn2.1 (h ▸ this.1)
    · rename_i hx
      rw [if_neg hx] at h
      have ih := zip_erase k ks vs (by simpa using hl) hn2.2 (by simpa using h)
      simp only [List.take_succ_cons, List.drop_succ_cons, List.cons_append, List.zip_cons_cons]
      rw [List.filter_cons, if_pos (by simpa using hx), ih]
theorem zip_set (k : ByteArray) (v : Int) : ∀ (ks : List ByteArray) (vs : List Int), vs.length = ks.length → ks.Nodup → placeM k ks < ks.length →
    (ks.zip (vs.set (placeM k ks) v)).Perm ((k, v) :: (ks.zip vs).filter fun e => decide (e.1 ≠ k))
  | [], _, _, _, h => by simp at h
  | _ :: _, [], h, _, _ => by simp at h
  | x :: ks, y :: vs, hl, hn, h => by
    have hn2 := List.nodup_cons.1 hn
    rw [placeM] at h ⊢
    split
    · rename_i hx
      subst hx
      simp only [List.set_cons_zero, List.zip_cons_cons]
      rw [List.filter_cons, if_neg (by simp)]
      have : (ks.zip vs).filter (fun e => decide (e.1 ≠ x)) = ks.zip vs := by
        rw [List.filter_eq_self]
        intro e he
        have := List.of_mem_zip (show (e.1, e.2) ∈ ks.zip vs from he)
        simp only [decide_eq_true_eq]
        exact fun h => hn2.1 (h ▸ this.1)
      rw [this]
    · rename_i hx
      rw [if_neg hx] at h
      have ih := zip_set k v ks vs (by simpa using hl) hn2.2 (by simpa using h)
      simp only [List.set_cons_succ, List.zip_cons_cons]
      rw [List.filter_cons, if_pos (by simpa using hx)]
      exact (List.Perm.cons _ ih).trans (List.Perm.swap ..)

theorem Both.drop {ks : List ByteArray} {vs : List Int} {l : List E} (h : Both ks vs l) (k : ByteArray) (hk : placeM k ks < ks.length) :
    Both (ks.take (placeM k ks) ++ ks.drop (placeM k ks + 1)) (vs.take (placeM k ks) ++ vs.drop (placeM k ks + 1)) (delM k l) := by
  have hl := h.1
  refine ⟨by simp; omega, ?_, ?_⟩
  · rw [← List.eraseIdx_eq_take_drop_succ]
    exact h.2.1.sublist (List.eraseIdx_sublist ..)
  · rw [zip_erase k ks vs h.1 h.2.1 hk]
    exact h.2.2.filter _
theorem Both.keep {ks : List ByteArray} {vs : List Int} {l : List E} (h : Both ks vs l) (k : ByteArray) (hk : ¬ placeM k ks < ks.length) : Both ks vs (delM k l) := by
  have : delM k l = l := by
    unfold delM
    rw [List.filter_eq_self]
    intro e he
    simp only [decide_eq_true_eq]
    rintro rfl
    exact hk (placeM_lt.2 ((h.mem _).2 (List.mem_map_of_mem he)))
  rw [this]; exact h
theorem Both.set {ks : List ByteArray} {vs : List Int} {l : List E} (h : Both ks vs l) (k : ByteArray) (v : Int) (hk : placeM k ks < ks.length) (ha : Asc l) :
    Both ks (vs.set (placeM k ks) v) (insM k v l) :=
  ⟨by simpa using h.1, h.2.1, (zip_set k v ks vs h.1 h.2.1 hk).trans (((h.2.2.filter _).cons _).trans (insM_perm k v l ha).symm)⟩
theorem Both.snoc {ks : List ByteArray} {vs : List Int} {l : List E} (h : Both ks vs l) (k : ByteArray) (v : Int) (hk : ¬ placeM k ks < ks.length) (ha : Asc l) :
    Both (ks ++ [k]) (vs ++ [v]) (insM k v l) := by
  have hk' : k ∉ ks := fun h => hk (placeM_lt.2 h)
  refine ⟨by simp [h.1], ?_, ?_⟩
  · rw [List.nodup_append]
    exact ⟨h.2.1, by simp, fun a ha b hb => by simp at hb; rintro rfl; exact hk' (hb ▸ ha)⟩
  · rw [zip_app _ _ _ _ h.1.symm]
    have e : delM k l = l := by
      unfold delM
      rw [List.filter_eq_self]
      intro e he
      simp only [decide_eq_true_eq]
      rintro rfl
      exact hk' ((h.mem _).2 (List.mem_map_of_mem he))
    refine List.Perm.trans ?_ (insM_perm k v l ha).symm
    rw [e]
    exact (List.perm_append_comm (l₁ := ks.zip vs) (l₂ := [(k, v)])).trans (h.2.2.cons _)
theorem zip_get (k : ByteArray) (y : Int) : ∀ (ks : List ByteArray) (vs : List Int), ks.Nodup → (k, y) ∈ ks.zip vs → vs[placeM k ks]? = some y
  | [], _, _, h => by simp at h
  | _ :: _, [], _, h => by simp at h
  | x :: ks, v :: vs, hn, h => by
    have hn2 := List.nodup_cons.1 hn
    rw [placeM]
    rw [List.zip_cons_cons, List.mem_cons] at h
    split
    · rename_i hx
      subst hx
      rcases h with h | h
      · cases h; rfl
      · exact (hn2.1 (List.of_mem_zip h).1).elim
    · rename_i hx
      rcases h with h | h
      · cases h; exact (hx rfl).elim
      · simpa using zip_get k y ks vs hn2.2 h
theorem Both.get {ks : List ByteArray} {vs : List Int} {l : List E} (h : Both ks vs l) (k : ByteArray) (y : Int) (hk : (k, y) ∈ l) : placeM k ks < ks.length ∧ vs[placeM k ks]? = some y :=
  ⟨placeM_lt.2 ((h.mem k).2 (List.mem_map_of_mem hk)), zip_get k y ks vs h.2.1 ((h.2.2.mem_iff).2 hk)⟩

theorem pre_empty (k : ByteArray) : preB ⟨#[]⟩ k = true := by simp [preB]
theorem range_all (n : Nat) (l : List E) (h : l.length ≤ n) : rangeM ⟨#[]⟩ (n : Int) l = l.map Prod.fst := by
  unfold rangeM
  rw [List.filter_eq_self.2 (fun k _ => pre_empty k), List.take_of_length_le]
  simpa using h
theorem kl_empty (k : ByteArray) : kl k ⟨#[]⟩ = false := by unfold kl; rw [data_toList, data_toList]; cases k.data.toList <;> simp [Op.bytesLess]
theorem from_empty (l : List E) : from_ ⟨#[]⟩ l = l := by
  cases l with
  | nil => rfl
  | cons e l => unfold from_; rw [List.dropWhile_cons, if_neg (by simp [kl_empty])]
end Go.Proofs.Ytamnmoejjjaegaa
