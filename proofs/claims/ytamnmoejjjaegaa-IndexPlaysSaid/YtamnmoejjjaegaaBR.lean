/- The plain law of Range and of going through an ascending list. No program, no conditions. -/
import Derived.Test.YtamnmoejjjaegaaB
set_option linter.unusedVariables false
set_option linter.unusedSimpArgs false
namespace Go.Proofs.Ytamnmoejjjaegaa
open Go

/-- Whether a key begins with a prefix. -/
def preB (p e : ByteArray) : Bool := p.data.toList.isPrefixOf e.data.toList

theorem pre_le : ∀ p x : List UInt8, p.isPrefixOf x = true → Op.bytesLess x p = false
  | [], [], _ => rfl
  | [], _ :: _, _ => by simp [Op.bytesLess]
  | _ :: _, [], h => by simp at h
  | a :: p, b :: x, h => by
    simp only [List.isPrefixOf_cons_cons, Bool.and_eq_true, beq_iff_eq] at h
    obtain ⟨rfl, h⟩ := h
    have := pre_le p x h
    simp [Op.bytesLess, this]
theorem pre_back : ∀ p x y : List UInt8, Op.bytesLess x p = false → Op.bytesLess x y = true → p.isPrefixOf y = true → p.isPrefixOf x = true
  | [], _, _, _, _, _ => by simp
  | _ :: _, [], _, h, _, _ => by simp [Op.bytesLess] at h
  | _ :: _, _ :: _, [], _, h, _ => by simp [Op.bytesLess] at h
  | a :: p, b :: x, c :: y, h1, h2, h3 => by
    simp only [List.isPrefixOf_cons_cons, Bool.and_eq_true, beq_iff_eq] at h3 ⊢
    obtain ⟨rfl, h3⟩ := h3
    simp only [Op.bytesLess, Bool.or_eq_true, Bool.and_eq_true, beq_iff_eq, decide_eq_true_eq, Bool.or_eq_false_iff, Bool.and_eq_false_iff, decide_eq_false_iff_not, beq_eq_false_iff_ne, ne_eq] at h1 h2
    rcases h2 with h2 | ⟨rfl, h2⟩
    · exact (h1.1 h2).elim
    · exact ⟨rfl, pre_back p x y (h1.2.resolve_left fun h => h rfl) h2 h3⟩
theorem kl_pre {p e : ByteArray} (h : preB p e = true) : kl e p = false := by
  unfold kl; rw [data_toList, data_toList]; exact pre_le _ _ h
theorem kl_pre_back {p e f : ByteArray} (h1 : kl e p = false) (h2 : kl e f = true) (h3 : preB p f = true) : preB p e = true := by
  unfold kl at h1 h2; rw [data_toList, data_toList] at h1 h2; exact pre_back _ _ _ h1 h2 h3

/-- What Range's loop gathers from the list that is left. -/
def rangeGo (p : ByteArray) (most : Int) : List ByteArray → List E → List ByteArray
  | out, [] => out
  | out, e :: R => if (out.length : Int) < most ∧ preB p e.1 = true then rangeGo p most (out ++ [e.1]) R else out
/-- What Range returns, as the document says. -/
def rangeM (p : ByteArray) (most : Int) (l : List E) : List ByteArray := ((l.map Prod.fst).filter (preB p)).take most.toNat

theorem rangeGo_eq (p : ByteArray) (most : Int) : ∀ (R : List E) (out : List ByteArray), Asc R → (∀ e ∈ R, kl e.1 p = false) → rangeGo p most out R = out ++ ((R.map Prod.fst).filter (preB p)).take (most - out.length).toNat
  | [], out, _, _ => by simp [rangeGo]
  | e :: R, out, ha, hp => by
    have h2 := List.pairwise_cons.1 ha
    rw [rangeGo]
    split
    · rename_i h
      rw [rangeGo_eq p most R (out ++ [e.1]) h2.2 (fun x hx => hp x (by simp [hx])), List.map_cons, List.filter_cons, if_pos h.2]
      obtain ⟨n, hn⟩ : ∃ n, (most - out.length).toNat = n + 1 := ⟨(most - out.length).toNat - 1, by omega⟩
      rw [hn, List.take_succ_cons, show (most - ((out ++ [e.1]).length : Int)).toNat = n by simp; omega]
      simp
    · rename_i h
      by_cases hm : (out.length : Int) < most
      · have hpe : preB p e.1 = false := by
          cases hh : preB p e.1
          · rfl
          · exact (h ⟨hm, hh⟩).elim
        have : ((e :: R).map Prod.fst).filter (preB p) = [] := by
          rw [List.filter_eq_nil_iff]
          intro x hx
          obtain ⟨y, hy, rfl⟩ := List.mem_map.1 hx
          rcases List.mem_cons.1 hy with rfl | hy
          · rw [hpe]; simp
          · intro hpy
            have := kl_pre_back (hp e (by simp)) (h2.1 y hy) hpy
            rw [hpe] at this; cases this
        rw [this]; simp
      · rw [show (most - (out.length : Int)).toNat = 0 by omega]; simp

/-- The list from a key on. -/
def from_ (k : ByteArray) (l : List E) : List E := l.dropWhile fun e => kl e.1 k
theorem from_ge (k : ByteArray) : ∀ l : List E, Asc l → ∀ e ∈ from_ k l, kl e.1 k = false
  | [], _, e, he => by simp [from_] at he
  | x :: l, ha, e, he => by
    have h2 := List.pairwise_cons.1 ha
    unfold from_ at he
    rw [List.dropWhile_cons] at he
    split at he
    · exact from_ge k l h2.2 e he
    · rename_i hx
      have hx' : kl x.1 k = false := by simpa using hx
      rcases List.mem_cons.1 he with rfl | he
      · exact hx'
      · cases hek : kl e.1 k
        · rfl
        · have := kl_trans (h2.1 e he) hek
          rw [hx'] at this; cases this
theorem from_suffix (k : ByteArray) (l : List E) : ∃ A, l = A ++ from_ k l ∧ ∀ e ∈ A, kl e.1 k = true := by
  refine ⟨l.takeWhile fun e => kl e.1 k, (List.takeWhile_append_dropWhile).symm, fun e he => ?_⟩
  induction l with
  | nil => simp at he
  | cons x l ih =>
    rw [List.takeWhile_cons] at he
    split at he
    · rename_i hx
      rcases List.mem_cons.1 he with rfl | he
      · exact hx
      · exact ih he
    · simp at he
theorem rangeGo_from (p : ByteArray) (most : Int) (l : List E) (ha : Asc l) : rangeGo p most [] (from_ p l) = rangeM p most l := by
  obtain ⟨A, h1, h2⟩ := from_suffix p l
  have hs : Asc (from_ p l) := by rw [h1] at ha; exact ha.right
  rw [rangeGo_eq p most _ [] hs (from_ge p l ha)]
  unfold rangeM
  conv => rhs; rw [h1]
  rw [List.map_append, List.filter_append]
  have : (A.map Prod.fst).filter (preB p) = [] := by
    rw [List.filter_eq_nil_iff]
    intro x hx
    obtain ⟨y, hy, rfl⟩ := List.mem_map.1 hx
    intro hp
    have := kl_pre hp
    rw [h2 y hy] at this; cases this
  rw [this]; simp
end Go.Proofs.Ytamnmoejjjaegaa
