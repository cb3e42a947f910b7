/- The order of strings by their bytes. No conditions. -/
import Derived.WalkKit
namespace Go.Proofs.Ytamnmoejjjaegaa
open Go

/-- The order of strings, by their bytes. -/
def kl (a b : ByteArray) : Bool := Op.bytesLess a.toList b.toList

theorem data_toList (a : ByteArray) : a.toList = a.data.toList := by
  have loop : ∀ (n i : Nat) (r : List UInt8), a.size - i = n → ByteArray.toList.loop a i r = r.reverse ++ a.data.toList.drop i := by
    intro n
    induction n with
    | zero =>
      intro i r h
      rw [ByteArray.toList.loop, if_neg (by omega)]
      have : a.data.toList.drop i = [] := List.drop_of_length_le (by rw [Array.length_toList]; show a.size ≤ i; omega)
      rw [this, List.append_nil]
    | succ n ih =>
      intro i r h
      have hlt : i < a.size := by omega
      have hl2 : i < a.data.toList.length := by rw [Array.length_toList]; exact hlt
      rw [ByteArray.toList.loop, if_pos hlt, ih (i + 1) _ (by omega), List.reverse_cons, List.append_assoc]
      congr 1
      rw [List.drop_eq_getElem_cons hl2, List.singleton_append]
      congr 1
      simp only [ByteArray.get!, Array.getElem_toList]
      exact getElem!_pos a.data i hlt
  exact (loop a.size 0 [] (by omega)).trans (by simp)

theorem toList_inj {a b : ByteArray} (h : a.toList = b.toList) : a = b := by
  rw [data_toList, data_toList] at h
  cases a; cases b
  exact congrArg ByteArray.mk (Array.toList_inj.1 h)

theorem beq_toList (a b : ByteArray) : (a.toList == b.toList) = decide (a = b) := by
  rw [Bool.eq_iff_iff, beq_iff_eq, decide_eq_true_iff]
  exact ⟨toList_inj, fun h => h ▸ rfl⟩

theorem bl_irrefl : ∀ x : List UInt8, Op.bytesLess x x = false
  | [] => rfl
  | a :: x => by simp [Op.bytesLess, bl_irrefl x]

theorem bl_trans : ∀ x y z : List UInt8, Op.bytesLess x y = true → Op.bytesLess y z = true → Op.bytesLess x z = true
  | _, [], _, h, _ => by simp [Op.bytesLess] at h
  | _, _ :: _, [], _, h => by simp [Op.bytesLess] at h
  | [], _ :: _, _ :: _, _, _ => rfl
  | a :: x, b :: y, c :: z, h, k => by
    simp only [Op.bytesLess, Bool.or_eq_true, Bool.and_eq_true, beq_iff_eq, decide_eq_true_eq] at h k ⊢
    rcases h with h | ⟨rfl, h⟩
    · rcases k with k | ⟨rfl, k⟩
      · exact .inl (UInt8.lt_trans h k)
      · exact .inl h
    · rcases k with k | ⟨rfl, k⟩
      · exact .inl k
      · exact .inr ⟨rfl, bl_trans x y z h k⟩

theorem bl_tri : ∀ x y : List UInt8, Op.bytesLess x y = false → Op.bytesLess y x = false → x = y
  | [], [], _, _ => rfl
  | [], _ :: _, h, _ => by simp [Op.bytesLess] at h
  | _ :: _, [], _, h => by simp [Op.bytesLess] at h
  | a :: x, b :: y, h, k => by
    simp only [Op.bytesLess, Bool.or_eq_false_iff, Bool.and_eq_false_iff, decide_eq_false_iff_not, beq_eq_false_iff_ne, ne_eq] at h k
    have hab : a = b := by
      have h1 := UInt8.not_lt.1 h.1
      have h2 := UInt8.not_lt.1 k.1
      exact UInt8.le_antisymm h2 h1
    subst hab
    have hx := h.2.resolve_left (fun h => h rfl)
    have hy := k.2.resolve_left (fun h => h rfl)
    rw [bl_tri x y hx hy]

theorem kl_irrefl (a : ByteArray) : kl a a = false := bl_irrefl _
theorem kl_trans {a b c : ByteArray} (h : kl a b = true) (k : kl b c = true) : kl a c = true := bl_trans _ _ _ h k
theorem kl_tri {a b : ByteArray} (h : kl a b = false) (k : kl b a = false) : a = b := toList_inj (bl_tri _ _ h k)
theorem kl_asymm {a b : ByteArray} (h : kl a b = true) : kl b a = false := by
  cases hb : kl b a
  · rfl
  · have := kl_trans h hb
    rw [kl_irrefl] at this; cases this
theorem kl_ne {a b : ByteArray} (h : kl a b = true) : a ≠ b := by
  rintro rfl
  rw [kl_irrefl] at h; cases h
end Go.Proofs.Ytamnmoejjjaegaa
