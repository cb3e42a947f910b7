/- What line and text of a sheet do and return. Conditions: at most 1000000 bytes. -/
import Derived.Test.YtgnnjkmlnfdngaaDoorB
set_option linter.unusedVariables false
set_option linter.unusedSimpArgs false
namespace Go.Proofs.YtgnnjkmlnfdngaaDoor
open Go Go.RowKit

def u8 (b : UInt8) : Value := .int .u8 b.toNat
/-- A sheet at g that holds the bytes l; v is its buffer. -/
def SheetAt (w : World) (g : Nat) (v : Value) (l : List UInt8) : Prop :=
  ∃ p, w.heap[g]? = some (.cells #[p, v] 55 (0, 0)) ∧ (p = .pointer none ∨ p = .pointer (some ⟨g, 0, none⟩)) ∧ Row w 5 v (l.map u8)
theorem SheetAt.chg {S : Nat → Prop} {w w' : World} {g : Nat} {v : Value} {l : List UInt8} (h : SheetAt w g v l) (k : Chg S w w') (hg : ¬ S g) (hv : ∀ j, own v j → ¬ S j) : SheetAt w' g v l := by
  obtain ⟨p, h1, h2, h3⟩ := h
  exact ⟨p, k.heap hg h1, h2, h3.chg k hv⟩
theorem SheetAt.ne {w : World} {g : Nat} {v : Value} {l : List UInt8} (h : SheetAt w g v l) : ¬ own v g := by
  obtain ⟨p, h1, h2, h3⟩ := h
  intro ho
  rcases h3 with ⟨rfl, _⟩ | ⟨g', cap, cur, rfl, h4, _⟩
  · exact own_none _ _ _ ho
  · rw [own_slice] at ho
    subst ho
    rw [h4] at h1
    simp at h1
theorem SheetAt.lt {w : World} {g : Nat} {v : Value} {l : List UInt8} (h : SheetAt w g v l) : g < w.heap.size := by
  obtain ⟨p, h1, h2, h3⟩ := h
  exact (Array.getElem?_eq_some_iff.1 h1).1

theorem copy50 (g : Nat) (v : Value) (l : List UInt8) (w : World) (h : SheetAt w g v l) :
    Calls Tryd.prog 50 #[.pointer (some ⟨g, 0, none⟩)] w fun e w' => e = .returned (.tuple #[]) ∧ w'.heap[g]? = some (.cells #[.pointer (some ⟨g, 0, none⟩), v] 55 (0, 0)) ∧ Row w' 5 v (l.map u8) ∧ Chg (fun k => k = g) w w' := by
  have hne := h.ne
  obtain ⟨p, h1, h2, h3⟩ := h
  rcases h2 with rfl | rfl
  · refine (copy50_fresh g w (by rw [cell_of_row w g 0 _ _ _ h1]; rfl) (by simp [World.shape?, h1]) (frozen_of_row w g 0 _ _ h1)).mono ?_
    rintro e w' ⟨rfl, rfl⟩
    have k : Chg (fun k => k = g) w (w.setCell ⟨g, 0, none⟩ (.pointer (some ⟨g, 0, none⟩))) := (Chg.refl (fun k => k = g) w).setCell _ (.inl rfl) _
    exact ⟨rfl, heap_setCell_same w g 0 _ 55 _ h1, h3.chg k (fun j hj he => hne (he ▸ hj)), k⟩
  · refine (copy50_used g w (by rw [cell_of_row w g 0 _ _ _ h1]; rfl)).mono ?_
    rintro e w' ⟨rfl, rfl⟩
    exact ⟨rfl, h1, h3, Chg.refl _ _⟩

theorem strCells_u8 (s : ByteArray) : Lib.strCells s = s.data.toList.map u8 := rfl

set_option maxHeartbeats 4000000 in
set_option maxRecDepth 100000 in
theorem write41 (g : Nat) (v : Value) (l : List UInt8) (s : ByteArray) (w : World) (h : SheetAt w g v l) (hl : l.length + s.size ≤ 1000000) :
    Calls Tryd.prog 41 #[.pointer (some ⟨g, 0, none⟩), .string s] w fun e w' => e = .returned (.tuple #[.int .i64 (s.size : Int), .nilIface]) ∧ ∃ v', SheetAt w' g v' (l ++ s.data.toList) ∧ (∀ k, own v' k → own v k ∨ w.heap.size ≤ k) ∧ Chg (fun k => k = g ∨ own v k) w w' := by
  have hne := Hid.mk' h.ne
  have cc := Hid.mk' (copy50 g v l w h)
  have hl' := Hid.mk' hl
  have zg := Hid.mk' h.lt
  clear h hl
  go_enter Tryd.func41, Tryd.ntmps41
  go_wp2_with fail
  refine cc.out.mono ?_
  rintro e w1 ⟨rfl, h1, h2, k1⟩
  have c1 : w1.cell? ⟨g, 1, none⟩ = some v := by rw [cell_of_row w1 g 1 _ _ _ h1]; rfl
  obtain ⟨av, nv, cv, rfl, lv⟩ := h2.form'
  have h1' := Hid.mk' h1
  have h2' := Hid.mk' h2
  have k1' := Hid.mk' k1
  have ln : Hid ((l.map u8).length + s.size ≤ 1099511627776) := by show _ ≤ _; have := hl'.out; simp; omega
  clear h1 h2 k1 lv
  go_wp2_with (at_builtin; refine wpList_append_str _ rfl _ _ 51 9 5 rfl Tryd.underlying51 Tryd.underlying9 info5 (.slice av nv cv) s (l.map u8) rfl rfl h2'.out ln.out ?_; intro v2 w2 r2 o2 k2; obtain ⟨a2, n2, c2, rfl, l2⟩ := r2.form'; have hG := k2.heap (fun h => hne.out h) h1'.out; have d1 : w2.cell? ⟨g, 1, none⟩ = some (.slice av nv cv) := (by rw [cell_of_row w2 g 1 _ _ _ hG]; rfl); have f1 := frozen_of_row w2 g 1 _ _ hG; replace hG := Hid.mk' hG; replace r2 := Hid.mk' r2; replace o2 := Hid.mk' o2; replace k2 := Hid.mk' k2)
  go_ret2
  have kS : Chg (fun k => k = g) w2 (w2.setCell ⟨g, 1, none⟩ (.slice a2 n2 c2)) := (Chg.refl (fun k => k = g) w2).setCell _ (.inl rfl) _
  have s1 := k1'.out.size
  have ha2 : ∀ k, own (.slice a2 n2 c2) k → own (.slice av nv cv) k ∨ w.heap.size ≤ k := fun k hk => (o2.out k hk).imp id fun h => Nat.le_trans s1 h.1
  refine ⟨rfl, .slice a2 n2 c2, ⟨.pointer (some ⟨g, 0, none⟩), heap_setCell_same w2 g 1 _ 55 _ hG.out, .inr rfl, ?_⟩, ha2, ?_⟩
  · have := r2.out.chg kS fun j hj he => by
      subst he
      rcases ha2 _ hj with h | h
      · exact hne.out h
      · have := zg.out; omega
    rwa [strCells_u8, ← List.map_append] at this
  · exact ((k1'.out.mono fun _ h => .inl h).trans (k2.out.mono fun _ h => .inr h)).trans (kS.mono fun _ h => .inl h)

set_option maxHeartbeats 4000000 in
set_option maxRecDepth 100000 in
theorem line98 (g : Nat) (v : Value) (l : List UInt8) (s : ByteArray) (w : World) (h : SheetAt w g v l) (hl : l.length + s.size + 1 ≤ 1000000) :
    Calls Tryd.prog 98 #[.pointer (some ⟨g, 0, none⟩), .string s] w fun e w' => e = .returned (.tuple #[]) ∧ ∃ v', SheetAt w' g v' (l ++ s.data.toList ++ [10]) ∧ (∀ k, own v' k → own v k ∨ w.heap.size ≤ k) ∧ Chg (fun k => k = g ∨ own v k) w w' := by
  have hs1 : (s ++ (⟨#[10]⟩ : ByteArray)).size = s.size + 1 := by simp [ByteArray.size_append]; rfl
  have cw := write41 g v l (s ++ (⟨#[10]⟩ : ByteArray)) w h (by rw [hs1]; omega)
  have hd : (s ++ (⟨#[10]⟩ : ByteArray)).data.toList = s.data.toList ++ [10] := by simp [ByteArray.data_append]
  rw [hd, ← List.append_assoc] at cw
  have cw' := Hid.mk' cw
  have b1 : s.size + 1 ≤ 9223372036854775807 := by omega
  clear cw hs1 hd h hl
  go_enter Tryd.func98, Tryd.ntmps98
  go_wp2_with fail
  refine cw'.out.mono ?_
  rintro e w' ⟨rfl, h⟩
  have h' := Hid.mk' h
  clear h cw'
  go_wp2_with fail
  go_end0
  exact ⟨rfl, h'.out⟩
end Go.Proofs.YtgnnjkmlnfdngaaDoor
