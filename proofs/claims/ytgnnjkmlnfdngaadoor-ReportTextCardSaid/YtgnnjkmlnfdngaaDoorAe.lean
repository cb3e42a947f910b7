/- Accounts: lines, their rows, sums; steps of append in drawn regions. -/
import Derived.Test.YtgnnjkmlnfdngaaDoorJ
import Derived.Test.YtgnnjkmlnfdngaaDoorX
import Derived.Test.YtgnnjkmlnfdngaaDoorI
import Derived.Deep.RegionHeld3
import Derived.Deep.AppendLies
import Derived.WalkSpells
import Derived.StillTactics
import Derived.OwnWalk
import Derived.Laws.Pointers
set_option linter.unusedVariables false
set_option linter.unusedSimpArgs false
namespace Go.Proofs.YtgnnjkmlnfdngaaDoor
open Go Go.RowKit Go.Sort

abbrev Line := List UInt8 × Int
/-- A slice of lines that can be read. -/
def SlL (w : World) (u : Value) (ls : List Line) : Prop :=
  (∃ a c, u = .slice a 0 c ∧ ls = []) ∨ ∃ g o c, u = .slice (some ⟨g, o, none⟩) ls.length c ∧ ls.length ≤ c ∧ ∀ j p, ls[j]? = some p → w.cell? ⟨g, o + j * 2, none⟩ = some (tv p.1) ∧ w.cell? ⟨g, o + j * 2 + 1, none⟩ = some (.int .i64 p.2)
theorem SlL.new {w w' : World} {u : Value} {ls : List Line} (h : SlL w u ls) (k : Chg NoB w w') : SlL w' u ls := by
  rcases h with h | ⟨g, o, c, rfl, h1, h2⟩
  · exact .inl h
  · exact .inr ⟨g, o, c, rfl, h1, fun j p hp => ⟨k.cell (fun h => h) (h2 j p hp).1, k.cell (fun h => h) (h2 j p hp).2⟩⟩
theorem SlL.form' {w : World} {u : Value} {ls : List Line} (h : SlL w u ls) : ∃ a n c, u = .slice a n c ∧ Hid (n = ls.length) := by
  rcases h with ⟨a, c, rfl, rfl⟩ | ⟨g, o, c, rfl, _⟩
  · exact ⟨a, 0, c, rfl, rfl⟩
  · exact ⟨_, _, c, rfl, rfl⟩
theorem SlL.at {w : World} {a : Option Addr} {n c : Nat} {ls : List Line} (h : SlL w (.slice a n c) ls) (hp : 0 < ls.length) :
    ∃ g o, a = some ⟨g, o, none⟩ ∧ ∀ j p, ls[j]? = some p → w.cell? ⟨g, o + j * 2, none⟩ = some (tv p.1) ∧ w.cell? ⟨g, o + j * 2 + 1, none⟩ = some (.int .i64 p.2) := by
  rcases h with ⟨_, _, h, rfl⟩ | ⟨g, o, c', h, h1, h2⟩
  · simp at hp
  · simp only [Value.slice.injEq] at h
    obtain ⟨rfl, rfl, rfl⟩ := h
    exact ⟨g, o, rfl, h2⟩
def amtL (am : List Int) (i : Nat) : List UInt8 := match am[i]? with | some a => Lib.itoa a | none => []
def accRow (am : List Int) (i : Nat) (x : Line) : List (List UInt8) := [x.1, Lib.itoa x.2, amtL am i]
def accRows (ls : List Line) (am : List Int) : List (List (List UInt8)) := ls.zipIdx.map fun p => accRow am p.2 p.1
def sumU (ls : List Line) : Int := (ls.map (·.2)).sum
def ownW : List UInt8 := [111, 119, 110, 101, 114]
def usaW : List UInt8 := [117, 115, 97, 103, 101]
def amoW : List UInt8 := [97, 109, 111, 117, 110, 116]
def totW : List UInt8 := [116, 111, 116, 97, 108]
def totRow (ls : List Line) (am : List Int) : List (List UInt8) := [totW, Lib.itoa (sumU ls), Lib.itoa (am.take ls.length).sum]
/-- The text of an account. -/
def accountL (ls : List Line) (am : List Int) : List UInt8 := TableL [ownW, usaW, amoW] (accRows ls am ++ [totRow ls am])
def InM (n : Int) : Prop := 0 ≤ n ∧ n ≤ 1125899906842624

theorem accRows_succ (ls : List Line) (am : List Int) (i : Nat) (x : Line) (h : ls[i]? = some x) : accRows (ls.take (i + 1)) am = accRows (ls.take i) am ++ [accRow am i x] := by
  unfold accRows
  have hi := (List.getElem?_eq_some_iff.1 h).1
  rw [List.take_add_one, h, Option.toList_some, List.zipIdx_append, List.map_append, List.length_take, Nat.min_eq_left (by omega)]
  simp
theorem accRows_len (ls : List Line) (am : List Int) : (accRows ls am).length = ls.length := by unfold accRows; simp
theorem sumU_succ (ls : List Line) (i : Nat) (x : Line) (h : ls[i]? = some x) : sumU (ls.take (i + 1)) = sumU (ls.take i) + x.2 := by
  unfold sumU
  rw [List.take_add_one, h]
  simp
theorem sumA_succ (am : List Int) (i : Nat) (a : Int) (h : am[i]? = some a) : (am.take (i + 1)).sum = (am.take i).sum + a := by
  rw [List.take_add_one, h]
  simp
theorem sum_bd (l : List Int) (h : ∀ n ∈ l, InM n) : 0 ≤ l.sum ∧ l.sum ≤ l.length * 1125899906842624 := by
  induction l with
  | nil => simp
  | cons a l ih =>
    have h1 := ih fun n hn => h n (List.mem_cons_of_mem _ hn)
    have h2 := h a (List.mem_cons_self ..)
    unfold InM at h2
    rw [List.sum_cons, List.length_cons]
    have : ((l.length + 1 : Nat) : Int) * 1125899906842624 = (l.length : Int) * 1125899906842624 + 1125899906842624 := by rw [Int.natCast_succ, Int.add_mul]; omega
    omega
theorem sumU_bd (ls : List Line) (hn : ls.length ≤ 20) (h : ∀ x ∈ ls, InM x.2) : 0 ≤ sumU ls ∧ sumU ls ≤ 22517998136852480 := by
  have := sum_bd (ls.map (·.2)) fun n hn => by obtain ⟨x, hx, rfl⟩ := List.mem_map.1 hn; exact h x hx
  rw [List.length_map] at this
  unfold sumU
  omega
theorem sumA_bd (am : List Int) (k : Nat) (hk : k ≤ 20) (h : ∀ x ∈ am, InM x) : 0 ≤ (am.take k).sum ∧ (am.take k).sum ≤ 22517998136852480 := by
  have := sum_bd (am.take k) fun n hn => h n (List.mem_of_mem_take hn)
  have h2 : (am.take k).length ≤ 20 := by rw [List.length_take]; omega
  omega

theorem owns_new {w w' : World} {base : Nat} {e : TypeId} {s : Nat} {v : Value} {n : Nat} {xs : List Value} (h : w.ownsRow base e s v n xs) (k : Chg NoB w w') : w'.ownsRow base e s v n xs := by
  obtain ⟨h0, h1 | ⟨g, cap, cur, rfl, hb, hg, hr⟩⟩ := h
  · exact ⟨h0, .inl h1⟩
  · exact ⟨h0, .inr ⟨g, cap, cur, rfl, hb, k.heap (fun h => h) hg, hr⟩⟩
theorem news2 (w3 : World) (A : Obj) (x : Value) (e : TypeId) : ∀ (j : Nat) (u : Value), [x][j]? = some u → ((w3.alloc A).alloc (.cells #[x] e)).cell? ((⟨w3.heap.size + 1, 0, none⟩ : Addr).add j) = some u := by
  intro j u hj
  obtain rfl : j = 0 := by have := (List.getElem?_eq_some_iff.1 hj).1; simpa using this
  obtain rfl : x = u := by simpa using hj
  have h : ((w3.alloc A).alloc (.cells #[x] e)).heap[w3.heap.size + 1]? = some (.cells #[x] e) := by
    have := heap_alloc_new (w3.alloc A) (.cells #[x] e)
    simpa using this
  show World.cell? _ ⟨w3.heap.size + 1, 0, none⟩ = _
  rw [cell_of_row _ _ 0 _ _ _ h]; rfl
/-- A literal of cells, as a row. -/
theorem lit_row {w w' : World} (t : TypeId) (xs : List Value) (n : Nat) (hn : n = xs.length) (hm : n ≤ 1000) (k : Chg NoB (w.alloc (.cells xs.toArray t)) w') : Row w' t (.slice (some ⟨w.heap.size, 0, none⟩) n n) xs := by
  subst hn
  exact .inr ⟨w.heap.size, xs.length, xs.toArray, rfl, k.heap (fun h => h) (heap_alloc_new w _), Nat.le_refl _, by unfold maxLen; omega, by simp, by simp⟩
theorem RR.grow {w w4 w5 : World} {v u : Value} {us : List Value} {rows : List (List (List UInt8))} {r : List (List UInt8)} {gg n cap : Nat} (h1 : us.length = rows.length)
    (h3 : ∀ (k : Nat) (u : Value) (r : List (List UInt8)), us[k]? = some u → rows[k]? = some r → u.oneCell' = true ∧ Row w 9 u (r.map tv) ∧ ∀ j, own u j → ¬ own v j) (k4 : Chg NoB w w4)
    (hu : Row w4 9 u (r.map tv)) (h0 : u.oneCell' = true) (hd : ∀ j, own u j → ¬ own v j) (hr : w5.ownsRow 0 22 1 (.slice (some ⟨gg, 0, none⟩) n cap) n (us ++ [u])) (hg : w4.grownBy w5 v.ownBlock) (ha : v.ownBlock = some gg ∨ w4.heap.size ≤ gg) :
    RR w5 (.slice (some ⟨gg, 0, none⟩) n cap) (rows ++ [r]) ∧ Chg (own v) w4 w5 ∧ ∀ j, own (.slice (some ⟨gg, 0, none⟩) n cap) j → own v j ∨ w4.heap.size ≤ j := by
  have kk : Chg (own v) w4 w5 := (Chg.refl _ w4).grown hg fun k hk => .inl hk
  have ho : ∀ j, own (.slice (some ⟨gg, 0, none⟩) n cap) j → own v j ∨ w4.heap.size ≤ j := fun j hj => by
    rw [own_slice] at hj
    subst hj
    exact ha
  exact ⟨RR.snoc h1 (fun k u r a b => ⟨(h3 k u r a b).1, (h3 k u r a b).2.1.chg k4 fun _ _ h => h, (h3 k u r a b).2.2⟩) hu h0 hd (Row.of_owns hr) ho kk, kk, ho⟩
end Go.Proofs.YtgnnjkmlnfdngaaDoor
