/- What problems of the laws returns. No conditions. -/
import Derived.Test.YtgnnjkmlnfdngaaDoorR
import Derived.Test.YtgnnjkmlnfdngaaDoorX
import Derived.Deep.RegionHeld3
import Derived.Deep.AppendLies
import Derived.WalkSpells
import Derived.StillTactics
import Derived.OwnWalk
import Derived.Laws.Pointers
set_option linter.unusedVariables false
set_option linter.unusedSimpArgs false
namespace Go.Proofs.YtgnnjkmlnfdngaaDoor
open Go Go.RowKit Go.Sort

def shortP (p : Prob) : Prob := (p.1, shortL p.2.1, p.2.2)
def problemsL (ps : List Prob) : List Prob := (ps.take 20).map shortP
def cell3 (p : Prob) : List Value := [.int .i64 p.1, tv p.2.1, .int .i64 p.2.2]
def cellsP (ps : List Prob) : List Value := (ps.map cell3).flatten
/-- A row of problems of the call's own. -/
def RowPr (w : World) (base : Nat) (v : Value) (ps : List Prob) : Prop := w.ownsRow base 64 3 v ps.length (cellsP ps)
theorem cellsP_at (ps : List Prob) : ∀ (j : Nat) (p : Prob), ps[j]? = some p → ∀ k, k < 3 → (cellsP ps)[j * 3 + k]? = (cell3 p)[k]? := by
  induction ps with
  | nil => intro j p h; simp at h
  | cons q ps ih =>
    intro j p h k hk
    have hl : (cell3 q).length = 3 := rfl
    have e : cellsP (q :: ps) = cell3 q ++ cellsP ps := rfl
    rw [e]
    cases j with
    | zero =>
      obtain rfl : q = p := by simpa using h
      rw [List.getElem?_append_left (by omega)]
      simp
    | succ j =>
      rw [List.getElem?_append_right (by omega), hl, show (j + 1) * 3 + k - 3 = j * 3 + k by omega]
      exact ih j p (by simpa using h) k hk
theorem RowPr.slp {w : World} {base : Nat} {v : Value} {ps : List Prob} (h : RowPr w base v ps) : SlP w v ps := by
  obtain ⟨h0, ⟨rfl, h1⟩ | ⟨g, cap, cur, rfl, hb, hg, hn, hm, hs, ht⟩⟩ := h
  · exact .inl ⟨none, 0, rfl, List.eq_nil_of_length_eq_zero h1⟩
  · refine .inr ⟨g, 0, cap, rfl, hn, fun j p hp => ?_⟩
    have hj := (List.getElem?_eq_some_iff.1 hp).1
    have key : ∀ k, k < 3 → ∀ x, (cell3 p)[k]? = some x → w.cell? ⟨g, j * 3 + k, none⟩ = some x := fun k hk x hx => by
      rw [cell_of_row w g _ cur 64 (0, 0) hg]
      have := cellsP_at ps j p hp k hk
      rw [hx, ← ht, List.getElem?_take] at this
      split at this
      · simpa using this
      · cases this
    rw [Nat.zero_add]
    exact ⟨key 0 (by omega) _ rfl, key 1 (by omega) _ rfl, key 2 (by omega) _ rfl⟩
theorem RowPr.new {w w' : World} {base : Nat} {v : Value} {ps : List Prob} (h : RowPr w base v ps) (k : Chg NoB w w') : RowPr w' base v ps := by
  obtain ⟨h0, h1 | ⟨g, cap, cur, rfl, hb, hg, hr⟩⟩ := h
  · exact ⟨h0, .inl h1⟩
  · exact ⟨h0, .inr ⟨g, cap, cur, rfl, hb, k.heap (fun h => h) hg, hr⟩⟩
theorem RowPr.own {w : World} {base : Nat} {v : Value} {ps : List Prob} (h : RowPr w base v ps) (k : Nat) (hk : own v k) : base ≤ k := by
  obtain ⟨h0, ⟨rfl, h1⟩ | ⟨g, cap, cur, rfl, hb, hr⟩⟩ := h
  · exact (own_none _ _ _ hk).elim
  · rw [own_slice] at hk; omega
theorem owns_form {w : World} {base : Nat} {e : TypeId} {s : Nat} {v : Value} {n : Nat} {xs : List Value} (h : w.ownsRow base e s v n xs) : ∃ a n c, v = .slice a n c := by
  obtain ⟨_, ⟨rfl, _⟩ | ⟨g, cap, cur, rfl, _⟩⟩ := h
  · exact ⟨_, _, _, rfl⟩
  · exact ⟨_, _, _, rfl⟩
theorem info64 : (Tryd.prog.info? 64).map (fun i => (i.zero, i.size, i.bytes)) = some (some (.agg #[.int .i64 0, .string ⟨#[]⟩, .int .i64 0]), 3, 32) := by kernel_rfl
theorem cellsP_succ (ps : List Prob) (i : Nat) (p : Prob) (h : ps[i]? = some p) : cellsP ((ps.take (i + 1)).map shortP) = cellsP ((ps.take i).map shortP) ++ [.int .i64 p.1, tv (shortL p.2.1), .int .i64 p.2.2] := by
  show _ = _ ++ cell3 (shortP p)
  unfold cellsP
  rw [List.take_add_one, h, List.map_append, List.map_append, List.flatten_append]
  simp

set_option maxHeartbeats 8000000 in
set_option maxRecDepth 100000 in
theorem problems13 (u : Value) (ps : List Prob) (w : World) (hu : SlP w u ps) :
    Calls Tryd.prog 13 #[u] w fun e w' => ∃ v, e = .returned v ∧ RowPr w' w.heap.size v (problemsL ps) ∧ Chg NoB w w' := by
  obtain ⟨i0, hi0, hz0, hz1, hz2⟩ := info_parts info64
  obtain ⟨a, n, c, rfl, hn⟩ := hu.form'
  have hu' := Hid.mk' hu
  obtain ⟨m, hm⟩ : ∃ m, min n 20 = m := ⟨_, rfl⟩
  have hm' := Hid.mk' hm
  have hz1' := Hid.mk' (And.intro hz0 (And.intro hz1 hz2))
  clear hu hm hz1 hz2 hz0
  go_enter Tryd.func13, Tryd.ntmps13
  go_wp2_with fail
  go_loopg [3, 4] m (fun gq s3 s4 wr => ∃ i v, i + gq = m ∧ s3 = v ∧ s4 = .int .i64 (i : Int) ∧ Hid (wr.ownsRow w.heap.size 64 3 v i (cellsP ((ps.take i).map shortP))) ∧ Chg NoB w wr)
  case atStart => exact ⟨0, _, by omega, rfl, rfl, Hid.mk' (World.ownsRow_nil _ _ _ _), Chg.refl _ _⟩
  case round =>
    obtain ⟨i, v, hg, rfl, rfl, hrow, kwr⟩ := hrel
    have kwr' := Hid.mk' kwr
    have hmm := hm'.out
    have hn3 := hn.out
    obtain ⟨av, nv', cv, rfl⟩ := owns_form hrow.out
    by_cases hi : i < m
    · obtain ⟨p, hpp⟩ : ∃ p, ps[i]? = some p := ⟨_, List.getElem?_eq_getElem (by omega)⟩
      obtain ⟨gp, o, rfl, hc⟩ := hu'.out.at (by omega)
      obtain ⟨c0, c1, c2⟩ := hc i p hpp
      have lg : gp < w.heap.size := World.block_lt_of_cell? w _ c0
      have d0 := c0
      have d1 := c1
      have d2 := c2
      replace c0 := kwr.cell (fun h => h) c0
      replace c1 := kwr.cell (fun h => h) c1
      replace c2 := kwr.cell (fun h => h) c2
      have c22 := Hid.mk' fun w' => short22 p.2.1 w'
      have hsu := cellsP_succ ps i p hpp
      obtain ⟨pk, pn, pu⟩ := p
      simp only at c0 c1 c2 c22 hsu d0 d1 d2
      obtain ⟨B, hB⟩ : ∃ B, bsOf pn = B := ⟨_, rfl⟩
      obtain ⟨S, hS⟩ : ∃ S, bsOf (shortL pn) = S := ⟨_, rfl⟩
      unfold tv at c1 c22 hsu d1
      rw [hB] at c1 c22 d1
      rw [hS] at c22 hsu
      have hsu' := Hid.mk' hsu
      have e0 := Hid.mk' d0
      have e1 := Hid.mk' d1
      have e2 := Hid.mk' d2
      have ag : Hid ((Value.slice av nv' cv).ownBlock ≠ some gp) := fun h => by
        have := (hrow.out.lt gp h).1
        omega
      have b1 : (i : Int) < (n : Int) := by omega
      have b2 : i < n := by omega
      have b3 : (i : Int) < 20 := by omega
      have b4 : i < 20 := by omega
      have n1 : IntKind.i64.wrap ((i : Int) + 1) = (i : Int) + 1 := by rw [IntKind.wrap_i64]; omega
      have li := Hid.mk' hi
      have hsz : Hid (w.heap.size ≤ wr.heap.size) := kwr.size
      have sz0 := hsz.out
      clear kwr hc hpp hB hS hn3 hmm hi hsu d0 d1 d2
      go_wp2_with fail
      go_region_held3 (fun w' => w'.cell? ⟨gp, o + i * 3, none⟩ = some (.int .i64 pk) ∧ w'.cell? ⟨gp, o + i * 3 + 1, none⟩ = some (.string B) ∧ w'.cell? ⟨gp, o + i * 3 + 2, none⟩ = some (.int .i64 pu))
        (first
          | exact ⟨q0, q1, q2⟩
          | go_keep)
        (first
          | (go_at_call 22; refine (c22.out _).mono ?_; rintro e w' ⟨rfl, rfl⟩)
          | (refine step_append_lies _ (by rfl) _ _ _ (by rfl) w.heap.size 64 i0 _ 3 32 Tryd.underlying29 hi0 hz1'.out.1 hz1'.out.2.1 hz1'.out.2.2 rfl (by omega) (.slice av nv' cv) i (cellsP ((ps.take i).map shortP)) (by rfl) ((hrow.out.alloc _).drew)
              ⟨wr.heap.size, 0, none⟩ 1 1 [.int .i64 pk, .string S, .int .i64 pu] (by rfl) (by rfl) (World.news_of_block (cs := #[.int .i64 pk, .string S, .int .i64 pu]) (t := 64) (fr := (0, 0)) (heap_alloc_new wr _)) (by simp [Value.oneCell'])
              (by omega) (by unfold maxLen; omega) (by omega) (by simp; omega) (wr.heap.size + 1) (by simp) ?_
             intro gg cap w1 hown1 hgrow hat hlt
             have k1 : Chg NoB w w1 := (((kwr'.out.alloc _).drew).grown hgrow fun k hk => .inr (hrow.out.lt k hk).1)
             have q0 : w1.cell? ⟨gp, o + i * 3, none⟩ = some (.int .i64 pk) := k1.cell (fun h => h) e0.out
             have q1 : w1.cell? ⟨gp, o + i * 3 + 1, none⟩ = some (.string B) := k1.cell (fun h => h) e1.out
             have q2 : w1.cell? ⟨gp, o + i * 3 + 2, none⟩ = some (.int .i64 pu) := k1.cell (fun h => h) e2.out))
      go_wp2_with fail
      go_roundg (m - (i + 1))
      case measure => have := li.out; omega
      case rel =>
        refine ⟨i + 1, _, by have := li.out; omega, rfl, by simp, ?_, k1⟩
        show World.ownsRow _ _ _ _ _ _ _
        rw [hsu'.out]
        exact hown1
    · obtain rfl : i = m := by omega
      have hfin : Hid (problemsL ps = (ps.take i).map shortP ∧ (problemsL ps).length = i) := by
        have : problemsL ps = (ps.take i).map shortP := by
          unfold problemsL
          by_cases h12 : n ≤ 20
          · rw [List.take_of_length_le (by omega), List.take_of_length_le (by omega)]
          · rw [show i = 20 by omega]
        exact ⟨this, by rw [this, List.length_map, List.length_take]; omega⟩
      have fin : Hid (RowPr wr w.heap.size (.slice av nv' cv) (problemsL ps)) := by
        show World.ownsRow _ _ _ _ _ _ _
        rw [hfin.out.2, hfin.out.1]
        exact hrow.out
      by_cases hin : i < n
      · have b1 : (i : Int) < (n : Int) := by omega
        have b3 : ¬ (i : Int) < 20 := by omega
        have b4 : ¬ i < 20 := by omega
        have b5 : 20 ≤ (i : Int) := by omega
        clear kwr hn3 hmm hi
        go_wp2_with fail
        go_ret
        exact ⟨_, rfl, fin.out, kwr'.out⟩
      · have b1 : ¬ (i : Int) < (n : Int) := by omega
        clear kwr hn3 hmm hi
        go_wp2_with fail
        go_ret
        exact ⟨_, rfl, fin.out, kwr'.out⟩
end Go.Proofs.YtgnnjkmlnfdngaaDoor
