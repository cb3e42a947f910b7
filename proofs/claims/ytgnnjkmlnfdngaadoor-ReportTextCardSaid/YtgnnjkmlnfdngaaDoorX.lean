/- What short, texts and table of the laws return. No conditions. -/
import Derived.Test.YtgnnjkmlnfdngaaDoorH
set_option linter.unusedVariables false
set_option linter.unusedSimpArgs false
namespace Go.Proofs.YtgnnjkmlnfdngaaDoor
open Go Go.RowKit

def shortL (s : List UInt8) : List UInt8 := s.take 30
def textsL (l : List (List UInt8)) : List (List UInt8) := (l.take 12).map shortL
def tableSL (l : List (List (List UInt8))) : List (List (List UInt8)) := (l.take 20).map textsL

set_option maxHeartbeats 4000000 in
set_option maxRecDepth 100000 in
theorem short22 (s : List UInt8) (w : World) :
    Calls Tryd.prog 22 #[tv s] w fun e w' => e = .returned (tv (shortL s)) ∧ w = w' := by
  by_cases h : s.length ≤ 30
  · have e1 : shortL s = s := by unfold shortL; rw [List.take_of_length_le h]
    rw [e1]
    have sz := size_bsOf s
    unfold tv
    obtain ⟨B, hB⟩ : ∃ B, bsOf s = B := ⟨_, rfl⟩
    rw [hB] at sz ⊢
    have b1 : ¬ (30 : Int) < (B.size : Int) := by omega
    have b2 : ¬ 30 < B.size := by omega
    clear e1 hB sz h
    go_enter Tryd.func22, Tryd.ntmps22
    go_wp2
    go_ret
    exact ⟨rfl, rfl⟩
  · have sz := size_bsOf s
    have e1 : Hid (tv (shortL s) = .string ((bsOf s).extract 0 30)) := by
      show _ = _
      unfold tv shortL
      congr 1
      apply ByteArray.ext
      simp [bsOf, ByteArray.data_extract]
    rw [e1.out]
    unfold tv
    obtain ⟨B, hB⟩ : ∃ B, bsOf s = B := ⟨_, rfl⟩
    rw [hB] at sz ⊢
    have b1 : (30 : Int) < (B.size : Int) := by omega
    have b2 : 30 < B.size := by omega
    have b3 : 30 ≤ B.size := by omega
    clear e1 hB sz h
    go_enter Tryd.func22, Tryd.ntmps22
    go_wp2
    go_ret
    exact ⟨rfl, rfl⟩

theorem texts_succ (l : List (List UInt8)) (i : Nat) (s : List UInt8) (h : l[i]? = some s) : (l.take (i + 1)).map shortL = (l.take i).map shortL ++ [shortL s] := by
  rw [List.take_add_one, h, List.map_append]; rfl

set_option maxHeartbeats 8000000 in
set_option maxRecDepth 100000 in
theorem texts8 (u : Value) (l : List (List UInt8)) (w : World) (hu : Sl w u (l.map tv)) :
    Calls Tryd.prog 8 #[u] w fun e w' => ∃ v, e = .returned v ∧ Row w' 9 v ((textsL l).map tv) ∧ (∀ k, own v k → w.heap.size ≤ k) ∧ Chg NoB w w' := by
  obtain ⟨a, n, c, rfl, hn⟩ := hu.form'
  have hn2 : Hid (n = l.length) := by show _ = _; have := hn.out; simpa using this
  have hu' := Hid.mk' hu
  obtain ⟨m, hm⟩ : ∃ m, min n 12 = m := ⟨_, rfl⟩
  have hm' := Hid.mk' hm
  clear hu hn hm
  go_enter Tryd.func8, Tryd.ntmps8
  go_wp2_with fail
  go_loopg [3, 4] m (fun gq s3 s4 wr => ∃ i v, i + gq = m ∧ s3 = v ∧ s4 = .int .i64 (i : Int) ∧ Row wr 9 v (((l.take i).map shortL).map tv) ∧ (∀ k, own v k → w.heap.size ≤ k) ∧ Chg NoB w wr)
  case atStart => exact ⟨0, _, by omega, rfl, rfl, Row.nil _ 9, fun k hk => (own_none 0 0 k hk).elim, Chg.refl _ _⟩
  case round =>
    obtain ⟨i, v, hg, rfl, rfl, hrow, hown, kwr⟩ := hrel
    obtain ⟨av, nv', cv, rfl, lv⟩ := hrow.form'
    have hrow' := Hid.mk' hrow
    have hown' := Hid.mk' hown
    have kwr' := Hid.mk' kwr
    have hmm := hm'.out
    by_cases hi : i < m
    · have hn3 := hn2.out
      obtain ⟨s, hs⟩ : ∃ s, l[i]? = some s := ⟨_, List.getElem?_eq_getElem (by omega)⟩
      have hx : (l.map tv)[i]? = some (tv s) := by rw [List.getElem?_map, hs]; rfl
      obtain ⟨g, o, rfl, hc, -⟩ := (hu'.out.new kwr).at (by simp; omega)
      have c1 := hc i _ hx
      have c22 := Hid.mk' (short22 s wr)
      obtain ⟨B, hB⟩ : ∃ B, bsOf s = B := ⟨_, rfl⟩
      obtain ⟨S, hS⟩ : ∃ S, bsOf (shortL s) = S := ⟨_, rfl⟩
      unfold tv at c1 c22
      rw [hB] at c1 c22
      rw [hS] at c22
      have hsu : Hid (((l.take (i + 1)).map shortL).map tv = ((l.take i).map shortL).map tv ++ [.string S]) := by
        show _ = _
        rw [texts_succ l i s hs, List.map_append, ← hS]; rfl
      have b1 : (i : Int) < (n : Int) := by omega
      have b2 : i < n := by omega
      have b3 : (i : Int) < 12 := by omega
      have b4 : i < 12 := by omega
      have n1 : IntKind.i64.wrap ((i : Int) + 1) = (i : Int) + 1 := by rw [IntKind.wrap_i64]; omega
      have ln : Hid (i ≤ 12) := by show _ ≤ _; omega
      have li := Hid.mk' hi
      clear hrow hown kwr hx hc hs hB hS hn3 hmm lv hi
      go_wp2_with (first
        | (go_at_call 22; refine c22.out.mono ?_; rintro e w' ⟨rfl, rfl⟩)
        | (at_builtin; refine wpList_append_one _ rfl _ _ 22 9 (.string ⟨#[]⟩) 16 rfl Tryd.underlying22 info9 rfl (.slice av nv' cv) (((l.take i).map shortL).map tv) (.string S) rfl rfl hrow'.out rfl (by have := ln.out; simp at this ⊢; omega) (by have := ln.out; simp at this ⊢; omega) ?_
           intro v5 w5 r5 o5 k5
           obtain ⟨bv, mv, dv, rfl, lv5⟩ := r5.form'
           have q5 : Hid (Chg NoB w w5) := kwr'.out.trans' k5 (fun j b => .inr (hown'.out j b))
           have x5 : Hid (∀ j, own (.slice bv mv dv) j → w.heap.size ≤ j) := fun j hj => (o5 j hj).elim (hown'.out j) fun h => Nat.le_trans kwr'.out.size h
           replace r5 := Hid.mk' r5; clear o5 k5 lv5))
      go_roundg (m - (i + 1))
      case measure => have := li.out; omega
      case rel =>
        refine ⟨i + 1, _, by have := li.out; omega, rfl, by simp, ?_, x5.out, q5.out⟩
        rw [hsu.out]
        exact r5.out
    · obtain rfl : i = m := by omega
      have hn3 := hn2.out
      have hfin : Hid (textsL l = (l.take i).map shortL) := by
        show _ = _
        unfold textsL
        by_cases h12 : n ≤ 12
        · rw [List.take_of_length_le (by omega), List.take_of_length_le (by omega)]
        · rw [show i = 12 by omega]
      by_cases hin : i < n
      · have b1 : (i : Int) < (n : Int) := by omega
        have b3 : ¬ (i : Int) < 12 := by omega
        have b4 : ¬ i < 12 := by omega
        have b5 : 12 ≤ (i : Int) := by omega
        clear hrow hown kwr hn3 hmm lv hi
        go_wp2_with fail
        go_ret
        exact ⟨_, rfl, by rw [hfin.out]; exact hrow'.out, hown'.out, kwr'.out⟩
      · have b1 : ¬ (i : Int) < (n : Int) := by omega
        clear hrow hown kwr hn3 hmm lv hi
        go_wp2_with fail
        go_ret
        exact ⟨_, rfl, by rw [hfin.out]; exact hrow'.out, hown'.out, kwr'.out⟩

/-- A row of rows of texts, each in a block of its own. -/
def RR (w : World) (v : Value) (rows : List (List (List UInt8))) : Prop :=
  ∃ us : List Value, us.length = rows.length ∧ Row w 22 v us ∧ ∀ (k : Nat) (u : Value) (r : List (List UInt8)), us[k]? = some u → rows[k]? = some r → u.oneCell' = true ∧ Row w 9 u (r.map tv) ∧ ∀ j, own u j → ¬ own v j
theorem RR.sl2 {w : World} {v : Value} {rows : List (List (List UInt8))} (h : RR w v rows) : Sl2 w v rows := by
  obtain ⟨us, h1, h2, h3⟩ := h
  exact ⟨us, h1, h2.sl, fun k u r a b => (h3 k u r a b).2.1.sl⟩
theorem RR.new {w w' : World} {v : Value} {rows : List (List (List UInt8))} (h : RR w v rows) (k : Chg NoB w w') : RR w' v rows := by
  obtain ⟨us, h1, h2, h3⟩ := h
  exact ⟨us, h1, h2.chg k fun _ _ h => h, fun j u r a b => ⟨(h3 j u r a b).1, (h3 j u r a b).2.1.chg k fun _ _ h => h, (h3 j u r a b).2.2⟩⟩
theorem slice_one (a : Option Addr) (n c : Nat) : (Value.slice a n c).oneCell' = true := rfl
theorem RR.snoc {w w' : World} {v v' u : Value} {us : List Value} {rows : List (List (List UInt8))} {r : List (List UInt8)} (h1 : us.length = rows.length)
    (h3 : ∀ (k : Nat) (u : Value) (r : List (List UInt8)), us[k]? = some u → rows[k]? = some r → u.oneCell' = true ∧ Row w 9 u (r.map tv) ∧ ∀ j, own u j → ¬ own v j)
    (hu : Row w 9 u (r.map tv)) (h0 : u.oneCell' = true) (hd : ∀ j, own u j → ¬ own v j) (hr : Row w' 22 v' (us ++ [u])) (ho : ∀ j, own v' j → own v j ∨ w.heap.size ≤ j) (k : Chg (own v) w w') : RR w' v' (rows ++ [r]) := by
  refine ⟨us ++ [u], by simp [h1], hr, fun j u2 r2 a b => ?_⟩
  have key : u2.oneCell' = true ∧ Row w 9 u2 (r2.map tv) ∧ ∀ j, own u2 j → ¬ own v j := by
    rcases Nat.lt_trichotomy j us.length with h | h | h
    · rw [List.getElem?_append_left h] at a
      rw [List.getElem?_append_left (by omega)] at b
      exact h3 j u2 r2 a b
    · subst h
      rw [List.getElem?_append_right (Nat.le_refl _)] at a
      rw [h1, List.getElem?_append_right (Nat.le_refl _)] at b
      simp at a b
      subst a b
      exact ⟨h0, hu, hd⟩
    · have := (List.getElem?_eq_some_iff.1 a).1
      simp at this; omega
  refine ⟨key.1, key.2.1.chg k key.2.2, fun q hq hv => ?_⟩
  rcases ho q hv with h | h
  · exact key.2.2 q hq h
  · have := key.2.1.lt hq; omega
theorem info22 : (Tryd.prog.info? 22).map (fun i => (i.zero, i.size, i.bytes)) = some (some (.slice none 0 0), 1, 24) := by kernel_rfl
theorem tableS_succ (l : List (List (List UInt8))) (i : Nat) (s : List (List UInt8)) (h : l[i]? = some s) : (l.take (i + 1)).map textsL = (l.take i).map textsL ++ [textsL s] := by
  rw [List.take_add_one, h, List.map_append]; rfl

set_option maxHeartbeats 8000000 in
set_option maxRecDepth 100000 in
theorem table9 (u : Value) (l : List (List (List UInt8))) (w : World) (hu : Sl2 w u l) :
    Calls Tryd.prog 9 #[u] w fun e w' => ∃ v, e = .returned v ∧ RR w' v (tableSL l) ∧ (∀ k, own v k → w.heap.size ≤ k) ∧ Chg NoB w w' := by
  obtain ⟨a, n, c, rfl, hn⟩ := hu.form'
  have hn2 : Hid (n = l.length) := by show _ = _; have := hn.out; simpa using this
  have hu' := Hid.mk' hu
  obtain ⟨m, hm⟩ : ∃ m, min n 20 = m := ⟨_, rfl⟩
  have hm' := Hid.mk' hm
  clear hu hn hm
  go_enter Tryd.func9, Tryd.ntmps9
  go_wp2_with fail
  go_loopg [3, 4] m (fun gq s3 s4 wr => ∃ i v, i + gq = m ∧ s3 = v ∧ s4 = .int .i64 (i : Int) ∧ RR wr v ((l.take i).map textsL) ∧ (∀ k, own v k → w.heap.size ≤ k) ∧ Chg NoB w wr)
  case atStart => exact ⟨0, _, by omega, rfl, rfl, ⟨[], by simp, Row.nil _ 22, fun k u r a b => by simp at a⟩, fun k hk => (own_none 0 0 k hk).elim, Chg.refl _ _⟩
  case round =>
    obtain ⟨i, v, hg, rfl, rfl, hrr, hown, kwr⟩ := hrel
    have hrr' := Hid.mk' hrr
    obtain ⟨us, hus, hrow, hel⟩ := hrr
    obtain ⟨av, nv', cv, rfl, lv⟩ := hrow.form'
    have hrow' := Hid.mk' hrow
    have hown' := Hid.mk' hown
    have kwr' := Hid.mk' kwr
    have hel' := Hid.mk' hel
    have hus' := Hid.mk' hus
    have hmm := hm'.out
    by_cases hi : i < m
    · have hn3 := hn2.out
      obtain ⟨s, hs⟩ : ∃ s, l[i]? = some s := ⟨_, List.getElem?_eq_getElem (by omega)⟩
      obtain ⟨g, o, rfl, hc⟩ := (hu'.out.new kwr).at (by omega)
      obtain ⟨q, c1, hq⟩ := hc i s hs
      obtain ⟨aq, nq', cq, rfl, lq⟩ := hq.form'
      have c8 := Hid.mk' (texts8 _ s wr hq)
      have hsu : Hid ((l.take (i + 1)).map textsL = (l.take i).map textsL ++ [textsL s]) := tableS_succ l i s hs
      have b1 : (i : Int) < (n : Int) := by omega
      have b2 : i < n := by omega
      have b3 : (i : Int) < 20 := by omega
      have b4 : i < 20 := by omega
      have n1 : IntKind.i64.wrap ((i : Int) + 1) = (i : Int) + 1 := by rw [IntKind.wrap_i64]; omega
      have ln : Hid (us.length ≤ 20) := by show _ ≤ _; rw [hus, List.length_map, List.length_take]; omega
      have li := Hid.mk' hi
      clear hrow hown kwr hc hs hn3 hmm lv hi hq lq hel hus
      go_wp2_with (first
        | (go_at_call 8; refine c8.out.mono ?_; rintro e w2 ⟨v2, rfl, r2, o2, k2⟩; obtain ⟨a2, n2', c2', rfl, l2⟩ := r2.form'; replace r2 := Hid.mk' r2; replace o2 := Hid.mk' o2; replace k2 := Hid.mk' k2; clear l2)
        | (at_builtin; refine wpList_append_one _ rfl _ _ 23 22 (.slice none 0 0) 24 rfl Tryd.underlying23 info22 rfl (.slice av nv' cv) us (.slice a2 n2' c2') rfl rfl (hrow'.out.chg k2.out fun _ _ h => h) rfl (by have := ln.out; omega) (by have := ln.out; omega) ?_
           intro v5 w5 r5 o5 k5
           obtain ⟨bv, mv, dv, rfl, lv5⟩ := r5.form'
           have q5 : Hid (Chg NoB w w5) := (kwr'.out.trans k2.out).trans' k5 (fun j b => .inr (hown'.out j b))
           have x5 : Hid (∀ j, own (.slice bv mv dv) j → w.heap.size ≤ j) := fun j hj => (o5 j hj).elim (hown'.out j) fun h => Nat.le_trans (kwr'.out.trans k2.out).size h
           have y5 : Hid (RR w5 (.slice bv mv dv) ((l.take i).map textsL ++ [textsL s])) := RR.snoc hus'.out (fun k u r a b => ⟨(hel'.out k u r a b).1, (hel'.out k u r a b).2.1.chg k2.out fun _ _ h => h, (hel'.out k u r a b).2.2⟩) r2.out rfl (fun j hj hv => by have h1 := o2.out j hj; have h2 := hrow'.out.lt hv; omega) r5 o5 k5
           clear o5 k5 lv5 r5))
      go_roundg (m - (i + 1))
      case measure => have := li.out; omega
      case rel =>
        refine ⟨i + 1, _, by have := li.out; omega, rfl, by simp, ?_, x5.out, q5.out⟩
        rw [hsu.out]
        exact y5.out
    · obtain rfl : i = m := by omega
      have hn3 := hn2.out
      have hfin : Hid (tableSL l = (l.take i).map textsL) := by
        show _ = _
        unfold tableSL
        by_cases h12 : n ≤ 20
        · rw [List.take_of_length_le (by omega), List.take_of_length_le (by omega)]
        · rw [show i = 20 by omega]
      by_cases hin : i < n
      · have b1 : (i : Int) < (n : Int) := by omega
        have b3 : ¬ (i : Int) < 20 := by omega
        have b4 : ¬ i < 20 := by omega
        have b5 : 20 ≤ (i : Int) := by omega
        clear hrow hown kwr hn3 hmm lv hi hel hus
        go_wp2_with fail
        go_ret
        exact ⟨_, rfl, by rw [hfin.out]; exact hrr'.out, hown'.out, kwr'.out⟩
      · have b1 : ¬ (i : Int) < (n : Int) := by omega
        clear hrow hown kwr hn3 hmm lv hi hel hus
        go_wp2_with fail
        go_ret
        exact ⟨_, rfl, by rw [hfin.out]; exact hrr'.out, hown'.out, kwr'.out⟩
end Go.Proofs.YtgnnjkmlnfdngaaDoor
