/- What laid returns. Conditions: at most 12 columns, widths of at most 1000 that no cell passes. -/
import Derived.Test.YtgnnjkmlnfdngaaDoorE
set_option linter.unusedVariables false
set_option linter.unusedSimpArgs false
namespace Go.Proofs.YtgnnjkmlnfdngaaDoor
open Go Go.RowKit

def padL (w : Nat) (l : List UInt8) : List UInt8 := l ++ List.replicate (w - l.length) 32
def wordL (ws : List Nat) (row : List (List UInt8)) (k : Nat) : List UInt8 := padL (ws[k]?.getD 0) (cellL row k)
/-- The line of some texts in columns. -/
def laidL (ws : List Nat) (row : List (List UInt8)) : List UInt8 := Lib.trimRightB (Lib.join ((List.range ws.length).map (wordL ws row)) [32, 32]) 32
def nv (n : Nat) : Value := .int .i64 (n : Int)

theorem repeatL_one (c : UInt8) : ∀ n, Lib.repeatL [c] n = List.replicate n c
  | 0 => rfl
  | n + 1 => by rw [Lib.repeatL, repeatL_one c n]; rfl

theorem chg_of_below {w w' : World} (h : Below w.heap.size w w') : Chg NoB w w' := ⟨h.os, h.tape, h.output, h.size, fun k hk _ => h.block k hk⟩

theorem repeat34 (c : UInt8) (n : Nat) (w : World) (hn : n ≤ 1000) :
    Calls Tryd.prog 34 #[.string ⟨#[c]⟩, .int .i64 n] w fun e w' => e = .returned (tv (List.replicate n c)) ∧ Chg NoB w w' := by
  refine (Tryd.strings_Repeat ⟨#[c]⟩ n w (by omega) (by show 1 * n ≤ _; omega)).mono ?_
  rintro e w' ⟨rfl, h⟩
  exact ⟨by rw [show (⟨#[c]⟩ : ByteArray).data.toList = [c] from rfl, repeatL_one]; rfl, chg_of_below h⟩

theorem info9 : (Tryd.prog.info? 9).map (fun i => (i.zero, i.size, i.bytes)) = some (some (.string ⟨#[]⟩), 1, 16) := by kernel_rfl

theorem join45 (v : Value) (xs : List (List UInt8)) (sep : ByteArray) (w : World) (h : Sl w v (xs.map tv)) (hl : (Lib.join xs sep.data.toList).length ≤ 140737488355328) (hN : xs.length ≤ 140737488355328) :
    Calls Tryd.prog 45 #[v, .string sep] w fun e w' => e = .returned (tv (Lib.join xs sep.data.toList)) ∧ Chg NoB w w' := by
  obtain ⟨a, n, c, rfl, hn⟩ := h.form'
  have hn2 : n = xs.length := by have := hn.out; simpa using this
  by_cases h0 : 0 < xs.length
  · obtain ⟨g, o, rfl, hc, -, hcap, hg⟩ := h.at (by simp; omega)
    have hm : (xs.map bsOf).map (·.data.toList) = xs := by rw [List.map_map]; exact (List.map_congr_left fun _ _ => rfl).trans (List.map_id _)
    have := Tryd.strings_Join g o c (xs.map bsOf) sep w (fun j x hx => by
      rw [List.getElem?_map] at hx
      obtain ⟨y, hy, rfl⟩ := Option.map_eq_some_iff.1 hx
      exact hc j (tv y) (by rw [List.getElem?_map, hy]; rfl)) hg (by simpa using hN) (by rw [List.length_map]; omega) (by rw [hm]; exact hl)
    rw [hm, List.length_map, ← hn2] at this
    refine this.mono ?_
    rintro e w' ⟨rfl, h⟩
    exact ⟨rfl, chg_of_below h⟩
  · obtain rfl : xs = [] := List.eq_nil_of_length_eq_zero (by omega)
    obtain rfl : n = 0 := by simpa using hn2
    refine (Tryd.strings_Join_none a c sep w).mono ?_
    rintro e w' ⟨rfl, rfl⟩
    exact ⟨rfl, Chg.refl _ _⟩
theorem trim44 (l : List UInt8) (c : UInt8) (hc : c.toNat < 128) (w : World) (hs : l.length ≤ 9223372036854775807) :
    Calls Tryd.prog 44 #[tv l, .string ⟨#[c]⟩] w fun e w' => e = .returned (tv (Lib.trimRightB l c)) ∧ w = w' := by
  refine (Tryd.strings_TrimRight_one (bsOf l) c hc w (by rw [size_bsOf]; exact hs)).mono ?_
  rintro e w' ⟨rfl, rfl⟩
  exact ⟨rfl, rfl⟩
theorem joinTail_le (sep : List UInt8) (m : Nat) : ∀ r : List (List UInt8), (∀ x ∈ r, x.length ≤ m) → (Lib.joinTail sep r).length ≤ r.length * (m + sep.length)
  | [], _ => by simp [Lib.joinTail]
  | x :: r, h => by
    have ih := joinTail_le sep m r fun y hy => h y (List.mem_cons_of_mem _ hy)
    have hx := h x (List.mem_cons_self ..)
    simp only [Lib.joinTail, List.map_cons, List.flatten_cons, List.length_append, List.length_cons] at ih ⊢
    rw [Nat.succ_mul]; omega
theorem join_le (sep : List UInt8) (m : Nat) (r : List (List UInt8)) (h : ∀ x ∈ r, x.length ≤ m) : (Lib.join r sep).length ≤ r.length * (m + sep.length) := by
  cases r with
  | nil => simp [Lib.join_nil]
  | cons x r =>
    rw [Lib.join_cons]
    have ih := joinTail_le sep m r fun y hy => h y (List.mem_cons_of_mem _ hy)
    have hx := h x (List.mem_cons_self ..)
    simp only [List.length_append, List.length_cons]
    rw [Nat.succ_mul]; omega

set_option maxHeartbeats 8000000 in
set_option maxRecDepth 100000 in
theorem laid35 (wv rv : Value) (ws : List Nat) (row : List (List UInt8)) (w : World) (hw : Sl w wv (ws.map nv)) (hr : Sl w rv (row.map tv)) (hn : ws.length ≤ 1000) (hb : ∀ k x, ws[k]? = some x → (cellL row k).length ≤ x ∧ x ≤ 1000) :
    Calls Tryd.prog 35 #[wv, rv] w fun e w' => e = .returned (tv (laidL ws row)) ∧ Chg NoB w w' := by
  obtain ⟨wa, wn, wc, rfl, hwn⟩ := hw.form'
  have hwn2 : wn = ws.length := by have := hwn.out; simpa using this
  have hw' := Hid.mk' hw
  have hr' := Hid.mk' hr
  have hb' := Hid.mk' hb
  have hn' := Hid.mk' hn
  have hwn' := Hid.mk' hwn2
  clear hw hr hb hwn hn hwn2
  go_enter Tryd.func35, Tryd.ntmps35
  go_wp2_with fail
  go_loopg [5, 11] wn (fun gq s5 s11 wr => ∃ i v, i + gq = wn ∧ s5 = v ∧ s11 = .int .i64 (i : Int) ∧ Row wr 9 v (((List.range i).map (wordL ws row)).map tv) ∧ (∀ k, own v k → w.heap.size ≤ k) ∧ Chg NoB w wr)
  case atStart => exact ⟨0, _, by omega, rfl, rfl, Row.nil _ 9, fun k hk => (own_none 0 0 k hk).elim, Chg.refl _ _⟩
  case round =>
    obtain ⟨i, v, hg, rfl, rfl, hrow, hown, kwr⟩ := hrel
    obtain ⟨av, nv', cv, rfl, lv⟩ := hrow.form'
    have hrow' := Hid.mk' hrow
    have hown' := Hid.mk' hown
    have kwr' := Hid.mk' kwr
    by_cases hi : i < wn
    · have h12 := hwn'.out
      have hx : (ws.map nv)[i]? = some (nv (ws[i]?.getD 0)) := by simp [List.getElem?_eq_getElem (by omega : i < ws.length)]
      have hwr := hw'.out.new kwr
      obtain ⟨g, o, rfl, hc, -⟩ := hwr.at (by simp; omega)
      have c1 := hc i _ hx
      obtain ⟨x, hxx⟩ : ∃ x, ws[i]?.getD 0 = x := ⟨_, rfl⟩
      rw [hxx] at c1
      have hbi := hb'.out i x (by rw [← hxx]; simp [List.getElem?_eq_getElem (by omega : i < ws.length)])
      have c33 := Hid.mk' (cell33 rv row i wr (hr'.out.new kwr))
      obtain ⟨L, hL⟩ : ∃ L, cellL row i = L := ⟨_, rfl⟩
      rw [hL] at c33 hbi
      have hwl : Hid (wordL ws row i = L ++ List.replicate (x - L.length) 32) := by show _ = _; unfold wordL padL; rw [hxx, hL]
      have b1 : (i : Int) < (wn : Int) := by omega
      have b2 : i < wn := hi
      have n1 : IntKind.i64.wrap ((i : Int) + 1) = (i : Int) + 1 := by rw [IntKind.wrap_i64]; have := hn'.out; omega
      have sz : (bsOf L).size = L.length := size_bsOf L
      have n2 : IntKind.i64.wrap ((x : Int) - (L.length : Int)) = ((x - L.length : Nat) : Int) := by rw [IntKind.wrap_i64]; omega
      have c34 := Hid.mk' (repeat34 32 (x - L.length) wr (by omega))
      have ln : Hid (i ≤ 1000) := by show _ ≤ _; have := hn'.out; omega
      obtain ⟨B, hB⟩ : ∃ B, bsOf L = B := ⟨_, rfl⟩
      obtain ⟨R, hR⟩ : ∃ R, bsOf (List.replicate (x - L.length) (32 : UInt8)) = R := ⟨_, rfl⟩
      have sR : (bsOf (List.replicate (x - L.length) (32 : UInt8))).size = x - L.length := by rw [size_bsOf, List.length_replicate]
      obtain ⟨m, hm⟩ : ∃ m, x - L.length = m := ⟨_, rfl⟩
      have b3 : L.length + m ≤ 9223372036854775807 := by omega
      rw [hm] at sR n2 c34
      unfold tv at c33 c34
      rw [hB] at c33 sz
      rw [hm] at hR
      rw [hR] at c34 sR
      have hwt : Hid (tv (wordL ws row i) = .string (B ++ R)) := by show _ = _; rw [hwl.out, hm, ← hB, ← hR, bsOf_add]; rfl
      unfold nv at c1
      clear hrow hown kwr hx hwr hc hxx hbi hL hwl hB hR h12 lv hm
      go_wp2_with (first
        | (go_at_call 33; refine c33.out.mono ?_; rintro e w' ⟨rfl, rfl⟩)
        | (go_at_call 34; refine c34.out.mono ?_; rintro e w2 ⟨rfl, k2⟩; replace k2 := Hid.mk' k2)
        | (at_builtin; refine wpList_append_one _ rfl _ _ 22 9 (.string ⟨#[]⟩) 16 rfl Tryd.underlying22 info9 rfl (.slice av nv' cv) (((List.range i).map (wordL ws row)).map tv) (.string (B ++ R)) rfl rfl (hrow'.out.chg k2.out fun _ _ h => h) rfl (by have := ln.out; simp at this ⊢; omega) (by have := ln.out; simp at this ⊢; omega) ?_
           intro v5 w5 r5 o5 k5
           obtain ⟨bv, mv, dv, rfl, lv5⟩ := r5.form'
           have q5 : Hid (Chg NoB w w5) := kwr'.out.trans' ((k2.out.mono fun _ h => h.elim).trans k5) (fun j b => .inr (hown'.out j b))
           have x5 : Hid (∀ j, own (.slice bv mv dv) j → w.heap.size ≤ j) := fun j hj => (o5 j hj).elim (hown'.out j) fun h => Nat.le_trans kwr'.out.size (Nat.le_trans k2.out.size h)
           replace r5 := Hid.mk' r5; clear o5 k5 lv5))
      go_roundg (wn - (i + 1))
      case measure => omega
      case rel =>
        refine ⟨i + 1, _, by omega, rfl, by simp, ?_, x5.out, q5.out⟩
        have := r5.out
        rw [← hwt.out] at this
        rw [List.range_succ, List.map_append, List.map_append]
        exact this
    · obtain rfl : i = wn := by omega
      have hnn := hwn'.out
      have hj : (Lib.join ((List.range i).map (wordL ws row)) [32, 32]).length ≤ 140737488355328 := by
        have := join_le [32, 32] 1000 ((List.range i).map (wordL ws row)) (fun x hx => by
          obtain ⟨k, hk, rfl⟩ := List.mem_map.1 hx
          have hk := List.mem_range.1 hk
          have hy : ws[k]? = some (ws[k]'(by omega)) := by simp [List.getElem?_eq_getElem (by omega : k < ws.length)]
          have := hb'.out k _ hy
          unfold wordL padL
          rw [hy]
          simp; omega)
        have := hn'.out
        simp at *; omega
      have c45 := Hid.mk' (join45 _ _ (⟨#[32, 32]⟩ : ByteArray) wr hrow.sl hj (by have := hn'.out; simp; omega))
      have c44 : Hid (∀ w', Calls Tryd.prog 44 #[tv (Lib.join ((List.range i).map (wordL ws row)) [32, 32]), .string ⟨#[32]⟩] w' fun e w'' => e = .returned (tv (laidL ws row)) ∧ w' = w'') := fun w' => by
        have := trim44 (Lib.join ((List.range i).map (wordL ws row)) [32, 32]) 32 (by decide) w' (by omega)
        unfold laidL
        rwa [← hnn]
      have b1 : ¬ ((i : Int) < (i : Int)) := by omega
      clear hrow hown kwr hnn hj hi lv
      go_wp2_with (first
        | (go_at_call 45; refine c45.out.mono ?_; rintro e w2 ⟨rfl, k2⟩; replace k2 := Hid.mk' k2)
        | (go_at_call 44; refine (c44.out _).mono ?_; rintro e w' ⟨rfl, rfl⟩))
      go_ret
      exact ⟨rfl, kwr'.out.trans k2.out⟩
end Go.Proofs.YtgnnjkmlnfdngaaDoor
