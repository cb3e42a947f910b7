/- What HasPrefix, same and place return. No conditions beyond the lengths. -/
import Derived.Test.YtamnmoejjjaegaaA1
import Derived.Test.YtamnmoejjjaegaaPO
import Derived.Test.YtamnmoejjjaegaaProg
import Derived.Deep.LoopGhost
import Derived.Deep.QuietTactic
import Derived.BigQuiet
set_option linter.unusedVariables false
set_option linter.unusedSimpArgs false
namespace Go.Proofs.Ytamnmoejjjaegaa
open Go Go.RowKit

theorem ret_bool {a b : Bool} (h : a = b) : Ending.returned (.bool a) = .returned (.bool b) := by rw [h]
theorem ret_int {a b : Int} (h : a = b) : Ending.returned (.int .i64 a) = .returned (.int .i64 b) := by rw [h]

theorem pre_extract (s p : ByteArray) (h : p.size ≤ s.size) : ((s.extract 0 p.size).toList == p.toList) = preB p s := by
  unfold preB
  rw [data_toList, data_toList]
  have e : (s.extract 0 p.size).data.toList = s.data.toList.take p.size := by
    rw [ByteArray.data_extract]; simp
  rw [e, Bool.eq_iff_iff, beq_iff_eq, List.isPrefixOf_iff_prefix]
  constructor
  · intro h2
    rw [← h2]; exact List.take_prefix _ _
  · intro h2
    have := List.prefix_iff_eq_take.1 h2
    rw [show p.data.toList.length = p.size from rfl] at this
    exact this.symm

set_option maxHeartbeats 1000000 in
theorem hasPrefix50 (s p : ByteArray) (w : World) : Calls Try.prog 50 #[.string s, .string p] w fun e w' => e = .returned (.bool (preB p s)) ∧ w = w' := by
  by_cases hle : p.size ≤ s.size
  · have hp := Hid.mk' (pre_extract s p hle)
    have c1 : decide ((p.size : Int) ≤ (s.size : Int)) = true := by simp; omega
    have c2 : decide (p.size ≤ s.size) = true := by simp; omega
    have c3 : decide (0 ≤ (p.size : Int)) = true := by simp
    have c4 : (p.size ≤ s.size) = True := eq_true hle
    clear hle
    go_enter Try.func50, Try.ntmps50
    go_wp2
    go_ret
    exact ⟨ret_bool (by simpa using hp.out), rfl⟩
  · have e : preB p s = false := by
      unfold preB
      cases hh : p.data.toList.isPrefixOf s.data.toList
      · rfl
      · have := (List.isPrefixOf_iff_prefix.1 hh).length_le
        simp only [Array.length_toList] at this
        exact (hle this).elim
    rw [e]
    have h1' : decide (p.size ≤ s.size) = false := by simp; omega
    go_enter Try.func50, Try.ntmps50
    go_wp2
    go_ret
    exact ⟨rfl, rfl⟩

theorem hasPrefix32 (s p : ByteArray) (w : World) : Calls Try.prog 32 #[.string s, .string p] w fun e w' => e = .returned (.bool (preB p s)) ∧ w = w' := by
  have h := Hid.mk' (hasPrefix50 s p w)
  go_enter Try.func32, Try.ntmps32
  go_wp2_with (go_at_call 50; refine h.out.mono ?_; rintro e w' ⟨rfl, rfl⟩)
  go_ret
  exact ⟨rfl, rfl⟩

theorem str_list_eq (a b : ByteArray) : (a.toList = b.toList) ↔ a = b := by
  constructor
  · intro h
    rw [data_toList, data_toList] at h
    cases a; cases b; simp at h; rw [h]
  · intro h; rw [h]
theorem row_str {w : World} {a : Option Addr} {n c : Nat} {xs : List ByteArray} (h : Row w 9 (.slice a n c) (xs.map Value.string)) (i : Nat) (hi : i < xs.length) :
    ∃ g, a = some ⟨g, 0, none⟩ ∧ w.cell? ⟨g, i, none⟩ = some (.string (xs[i]'hi)) := by
  obtain ⟨g, hg, -, hc, -⟩ := h.at (by simp; omega)
  exact ⟨g, hg, hc i _ (by simp [hi])⟩
theorem row_int {w : World} {a : Option Addr} {n c : Nat} {xs : List Int} (h : Row w 3 (.slice a n c) (xs.map (Value.int .i64))) (i : Nat) (hi : i < xs.length) :
    ∃ g, a = some ⟨g, 0, none⟩ ∧ w.cell? ⟨g, i, none⟩ = some (.int .i64 (xs[i]'hi)) := by
  obtain ⟨g, hg, -, hc, -⟩ := h.at (by simp; omega)
  exact ⟨g, hg, hc i _ (by simp [hi])⟩

set_option maxHeartbeats 4000000 in
set_option maxRecDepth 100000 in
theorem same22 (v u : Value) (xs ys : List ByteArray) (w : World) (hv : Row w 9 v (xs.map Value.string)) (hu : Row w 9 u (ys.map Value.string)) (hl : xs.length ≤ 1000000) :
    Calls Try.prog 22 #[v, u] w fun e w' => e = .returned (.bool (decide (xs = ys))) ∧ ∃ k, w' = w.drewN k := by
  obtain ⟨av, nv, cv, rfl, lv⟩ := hv.form'
  obtain ⟨au, nu, cu, rfl, lu⟩ := hu.form'
  have lv' : Hid (nv = xs.length) := by show _ = _; have := lv.out; simpa using this
  have lu' : Hid (nu = ys.length) := by show _ = _; have := lu.out; simpa using this
  have hv' := Hid.mk' hv
  have hu' := Hid.mk' hu
  clear lv lu hv hu
  by_cases hn : nv = nu
  · subst hn
    have n1 : nv ≤ 1000000 := by rw [lv'.out]; exact hl
    obtain ⟨r, hr⟩ : ∃ r, decide (xs = ys) = r := ⟨_, rfl⟩
    rw [hr]
    have hd := Hid.mk' (show decide (xs.drop 0 = ys.drop 0) = r by simpa using hr)
    clear hr hl
    go_enter Try.func22, Try.ntmps22
    go_wp2
    go_loopg [5] nv (fun gq s5 wr => ∃ i m, i + gq = nv ∧ s5 = .int .i64 (i : Int) ∧ Hid (decide (xs.drop i = ys.drop i) = r) ∧ wr = w.drewN m)
    case atStart => exact ⟨0, 0, by omega, rfl, hd, rfl⟩
    case round =>
      clear hd
      obtain ⟨i, m, hgi, rfl, hd, rfl⟩ := hrel
      have n3 : IntKind.i64.wrap ((i : Int) + 1) = (i : Int) + 1 := by rw [IntKind.wrap_i64]; omega
      by_cases hi : i < nv
      · have hi1 : i < xs.length := by have := lv'.out; omega
        have hi2 : i < ys.length := by have := lu'.out; omega
        obtain ⟨g1, rfl, c1⟩ := row_str hv'.out i hi1
        obtain ⟨g2, rfl, c2⟩ := row_str hu'.out i hi2
        have hdr := hd.out
        rw [List.drop_eq_getElem_cons hi1, List.drop_eq_getElem_cons hi2] at hdr
        obtain ⟨x, hx⟩ : ∃ x, xs[i] = x := ⟨_, rfl⟩
        obtain ⟨y, hy⟩ : ∃ y, ys[i] = y := ⟨_, rfl⟩
        rw [hx] at c1 hdr
        rw [hy] at c2 hdr
        clear hx hy hi1 hi2
        obtain ⟨g', rfl⟩ : ∃ g', gk = g' + 1 := ⟨gk - 1, by omega⟩
        have b1 : (i : Int) < (nv : Int) := by omega
        by_cases hxy : x = y
        · subst hxy
          have hd' : Hid (decide (xs.drop (i + 1) = ys.drop (i + 1)) = r) := by show _ = _; rw [← hdr]; simp
          have t1 : (x.toList == x.toList) = true := by simp
          have t2 : (x.toList != x.toList) = false := by simp
          clear hdr hd
          go_wp2
          go_quiet (fail)
          go_wp2
          go_roundg g'
          case measure => omega
          case rel => exact ⟨i + 1, m + nq, by omega, by simp, hd', rfl⟩
        · have t1 : (x.toList == y.toList) = false := by rw [beq_eq_false_iff_ne]; exact fun h => hxy ((str_list_eq _ _).1 h)
          have t2 : (x.toList != y.toList) = true := by rw [bne_iff_ne]; exact fun h => hxy ((str_list_eq _ _).1 h)
          obtain rfl : r = false := by rw [← hdr]; simp [hxy]
          clear hdr hd hxy
          go_wp2
          go_quiet (fail)
          go_wp2
          go_ret
          exact ⟨rfl, m + nq, World.drewN_drewN ..⟩
      · have b1 : ¬ ((i : Int) < (nv : Int)) := by omega
        obtain rfl : r = true := by
          rw [← hd.out, List.drop_of_length_le (by have := lv'.out; omega), List.drop_of_length_le (by have := lu'.out; omega)]; simp
        clear hd
        go_wp2
        go_ret
        exact ⟨rfl, m, rfl⟩
  · have e : decide (xs = ys) = false := by
      simp only [decide_eq_false_iff_not]
      intro h; apply hn; rw [lv'.out, lu'.out, h]
    rw [e]
    have t1 : (nv == nu) = false := by simpa using hn
    have t2 : ((nv : Int) == (nu : Int)) = false := by rw [beq_eq_false_iff_ne]; omega
    have t3 : ((nv : Int) != (nu : Int)) = true := by rw [bne_iff_ne]; omega
    clear hn
    go_enter Try.func22, Try.ntmps22
    go_wp2
    go_ret
    exact ⟨rfl, 0, rfl⟩

set_option maxHeartbeats 4000000 in
set_option maxRecDepth 100000 in
theorem place15 (v : Value) (k : ByteArray) (xs : List ByteArray) (w : World) (hv : Row w 9 v (xs.map Value.string)) (hl : xs.length ≤ 1000000) :
    Calls Try.prog 15 #[v, .string k] w fun e w' => e = .returned (.int .i64 (placeM k xs : Int)) ∧ w = w' := by
  obtain ⟨av, nv, cv, rfl, lv⟩ := hv.form'
  have lv' : Hid (nv = xs.length) := by show _ = _; have := lv.out; simpa using this
  have hv' := Hid.mk' hv
  have n1 : nv ≤ 1000000 := by rw [lv'.out]; exact hl
  obtain ⟨r, hr⟩ : ∃ r, placeM k xs = r := ⟨_, rfl⟩
  rw [hr]
  have hd := Hid.mk' (show 0 + placeM k (xs.drop 0) = r by simpa using hr)
  clear lv hv hr hl
  go_enter Try.func15, Try.ntmps15
  go_wp2
  go_loopg [5] nv (fun gq s5 wr => ∃ i : Nat, i + gq = nv ∧ s5 = .int .i64 (i : Int) ∧ Hid (i + placeM k (xs.drop i) = r) ∧ wr = w)
  case atStart => exact ⟨0, by omega, rfl, hd, rfl⟩
  case round =>
    clear hd
    obtain ⟨i, hgi, rfl, hd, rfl⟩ := hrel
    have n3 : IntKind.i64.wrap ((i : Int) + 1) = (i : Int) + 1 := by rw [IntKind.wrap_i64]; omega
    by_cases hi : i < nv
    · have hi1 : i < xs.length := by have := lv'.out; omega
      obtain ⟨g1, rfl, c1⟩ := row_str hv'.out i hi1
      have hdr := hd.out
      rw [List.drop_eq_getElem_cons hi1, placeM] at hdr
      obtain ⟨x, hx⟩ : ∃ x, xs[i] = x := ⟨_, rfl⟩
      rw [hx] at c1 hdr
      clear hx hi1 hd
      obtain ⟨g', rfl⟩ : ∃ g', gk = g' + 1 := ⟨gk - 1, by omega⟩
      have b1 : (i : Int) < (nv : Int) := by omega
      by_cases hxy : x = k
      · subst hxy
        have t1 : (x.toList == x.toList) = true := by simp
        have t2 : (x.toList != x.toList) = false := by simp
        obtain rfl : i = r := by simpa using hdr
        clear hdr
        go_wp2
        go_ret
        exact ⟨rfl, rfl⟩
      · have t1 : (x.toList == k.toList) = false := by rw [beq_eq_false_iff_ne]; exact fun h => hxy ((str_list_eq _ _).1 h)
        have t2 : (x.toList != k.toList) = true := by rw [bne_iff_ne]; exact fun h => hxy ((str_list_eq _ _).1 h)
        have hd' : Hid (i + 1 + placeM k (xs.drop (i + 1)) = r) := by show _ = _; rw [← hdr, if_neg hxy]; omega
        clear hdr hxy
        go_wp2
        go_roundg g'
        case measure => omega
        case rel => exact ⟨i + 1, by omega, by simp, hd', rfl⟩
    · have b1 : ¬ ((i : Int) < (nv : Int)) := by omega
      have b2 : decide ((i : Int) < (nv : Int)) = false := by simp; omega
      have b3 : decide (i < nv) = false := by simp; omega
      obtain rfl : i = r := by
        have := hd.out
        rw [List.drop_of_length_le (by have := lv'.out; omega)] at this
        simpa [placeM] using this
      clear hd
      go_wp2
      go_ret
      exact ⟨rfl, rfl⟩
end Go.Proofs.Ytamnmoejjjaegaa
