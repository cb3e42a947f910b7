/- What the closure of (*node).lacking, (*node).lacking and (*node).end return. No conditions beyond the lengths. -/
import Derived.Test.YtamnmoejjjaegaaN0
import Derived.Test.YtamnmoejjjaegaaH
import Derived.BigQuiet
import Derived.Deep.LoopGhost
set_option linter.unusedVariables false
set_option linter.unusedSimpArgs false
namespace Go.Proofs.Ytamnmoejjjaegaa
open Go Go.RowKit

set_option maxHeartbeats 1000000 in
theorem rich_neg (k : Int) (p1 p2 : Addr) (w : World) (hk : k < 0) :
    Calls Try.prog 62 #[.int .i64 k, .pointer (some p1), .pointer (some p2)] w fun e w' => e = .returned (.bool false) ∧ ∃ q, w' = w.drewN q := by
  have h1 : decide (0 ≤ k) = false := by simp; omega
  go_enter Try.func62, Try.ntmps62
  go_wp2_with fail
  go_quiet (fail)
  go_wp2_with fail
  go_ret
  exact ⟨rfl, _, rfl⟩

set_option maxHeartbeats 1000000 in
theorem rich_out (k : Nat) (b1 b2 n : Nat) (ac : Option Addr) (nc cc : Nat) (w : World) (hk : nc ≤ k)
    (h1 : w.cell? ⟨b1, 0, none⟩ = some (.pointer (some ⟨n, 0, none⟩))) (h3 : w.cell? ⟨n, 2, none⟩ = some (.slice ac nc cc)) :
    Calls Try.prog 62 #[.int .i64 k, .pointer (some ⟨b1, 0, none⟩), .pointer (some ⟨b2, 0, none⟩)] w fun e w' => e = .returned (.bool false) ∧ ∃ q, w' = w.drewN q := by
  have g1 : decide (0 ≤ (k : Int)) = true := by simp
  have g2 : decide (k < nc) = false := by simp; omega
  have g3 : decide ((k : Int) < (nc : Int)) = false := by simp; omega
  go_enter Try.func62, Try.ntmps62
  go_wp2_with fail
  go_quiet (fail)
  go_wp2_with fail
  go_ret
  exact ⟨rfl, _, rfl⟩

set_option maxHeartbeats 1000000 in
theorem rich_in (k : Nat) (b1 b2 n gc q : Nat) (ak : Option Addr) (nk ck : Nat) (d : Int) (nc cc : Nat) (f : Bool) (w : World) (hk : k < nc) (hf : decide (d ≤ (nk : Int)) = f)
    (h1 : w.cell? ⟨b1, 0, none⟩ = some (.pointer (some ⟨n, 0, none⟩))) (h2 : w.cell? ⟨b2, 0, none⟩ = some (.int .i64 d)) (h3 : w.cell? ⟨n, 2, none⟩ = some (.slice (some ⟨gc, 0, none⟩) nc cc))
    (h4 : w.cell? ⟨gc, k, none⟩ = some (.pointer (some ⟨q, 0, none⟩))) (h5 : w.cell? ⟨q, 0, none⟩ = some (.slice ak nk ck)) :
    Calls Try.prog 62 #[.int .i64 k, .pointer (some ⟨b1, 0, none⟩), .pointer (some ⟨b2, 0, none⟩)] w fun e w' => e = .returned (.bool f) ∧ ∃ q, w' = w.drewN q := by
  have g1 : decide (0 ≤ (k : Int)) = true := by simp
  have g2 : decide (k < nc) = true := by simp; omega
  have g3 : decide ((k : Int) < (nc : Int)) = true := by simp; omega
  have g4 : (k : Int) < (nc : Int) := by omega
  go_enter Try.func62, Try.ntmps62
  go_wp2_with fail
  go_quiet (fail)
  go_wp2_with fail
  go_ret
  exact ⟨rfl, _, rfl⟩

/-- The closure of lacking: is there a child k with at least d keys? -/
theorem rich_any (k : Int) (b1 b2 n : Nat) (d : Int) (ac : Option Addr) (bs : List Nat) (nc cc : Nat) (lens : Nat → Nat) (r : Bool) (w : World) (hn : nc = bs.length)
    (hr : r = true ↔ (0 ≤ k ∧ k < bs.length ∧ d ≤ lens k.toNat))
    (h1 : w.cell? ⟨b1, 0, none⟩ = some (.pointer (some ⟨n, 0, none⟩))) (h2 : w.cell? ⟨b2, 0, none⟩ = some (.int .i64 d)) (h3 : w.cell? ⟨n, 2, none⟩ = some (.slice ac nc cc))
    (hb : Row w 48 (.slice ac nc cc) (bs.map pv)) (hl : ∀ j (h : j < bs.length), ∃ ak ck, w.cell? ⟨bs[j], 0, none⟩ = some (.slice ak (lens j) ck)) :
    Calls Try.prog 62 #[.int .i64 k, .pointer (some ⟨b1, 0, none⟩), .pointer (some ⟨b2, 0, none⟩)] w fun e w' => e = .returned (.bool r) ∧ ∃ q, w' = w.drewN q := by
  subst hn
  by_cases hk : k < 0
  · have : r = false := by
      cases r
      · rfl
      · have := hr.1 rfl; omega
    subst this
    exact rich_neg k _ _ w hk
  · obtain ⟨k, rfl⟩ := Int.eq_ofNat_of_zero_le (show 0 ≤ k by omega)
    by_cases hk2 : bs.length ≤ k
    · have : r = false := by
        cases r
        · rfl
        · have := hr.1 rfl; omega
      subst this
      exact rich_out k b1 b2 n ac _ cc w hk2 h1 h3
    · obtain ⟨gc, rfl, _, hc, _⟩ := hb.at (by simp; omega)
      obtain ⟨ak, ck, h5⟩ := hl k (by omega)
      refine rich_in k b1 b2 n gc (bs[k]'(by omega)) ak (lens k) ck d _ cc r w (by omega) ?_ h1 h2 h3 (hc k _ (by rw [List.getElem?_map, List.getElem?_eq_getElem (by omega)]; rfl)) h5
      rw [Int.toNat_natCast] at hr
      cases r
      · simp only [decide_eq_false_iff_not]
        intro h; have := hr.2 ⟨by omega, by omega, h⟩; cases this
      · simp only [decide_eq_true_iff]
        exact (hr.1 rfl).2.2

/-- What lacking returns. -/
def lackC (m : Nat) (lens : Nat → Nat) (i d : Nat) : Nat :=
  if d ≤ lens i then 0 else if 1 ≤ i ∧ d ≤ lens (i - 1) then 1 else if i + 1 < m ∧ d ≤ lens (i + 1) then 2 else if 0 < i then 3 else 4

set_option maxHeartbeats 4000000 in
set_option maxRecDepth 100000 in
theorem lacking52 (n i d : Nat) (vi vd : Int) (vk vv vc : Value) (ks : List ByteArray) (vs : List Int) (bs : List Nat) (lens : Nat → Nat) (w : World) (hN : Nd w n vk vv vc ks vs bs) (hi : i < bs.length) (hvi : vi = i) (hvd : vd = d) (hb : bs.length ≤ 1000)
    (hl : ∀ j (h : j < bs.length), ∃ ak ck, w.cell? ⟨bs[j], 0, none⟩ = some (.slice ak (lens j) ck)) :
    Calls Try.prog 52 #[.pointer (some ⟨n, 0, none⟩), .int .i64 vi, .int .i64 vd] w fun e w' => e = .returned (.int .i64 (lackC bs.length lens i d)) ∧ Chg NoB w w' := by
  subst hvi hvd
  obtain ⟨ak, nk, ck, av, nv, cv, ac, nc, cc, rfl, rfl, rfl, lk0, lv0, lc0⟩ := hN.form'
  have hrow := hN.rc
  have hc2 := hN.c2
  obtain ⟨b1, hb1⟩ : ∃ b1, b1 = w.heap.size := ⟨_, rfl⟩
  -- the world behind the two boxes
  obtain ⟨W, hW⟩ : ∃ W, W = (w.alloc (.cells #[.pointer (some ⟨n, 0, none⟩)] 48)).alloc (.cells #[.int .i64 d] 3) := ⟨_, rfl⟩
  have kW : Chg NoB w W := by rw [hW]; exact ((Chg.refl _ _).alloc _).alloc _
  have e1 : W.cell? ⟨b1, 0, none⟩ = some (.pointer (some ⟨n, 0, none⟩)) := by
    rw [hW, hb1]
    exact Lib.cell?_alloc_some _ (by rw [cell_of_row _ _ 0 _ _ _ (heap_alloc_new w _)]; rfl)
  have e2 : W.cell? ⟨b1 + 1, 0, none⟩ = some (.int .i64 d) := by
    rw [hW, hb1]
    have := heap_alloc_new (w.alloc (.cells #[.pointer (some ⟨n, 0, none⟩)] 48)) (.cells #[Value.int .i64 (d : Int)] 3)
    rw [show (w.alloc (.cells #[.pointer (some ⟨n, 0, none⟩)] 48)).heap.size = w.heap.size + 1 by simp] at this
    rw [cell_of_row _ _ 0 _ _ _ this]; rfl
  have e3 := kW.cell (fun h => h) hc2
  have e4 := hrow.chg kW (fun _ _ h => h)
  have e5 : ∀ j (h : j < bs.length), ∃ ak ck, W.cell? ⟨bs[j], 0, none⟩ = some (.slice ak (lens j) ck) := fun j h => by
    obtain ⟨a, c, hh⟩ := hl j h
    exact ⟨a, c, kW.cell (fun h => h) hh⟩
  have rich : ∀ (q : Nat) (k : Int) (r : Bool), (r = true ↔ (0 ≤ k ∧ k < bs.length ∧ (d : Int) ≤ lens k.toNat)) →
      Calls Try.prog 62 #[.int .i64 k, .pointer (some ⟨b1, 0, none⟩), .pointer (some ⟨b1 + 1, 0, none⟩)] (W.drewN q) fun e w' => e = .returned (.bool r) ∧ ∃ q', w' = W.drewN q' := fun q k r hr =>
    (rich_any k b1 (b1 + 1) n d ac bs nc cc lens r (W.drewN q) lc0.out hr e1 e2 e3 e4 e5).mono fun e w' ⟨h, q', hq⟩ => ⟨h, q + q', by rw [hq, World.drewN_drewN]⟩
  have rich' := Hid.mk' rich
  have kW' := Hid.mk' kW
  have hW' := Hid.mk' hW
  have i1000 : i ≤ 1000 := by omega
  obtain ⟨r0, hr0⟩ : ∃ r : Bool, r = true ↔ (0 ≤ (i : Int) ∧ (i : Int) < bs.length ∧ (d : Int) ≤ lens (i : Int).toNat) := ⟨decide _, decide_eq_true_iff⟩
  obtain ⟨r1, hr1⟩ : ∃ r : Bool, r = true ↔ (0 ≤ (i : Int) - 1 ∧ (i : Int) - 1 < bs.length ∧ (d : Int) ≤ lens ((i : Int) - 1).toNat) := ⟨decide _, decide_eq_true_iff⟩
  obtain ⟨r2, hr2⟩ : ∃ r : Bool, r = true ↔ (0 ≤ (i : Int) + 1 ∧ (i : Int) + 1 < bs.length ∧ (d : Int) ≤ lens ((i : Int) + 1).toNat) := ⟨decide _, decide_eq_true_iff⟩
  have p0 := Hid.mk' hr0
  have p1 := Hid.mk' hr1
  have p2 := Hid.mk' hr2
  obtain ⟨r3, hr3⟩ : ∃ r : Bool, decide (0 < i) = r := ⟨_, rfl⟩
  have hC : (lackC bs.length lens i d : Int) = if r0 = true then 0 else if r1 = true then 1 else if r2 = true then 2 else if r3 = true then 3 else 4 := by
    have q0 : r0 = true ↔ d ≤ lens i := by rw [hr0, Int.toNat_natCast]; constructor <;> intro h <;> omega
    have q1 : r1 = true ↔ (1 ≤ i ∧ d ≤ lens (i - 1)) := by
      rw [hr1, show ((i : Int) - 1).toNat = i - 1 by omega]; constructor <;> intro h <;> omega
    have q2 : r2 = true ↔ (i + 1 < bs.length ∧ d ≤ lens (i + 1)) := by
      rw [hr2, show ((i : Int) + 1).toNat = i + 1 by omega]; constructor <;> intro h <;> omega
    have q3 : r3 = true ↔ 0 < i := by rw [← hr3]; simp
    unfold lackC
    by_cases c0 : d ≤ lens i
    · rw [if_pos c0, if_pos (q0.2 c0)]; rfl
    · rw [if_neg c0, if_neg (fun h => c0 (q0.1 h))]
      by_cases c1 : 1 ≤ i ∧ d ≤ lens (i - 1)
      · rw [if_pos c1, if_pos (q1.2 c1)]; rfl
      · rw [if_neg c1, if_neg (fun h => c1 (q1.1 h))]
        by_cases c2 : i + 1 < bs.length ∧ d ≤ lens (i + 1)
        · rw [if_pos c2, if_pos (q2.2 c2)]; rfl
        · rw [if_neg c2, if_neg (fun h => c2 (q2.1 h))]
          by_cases c3 : 0 < i
          · rw [if_pos c3, if_pos (q3.2 c3)]; rfl
          · rw [if_neg c3, if_neg (fun h => c3 (q3.1 h))]; rfl
  rw [hC]
  have hb1' := Hid.mk' hb1
  clear hC hr0 hr1 hr2 rich kW e1 e2 e3 e4 e5 hl hrow hN hc2 lk0 lv0 lc0 hb hW hb1
  have rich0 : Calls Try.prog 62 #[.int .i64 i, .pointer (some ⟨b1, 0, none⟩), .pointer (some ⟨b1 + 1, 0, none⟩)] W fun e w' => e = .returned (.bool r0) ∧ ∃ q', w' = W.drewN q' := rich'.out 0 i r0 p0.out
  replace rich0 := Hid.mk' rich0
  have rich1 : Hid (∀ q, Calls Try.prog 62 #[.int .i64 ((i : Int) - 1), .pointer (some ⟨b1, 0, none⟩), .pointer (some ⟨b1 + 1, 0, none⟩)] (W.drewN q) fun e w' => e = .returned (.bool r1) ∧ ∃ q', w' = W.drewN q') := fun q => rich'.out q _ r1 p1.out
  have rich2 : Hid (∀ q, Calls Try.prog 62 #[.int .i64 ((i : Int) + 1), .pointer (some ⟨b1, 0, none⟩), .pointer (some ⟨b1 + 1, 0, none⟩)] (W.drewN q) fun e w' => e = .returned (.bool r2) ∧ ∃ q', w' = W.drewN q') := fun q => rich'.out q _ r2 p2.out
  clear p0 p1 p2 rich'
  cases r0
  · cases r1
    · cases r2
      · cases r3
        · refine Calls.mono (R := fun e w' => e = .returned (.int .i64 4) ∧ Chg NoB w w') ?_ (fun e w' h => by simpa using h)
          go_enter Try.func52, Try.ntmps52
          go_wp2_with fail
          rw [← hW'.out, ← hb1'.out]
          refine rich0.out.mono ?_
          rintro e w' ⟨rfl, q0, rfl⟩
          go_wp2_with fail
          refine (rich1.out q0).mono ?_
          rintro e w' ⟨rfl, q1, rfl⟩
          go_wp2_with fail
          refine (rich2.out q1).mono ?_
          rintro e w' ⟨rfl, q2, rfl⟩
          go_wp2_with fail
          go_ret
          exact ⟨rfl, kW'.out.drewN _⟩
        · refine Calls.mono (R := fun e w' => e = .returned (.int .i64 3) ∧ Chg NoB w w') ?_ (fun e w' h => by simpa using h)
          go_enter Try.func52, Try.ntmps52
          go_wp2_with fail
          rw [← hW'.out, ← hb1'.out]
          refine rich0.out.mono ?_
          rintro e w' ⟨rfl, q0, rfl⟩
          go_wp2_with fail
          refine (rich1.out q0).mono ?_
          rintro e w' ⟨rfl, q1, rfl⟩
          go_wp2_with fail
          refine (rich2.out q1).mono ?_
          rintro e w' ⟨rfl, q2, rfl⟩
          go_wp2_with fail
          go_ret
          exact ⟨rfl, kW'.out.drewN _⟩
      · refine Calls.mono (R := fun e w' => e = .returned (.int .i64 2) ∧ Chg NoB w w') ?_ (fun e w' h => by simpa using h)
        go_enter Try.func52, Try.ntmps52
        go_wp2_with fail
        rw [← hW'.out, ← hb1'.out]
        refine rich0.out.mono ?_
        rintro e w' ⟨rfl, q0, rfl⟩
        go_wp2_with fail
        refine (rich1.out q0).mono ?_
        rintro e w' ⟨rfl, q1, rfl⟩
        go_wp2_with fail
        refine (rich2.out q1).mono ?_
        rintro e w' ⟨rfl, q2, rfl⟩
        go_wp2_with fail
        go_ret
        exact ⟨rfl, kW'.out.drewN _⟩
    · refine Calls.mono (R := fun e w' => e = .returned (.int .i64 1) ∧ Chg NoB w w') ?_ (fun e w' h => by simpa using h)
      go_enter Try.func52, Try.ntmps52
      go_wp2_with fail
      rw [← hW'.out, ← hb1'.out]
      refine rich0.out.mono ?_
      rintro e w' ⟨rfl, q0, rfl⟩
      go_wp2_with fail
      refine (rich1.out q0).mono ?_
      rintro e w' ⟨rfl, q1, rfl⟩
      go_wp2_with fail
      go_ret
      exact ⟨rfl, kW'.out.drewN _⟩
  · refine Calls.mono (R := fun e w' => e = .returned (.int .i64 0) ∧ Chg NoB w w') ?_ (fun e w' h => by simpa using h)
    go_enter Try.func52, Try.ntmps52
    go_wp2_with fail
    rw [← hW'.out, ← hb1'.out]
    refine rich0.out.mono ?_
    rintro e w' ⟨rfl, q0, rfl⟩
    go_wp2_with fail
    go_ret
    exact ⟨rfl, kW'.out.drewN _⟩
end Go.Proofs.Ytamnmoejjjaegaa
