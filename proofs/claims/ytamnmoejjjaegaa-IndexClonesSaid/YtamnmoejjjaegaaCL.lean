/- Several trees and rows side by side in memory. Conditions: degree from 2 to 32, at most 1000000 keys. -/
import Derived.Test.YtamnmoejjjaegaaOS
set_option linter.unusedVariables false
set_option linter.unusedSimpArgs false
namespace Go.Proofs.Ytamnmoejjjaegaa
open Go Go.RowKit

/-- Sets of blocks that came since w0, apart from each other. -/
structure Asun (w0 w : World) (l : List (Nat → Prop)) : Prop where
  bound : ∀ (i : Nat) (S : Nat → Prop), l[i]? = some S → ∀ k, S k → w0.heap.size ≤ k ∧ k < w.heap.size
  apart : ∀ (i j : Nat) (A B : Nat → Prop), i ≠ j → l[i]? = some A → l[j]? = some B → ∀ k, A k → ¬ B k
theorem Asun.nil (w0 w : World) : Asun w0 w [] := ⟨fun i S h => by simp at h, fun i j A B _ h => by simp at h⟩
theorem Asun.later {w0 w w' : World} {l : List (Nat → Prop)} (h : Asun w0 w l) (hw : w.heap.size ≤ w'.heap.size) : Asun w0 w' l :=
  ⟨fun i S hS k hk => ⟨(h.bound i S hS k hk).1, Nat.lt_of_lt_of_le (h.bound i S hS k hk).2 hw⟩, h.apart⟩
theorem Asun.set {w0 w w' : World} {l : List (Nat → Prop)} (h : Asun w0 w l) (h0 : w0.heap.size ≤ w.heap.size) (hw : w.heap.size ≤ w'.heap.size) (i : Nat) (S S' : Nat → Prop) (hi : l[i]? = some S) (hs : ∀ k, S' k → (S k ∨ w.heap.size ≤ k) ∧ k < w'.heap.size) : Asun w0 w' (l.set i S') := by
  constructor
  · intro j A hA k hk
    rw [List.getElem?_set] at hA
    split at hA
    · split at hA
      · cases hA
        have := hs k hk
        refine ⟨this.1.elim (fun h2 => (h.bound i S hi k h2).1) fun h2 => Nat.le_trans h0 h2, this.2⟩
      · cases hA
    · exact ⟨(h.bound j A hA k hk).1, Nat.lt_of_lt_of_le (h.bound j A hA k hk).2 hw⟩
  · intro a b A B hab hA hB k hAk hBk
    rw [List.getElem?_set] at hA hB
    split at hA
    · split at hA
      · cases hA
        rw [if_neg (by omega)] at hB
        rcases (hs k hAk).1 with h2 | h2
        · exact h.apart a b S B hab (by rename_i e _; rw [← e]; exact hi) hB k h2 hBk
        · have := (h.bound b B hB k hBk).2; omega
      · cases hA
    · split at hB
      · split at hB
        · cases hB
          rcases (hs k hBk).1 with h2 | h2
          · exact h.apart a b A S hab hA (by rename_i e _; rw [← e]; exact hi) k hAk h2
          · have := (h.bound a A hA k hAk).2; omega
        · cases hB
      · exact h.apart a b A B hab hA hB k hAk hBk
theorem Asun.push {w0 w w' : World} {l : List (Nat → Prop)} (h : Asun w0 w l) (h0 : w0.heap.size ≤ w.heap.size) (hw : w.heap.size ≤ w'.heap.size) (S' : Nat → Prop) (hs : ∀ k, S' k → w.heap.size ≤ k ∧ k < w'.heap.size) : Asun w0 w' (l ++ [S']) := by
  constructor
  · intro j A hA k hk
    by_cases hj : j < l.length
    · rw [List.getElem?_append_left hj] at hA
      exact ⟨(h.bound j A hA k hk).1, Nat.lt_of_lt_of_le (h.bound j A hA k hk).2 hw⟩
    · rw [List.getElem?_append_right (by omega)] at hA
      obtain ⟨-, rfl⟩ : j - l.length = 0 ∧ S' = A := by
        cases hq : j - l.length with
        | zero => rw [hq] at hA; exact ⟨rfl, by simpa using hA⟩
        | succ n => rw [hq] at hA; simp at hA
      exact ⟨Nat.le_trans h0 (hs k hk).1, (hs k hk).2⟩
  · intro a b A B hab hA hB k hAk hBk
    by_cases ha : a < l.length
    · rw [List.getElem?_append_left ha] at hA
      by_cases hb : b < l.length
      · rw [List.getElem?_append_left hb] at hB
        exact h.apart a b A B hab hA hB k hAk hBk
      · rw [List.getElem?_append_right (by omega)] at hB
        cases hq : b - l.length with
        | zero =>
          rw [hq] at hB
          obtain rfl : S' = B := by simpa using hB
          have := (h.bound a A hA k hAk).2; have := (hs k hBk).1; omega
        | succ n => rw [hq] at hB; simp at hB
    · rw [List.getElem?_append_right (by omega)] at hA
      cases hq : a - l.length with
      | succ n => rw [hq] at hA; simp at hA
      | zero =>
        rw [hq] at hA
        obtain rfl : S' = A := by simpa using hA
        by_cases hb : b < l.length
        · rw [List.getElem?_append_left hb] at hB
          have := (h.bound b B hB k hBk).2; have := (hs k hAk).1; omega
        · rw [List.getElem?_append_right (by omega)] at hB
          cases hq2 : b - l.length with
          | zero => omega
          | succ n => rw [hq2] at hB; simp at hB

/-- Two trees and two rows. -/
def QSt (w0 w : World) (d pt : Nat) (Lt : List E) (pu : Nat) (Lu : List E) (va : Value) (ks : List ByteArray) (vv : Value) (vs : List Int) : Prop :=
  ∃ St Su, TreeAt w pt d Lt St ∧ TreeAt w pu d Lu Su ∧ Row w 9 va (ks.map Value.string) ∧ Row w 3 vv (vs.map (Value.int .i64)) ∧ Asun w0 w [St, Su, own va, own vv] ∧ Chg NoB w0 w
/-- Three trees and two rows. -/
def CSt (w0 w : World) (d pt : Nat) (Lt : List E) (px : Nat) (Lx : List E) (pu : Nat) (Lu : List E) (va : Value) (ks : List ByteArray) (vv : Value) (vs : List Int) : Prop :=
  ∃ St Su Sx, TreeAt w pt d Lt St ∧ TreeAt w px d Lx Sx ∧ TreeAt w pu d Lu Su ∧ Row w 9 va (ks.map Value.string) ∧ Row w 3 vv (vs.map (Value.int .i64)) ∧ Asun w0 w [St, Su, own va, own vv, Sx] ∧ Chg NoB w0 w
section
variable {w0 w w' : World} {d pt pu px : Nat} {Lt Lu Lx : List E} {va vv : Value} {ks : List ByteArray} {vs : List Int}
theorem QSt.chg0 (h : QSt w0 w d pt Lt pu Lu va ks vv vs) : Chg NoB w0 w := let ⟨_, _, h⟩ := h; h.2.2.2.2.2
theorem QSt.rowA (h : QSt w0 w d pt Lt pu Lu va ks vv vs) : Row w 9 va (ks.map Value.string) := let ⟨_, _, h⟩ := h; h.2.2.1
theorem QSt.rowV (h : QSt w0 w d pt Lt pu Lu va ks vv vs) : Row w 3 vv (vs.map (Value.int .i64)) := let ⟨_, _, h⟩ := h; h.2.2.2.1
theorem QSt.get (h : QSt w0 w d pt Lt pu Lu va ks vv vs) (k : ByteArray) (hd2 : d ≤ 32) :
    Calls Try.prog 21 #[.pointer (some ⟨pt, 0, none⟩), .string k] w fun e w' => e = .returned (.tuple #[.int .i64 ((getM k Lt).getD 0), .bool (getM k Lt).isSome]) ∧ w = w' := let ⟨St, _, h⟩ := h; get21 pt d Lt k St w hd2 h.1
/-- A new row of numbers. -/
theorem QSt.vals {vv' : Value} {vs' : List Int} (h : QSt w0 w d pt Lt pu Lu va ks vv vs) (k : Chg (own vv) w w') (hr : Row w' 3 vv' (vs'.map (Value.int .i64))) (ho : ∀ j, own vv' j → own vv j ∨ w.heap.size ≤ j) : QSt w0 w' d pt Lt pu Lu va ks vv' vs' := by
  obtain ⟨St, Su, h1, h2, h3, h4, h5, h6⟩ := h
  refine ⟨St, Su, h1.chg k (h5.apart 0 3 _ _ (by decide) rfl rfl), h2.chg k (h5.apart 1 3 _ _ (by decide) rfl rfl), h3.chg k (h5.apart 2 3 _ _ (by decide) rfl rfl), hr, ?_, h6.trans' k fun j hj => .inr (h5.bound 3 _ rfl j hj).1⟩
  exact h5.set h6.size k.size 3 (own vv) (own vv') rfl fun j hj => ⟨ho j hj, hr.lt hj⟩
theorem QSt.clone (h : QSt w0 w d pt Lt pu Lu va ks vv vs) (hd2 : d ≤ 32) :
    Calls Try.prog 12 #[.pointer (some ⟨pu, 0, none⟩)] w fun e w' => ∃ r, e = .returned (.pointer (some ⟨r, 0, none⟩)) ∧ CSt w0 w' d pt Lt r Lu pu Lu va ks vv vs := by
  obtain ⟨St, Su, h1, h2, h3, h4, h5, h6⟩ := h
  refine (clone12 pu d Lu Su w hd2 h2).mono ?_
  rintro e w' ⟨r, rfl, t, k⟩
  exact ⟨r, rfl, St, Su, _, h1.chg k (fun _ _ h => h), t.there, h2.chg k (fun _ _ h => h), h3.chg k (fun _ _ h => h), h4.chg k (fun _ _ h => h), h5.push h6.size k.size _ fun j hj => hj, h6.trans k⟩
theorem CSt.chg0 (h : CSt w0 w d pt Lt px Lx pu Lu va ks vv vs) : Chg NoB w0 w := let ⟨_, _, _, h⟩ := h; h.2.2.2.2.2.2
theorem CSt.rowA (h : CSt w0 w d pt Lt px Lx pu Lu va ks vv vs) : Row w 9 va (ks.map Value.string) := let ⟨_, _, _, h⟩ := h; h.2.2.2.1
theorem CSt.rowV (h : CSt w0 w d pt Lt px Lx pu Lu va ks vv vs) : Row w 3 vv (vs.map (Value.int .i64)) := let ⟨_, _, _, h⟩ := h; h.2.2.2.2.1
theorem CSt.chg (h : CSt w0 w d pt Lt px Lx pu Lu va ks vv vs) (k : Chg NoB w w') : CSt w0 w' d pt Lt px Lx pu Lu va ks vv vs := by
  obtain ⟨St, Su, Sx, h1, h2, h3, h4, h5, h6, h7⟩ := h
  exact ⟨St, Su, Sx, h1.chg k (fun _ _ h => h), h2.chg k (fun _ _ h => h), h3.chg k (fun _ _ h => h), h4.chg k (fun _ _ h => h), h5.chg k (fun _ _ h => h), h6.later k.size, h7.trans k⟩
theorem CSt.putT (h : CSt w0 w d pt Lt px Lx pu Lu va ks vv vs) (k : ByteArray) (v : Int) (hd : 2 ≤ d) (hd2 : d ≤ 32) (hl : Lt.length ≤ 1000000) :
    Calls Try.prog 13 #[.pointer (some ⟨pt, 0, none⟩), .string k, .int .i64 v] w fun e w' => (∃ o f, e = .returned (.tuple #[.int .i64 o, .bool f])) ∧ CSt w0 w' d pt (insM k v Lt) px Lx pu Lu va ks vv vs := by
  obtain ⟨St, Su, Sx, h1, h2, h3, h4, h5, h6, h7⟩ := h
  refine (put13 pt d Lt k v St w hd hd2 hl h1).mono ?_
  rintro e w' ⟨he, t, kc⟩
  exact ⟨⟨_, _, he⟩, _, Su, Sx, t.there, h2.chg kc (h6.apart 4 0 _ _ (by decide) rfl rfl), h3.chg kc (h6.apart 1 0 _ _ (by decide) rfl rfl), h4.chg kc (h6.apart 2 0 _ _ (by decide) rfl rfl), h5.chg kc (h6.apart 3 0 _ _ (by decide) rfl rfl),
    h6.set h7.size kc.size 0 St _ rfl fun j hj => hj, h7.trans' kc fun j hj => .inr (h6.bound 0 _ rfl j hj).1⟩
theorem CSt.delT (h : CSt w0 w d pt Lt px Lx pu Lu va ks vv vs) (k : ByteArray) (hd : 2 ≤ d) (hd2 : d ≤ 32) (hl : Lt.length ≤ 1000000) :
    Calls Try.prog 11 #[.pointer (some ⟨pt, 0, none⟩), .string k] w fun e w' => (∃ o f, e = .returned (.tuple #[.int .i64 o, .bool f])) ∧ CSt w0 w' d pt (delM k Lt) px Lx pu Lu va ks vv vs := by
  obtain ⟨St, Su, Sx, h1, h2, h3, h4, h5, h6, h7⟩ := h
  refine (delete11 pt d Lt k St w hd hd2 hl h1).mono ?_
  rintro e w' ⟨he, t, kc⟩
  exact ⟨⟨_, _, he⟩, _, Su, Sx, t.there, h2.chg kc (h6.apart 4 0 _ _ (by decide) rfl rfl), h3.chg kc (h6.apart 1 0 _ _ (by decide) rfl rfl), h4.chg kc (h6.apart 2 0 _ _ (by decide) rfl rfl), h5.chg kc (h6.apart 3 0 _ _ (by decide) rfl rfl),
    h6.set h7.size kc.size 0 St _ rfl fun j hj => hj, h7.trans' kc fun j hj => .inr (h6.bound 0 _ rfl j hj).1⟩
theorem CSt.putX (h : CSt w0 w d pt Lt px Lx pu Lu va ks vv vs) (k : ByteArray) (v : Int) (hd : 2 ≤ d) (hd2 : d ≤ 32) (hl : Lx.length ≤ 1000000) :
    Calls Try.prog 13 #[.pointer (some ⟨px, 0, none⟩), .string k, .int .i64 v] w fun e w' => (∃ o f, e = .returned (.tuple #[.int .i64 o, .bool f])) ∧ CSt w0 w' d pt Lt px (insM k v Lx) pu Lu va ks vv vs := by
  obtain ⟨St, Su, Sx, h1, h2, h3, h4, h5, h6, h7⟩ := h
  refine (put13 px d Lx k v Sx w hd hd2 hl h2).mono ?_
  rintro e w' ⟨he, t, kc⟩
  exact ⟨⟨_, _, he⟩, St, Su, _, h1.chg kc (h6.apart 0 4 _ _ (by decide) rfl rfl), t.there, h3.chg kc (h6.apart 1 4 _ _ (by decide) rfl rfl), h4.chg kc (h6.apart 2 4 _ _ (by decide) rfl rfl), h5.chg kc (h6.apart 3 4 _ _ (by decide) rfl rfl),
    h6.set h7.size kc.size 4 Sx _ rfl fun j hj => hj, h7.trans' kc fun j hj => .inr (h6.bound 4 _ rfl j hj).1⟩
theorem CSt.delX (h : CSt w0 w d pt Lt px Lx pu Lu va ks vv vs) (k : ByteArray) (hd : 2 ≤ d) (hd2 : d ≤ 32) (hl : Lx.length ≤ 1000000) :
    Calls Try.prog 11 #[.pointer (some ⟨px, 0, none⟩), .string k] w fun e w' => (∃ o f, e = .returned (.tuple #[.int .i64 o, .bool f])) ∧ CSt w0 w' d pt Lt px (delM k Lx) pu Lu va ks vv vs := by
  obtain ⟨St, Su, Sx, h1, h2, h3, h4, h5, h6, h7⟩ := h
  refine (delete11 px d Lx k Sx w hd hd2 hl h2).mono ?_
  rintro e w' ⟨he, t, kc⟩
  exact ⟨⟨_, _, he⟩, St, Su, _, h1.chg kc (h6.apart 0 4 _ _ (by decide) rfl rfl), t.there, h3.chg kc (h6.apart 1 4 _ _ (by decide) rfl rfl), h4.chg kc (h6.apart 2 4 _ _ (by decide) rfl rfl), h5.chg kc (h6.apart 3 4 _ _ (by decide) rfl rfl),
    h6.set h7.size kc.size 4 Sx _ rfl fun j hj => hj, h7.trans' kc fun j hj => .inr (h6.bound 4 _ rfl j hj).1⟩
theorem CSt.checkT (h : CSt w0 w d pt Lt px Lx pu Lu va ks vv vs) (hd : 2 ≤ d) (hd2 : d ≤ 32) (hl : Lt.length ≤ 1000000) :
    Calls Try.prog 14 #[.pointer (some ⟨pt, 0, none⟩)] w fun e w' => e = .returned (.bool true) ∧ CSt w0 w' d pt Lt px Lx pu Lu va ks vv vs :=
  let h9 := h; let ⟨St, _, _, h⟩ := h; (check14 pt d Lt St w hd hd2 hl h.1).mono fun _ _ ⟨he, k⟩ => ⟨he, h9.chg k⟩
theorem CSt.checkX (h : CSt w0 w d pt Lt px Lx pu Lu va ks vv vs) (hd : 2 ≤ d) (hd2 : d ≤ 32) (hl : Lx.length ≤ 1000000) :
    Calls Try.prog 14 #[.pointer (some ⟨px, 0, none⟩)] w fun e w' => e = .returned (.bool true) ∧ CSt w0 w' d pt Lt px Lx pu Lu va ks vv vs :=
  let h9 := h; let ⟨_, _, Sx, h⟩ := h; (check14 px d Lx Sx w hd hd2 hl h.2.1).mono fun _ _ ⟨he, k⟩ => ⟨he, h9.chg k⟩
theorem CSt.checkU (h : CSt w0 w d pt Lt px Lx pu Lu va ks vv vs) (hd : 2 ≤ d) (hd2 : d ≤ 32) (hl : Lu.length ≤ 1000000) :
    Calls Try.prog 14 #[.pointer (some ⟨pu, 0, none⟩)] w fun e w' => e = .returned (.bool true) ∧ CSt w0 w' d pt Lt px Lx pu Lu va ks vv vs :=
  let h9 := h; let ⟨_, Su, _, h⟩ := h; (check14 pu d Lu Su w hd hd2 hl h.2.2.1).mono fun _ _ ⟨he, k⟩ => ⟨he, h9.chg k⟩
theorem CSt.lenU (h : CSt w0 w d pt Lt px Lx pu Lu va ks vv vs) : Calls Try.prog 17 #[.pointer (some ⟨pu, 0, none⟩)] w fun e w' => e = .returned (.int .i64 (Lu.length : Int)) ∧ w = w' := let ⟨_, Su, _, h⟩ := h; len17 pu d Lu Su w h.2.2.1
theorem CSt.getU (h : CSt w0 w d pt Lt px Lx pu Lu va ks vv vs) (k : ByteArray) (hd2 : d ≤ 32) :
    Calls Try.prog 21 #[.pointer (some ⟨pu, 0, none⟩), .string k] w fun e w' => e = .returned (.tuple #[.int .i64 ((getM k Lu).getD 0), .bool (getM k Lu).isSome]) ∧ w = w' := let ⟨_, Su, _, h⟩ := h; get21 pu d Lu k Su w hd2 h.2.2.1
theorem CSt.rangeU (h : CSt w0 w d pt Lt px Lx pu Lu va ks vv vs) (pre : ByteArray) (most : Int) (hd2 : d ≤ 32) (hl : Lu.length ≤ 1000) :
    Calls Try.prog 18 #[.pointer (some ⟨pu, 0, none⟩), .string pre, .int .i64 most] w fun e w' => ∃ v, e = .returned v ∧ Row w' 9 v ((rangeM pre most Lu).map sv) ∧ CSt w0 w' d pt Lt px Lx pu Lu va ks vv vs :=
  let h9 := h; let ⟨_, Su, _, h⟩ := h
  (range18 w pu d Lu Su pre most hd2 hl h.2.2.1).mono fun _ _ ⟨v, he, hr, _, k1⟩ => ⟨v, he, hr, h9.chg k1⟩
/-- A tree, its copy, a row of keys that Range made, and an empty row. -/
theorem QSt.start {w1 w2 : World} (h : TS w0 w pt d Lt) (t : TreeAt w1 pu d Lt (fun j => w.heap.size ≤ j)) (k1 : Chg NoB w w1) (k2 : Chg NoB w1 w2) (hr : Row w2 9 va (ks.map Value.string)) (ho : ∀ k, own va k → w1.heap.size ≤ k) :
    QSt w0 (w2.alloc (.cells #[] 3)) d pt Lt pu Lt va ks (.slice (some ⟨w2.heap.size, 0, none⟩) 0 0) [] := by
  have kz : Chg NoB w2 (w2.alloc (.cells #[] 3)) := (Chg.refl _ _).alloc _
  have s1 : Asun w0 w [fun j => w0.heap.size ≤ j ∧ j < w.heap.size] := by
    have := (Asun.nil w0 w0).push (w' := w) (Nat.le_refl _) h.2.size (fun j => w0.heap.size ≤ j ∧ j < w.heap.size) fun j hj => hj
    simpa using this
  have s2 := s1.push (w' := w1) h.2.size k1.size (fun j => w.heap.size ≤ j ∧ j < w1.heap.size) fun j hj => hj
  have s3 := s2.push (w' := w2) (h.2.trans k1).size k2.size (own va) fun j hj => ⟨ho j hj, hr.lt hj⟩
  have s4 := s3.push (w' := w2.alloc (.cells #[] 3)) ((h.2.trans k1).trans k2).size kz.size (own (.slice (some ⟨w2.heap.size, 0, none⟩) 0 0)) fun j hj => by
    rw [own_slice] at hj; subst hj; exact ⟨Nat.le_refl _, by simp⟩
  exact ⟨_, _, h.1.there.chg ((k1.trans k2).trans kz) (fun _ _ h => h), t.there.chg (k2.trans kz) (fun _ _ h => h), hr.chg kz (fun _ _ h => h), Row.lit0 w2 3, s4, ((h.2.trans k1).trans k2).trans kz⟩
end
theorem getM_at {L : List E} (ha : Asc L) (i : Nat) (k : ByteArray) (y : Int) (h : L[i]? = some (k, y)) : getM k L = some y := by
  obtain ⟨hi, he⟩ := List.getElem?_eq_some_iff.1 h
  have e : L = L.take i ++ (k, y) :: L.drop (i + 1) := by
    conv => lhs; rw [← List.take_append_drop i L, List.drop_eq_getElem_cons hi, he]
  have ha2 := ha
  rw [e] at ha2 ⊢
  obtain ⟨g1, g2⟩ := asc_hit ha2
  rw [getM_lt g1, getM_hit]
end Go.Proofs.Ytamnmoejjjaegaa
