/- What lives returns; calls on one tree of its own. Conditions: degree from 2 to 32, at most 1000000 keys. -/
import Derived.Test.YtamnmoejjjaegaaZ
import Derived.Test.YtamnmoejjjaegaaL
import Derived.Test.YtamnmoejjjaegaaJ
set_option linter.unusedVariables false
set_option linter.unusedSimpArgs false
namespace Go.Proofs.Ytamnmoejjjaegaa
open Go Go.RowKit

/-- A tree in memory that came since w0; nothing of w0 has changed. -/
def TS (w0 w : World) (p d : Nat) (l : List E) : Prop := TreeAt w p d l (fun j => w0.heap.size ≤ j) ∧ Chg NoB w0 w
theorem TS.chg {w0 w w' : World} {p d : Nat} {l : List E} (h : TS w0 w p d l) (k : Chg NoB w w') : TS w0 w' p d l := ⟨h.1.chg k fun _ _ h => h, h.2.trans k⟩
theorem TS.new {w0 w : World} (h0 : Chg NoB w0 w) (d : Nat) (vd : Int) (hd : 2 ≤ d) (hd2 : d ≤ 32) (hvd : vd = d) : Calls Try.prog 10 #[.int .i64 vd] w fun e w' => ∃ p, e = .returned (.pointer (some ⟨p, 0, none⟩)) ∧ TS w0 w' p d [] :=
  (new_good d vd w hd hd2 hvd).mono fun e w' ⟨p, he, h1, h2⟩ => ⟨p, he, h1.mono fun j hj => Nat.le_trans h0.size hj, h0.trans h2⟩
theorem TS.put {w0 w : World} {p d : Nat} {l : List E} (h : TS w0 w p d l) (k : ByteArray) (v : Int) (hd : 2 ≤ d) (hd2 : d ≤ 32) (hl : l.length ≤ 1000000) :
    Calls Try.prog 13 #[.pointer (some ⟨p, 0, none⟩), .string k, .int .i64 v] w fun e w' => e = .returned (.tuple #[.int .i64 ((getM k l).getD 0), .bool (getM k l).isSome]) ∧ TS w0 w' p d (insM k v l) :=
  (put13 p d l k v _ w hd hd2 hl h.1).mono fun e w' ⟨he, h1, h2⟩ => ⟨he, h1.mono fun j hj => hj.elim id fun hj => Nat.le_trans h.2.size hj, h.2.trans' h2 fun j hj => .inr hj⟩
theorem TS.del {w0 w : World} {p d : Nat} {l : List E} (h : TS w0 w p d l) (k : ByteArray) (hd : 2 ≤ d) (hd2 : d ≤ 32) (hl : l.length ≤ 1000000) :
    Calls Try.prog 11 #[.pointer (some ⟨p, 0, none⟩), .string k] w fun e w' => e = .returned (.tuple #[.int .i64 ((getM k l).getD 0), .bool (getM k l).isSome]) ∧ TS w0 w' p d (delM k l) :=
  (delete11 p d l k _ w hd hd2 hl h.1).mono fun e w' ⟨he, h1, h2⟩ => ⟨he, h1.mono fun j hj => hj.elim id fun hj => Nat.le_trans h.2.size hj, h.2.trans' h2 fun j hj => .inr hj⟩
theorem TS.clone {w0 w : World} {p d : Nat} {l : List E} (h : TS w0 w p d l) (hd2 : d ≤ 32) :
    Calls Try.prog 12 #[.pointer (some ⟨p, 0, none⟩)] w fun e w' => ∃ r, e = .returned (.pointer (some ⟨r, 0, none⟩)) ∧ TS w0 w' r d l :=
  (clone12 p d l _ w hd2 h.1).mono fun e w' ⟨r, he, h1, h2⟩ => ⟨r, he, h1.mono fun j hj => Nat.le_trans h.2.size hj, h.2.trans h2⟩
theorem TS.check {w0 w : World} {p d : Nat} {l : List E} (h : TS w0 w p d l) (hd : 2 ≤ d) (hd2 : d ≤ 32) (hl : l.length ≤ 1000000) :
    Calls Try.prog 14 #[.pointer (some ⟨p, 0, none⟩)] w fun e w' => e = .returned (.bool true) ∧ TS w0 w' p d l :=
  (check14 p d l _ w hd hd2 hl h.1).mono fun e w' ⟨he, h1⟩ => ⟨he, h.chg h1⟩
theorem TS.next {w0 w : World} {p d : Nat} {l : List E} (h : TS w0 w p d l) (k : ByteArray) (eq : Bool) (hd2 : d ≤ 32) :
    Calls Try.prog 16 #[.pointer (some ⟨p, 0, none⟩), .string k, .bool eq] w fun e w' => e = .returned (.tuple #[.string (keyO (nextM k eq l)), .int .i64 (valO (nextM k eq l)), .bool (nextM k eq l).isSome]) ∧ TS w0 w' p d l :=
  (next16 p d l k eq _ w hd2 h.1).mono fun e w' ⟨he, h1⟩ => ⟨he, h.chg h1⟩
theorem TS.len {w0 w : World} {p d : Nat} {l : List E} (h : TS w0 w p d l) :
    Calls Try.prog 17 #[.pointer (some ⟨p, 0, none⟩)] w fun e w' => e = .returned (.int .i64 (l.length : Int)) ∧ w = w' := len17 p d l _ w h.1

theorem kl_data (a b : ByteArray) : kl a b = Op.bytesLess a.data.toList b.data.toList := by unfold kl; rw [data_toList, data_toList]
theorem kl_ab : kl ⟨#[97]⟩ ⟨#[98]⟩ = true := by rw [kl_data]; decide
theorem kl_ba : kl ⟨#[98]⟩ ⟨#[97]⟩ = false := by rw [kl_data]; decide
theorem ne_ab : (⟨#[98]⟩ : ByteArray) ≠ ⟨#[97]⟩ := fun h => by have := congrArg ByteArray.data h; revert this; decide

set_option maxHeartbeats 4000000 in
set_option maxRecDepth 100000 in
theorem lives8 (w : World) : Calls Try.prog 8 #[] w fun e w' => e = .returned (.bool true) ∧ Chg NoB w w' := by
  have l1 : insM ⟨#[98]⟩ 2 [] = [(⟨#[98]⟩, 2)] := rfl
  have l2 : insM ⟨#[97]⟩ 1 [(⟨#[98]⟩, 2)] = [(⟨#[97]⟩, 1), (⟨#[98]⟩, 2)] := by simp [insM, kl_ba, ne_ab]
  have g3 : getM ⟨#[97]⟩ [(⟨#[97]⟩, 1), (⟨#[98]⟩, 2)] = some 1 := by simp [getM]
  have l3 : insM ⟨#[97]⟩ 5 [(⟨#[97]⟩, 1), (⟨#[98]⟩, 2)] = [(⟨#[97]⟩, 5), (⟨#[98]⟩, 2)] := by simp [insM, kl_irrefl]
  have n4 : nextM ⟨#[97]⟩ false [(⟨#[97]⟩, 5), (⟨#[98]⟩, 2)] = some (⟨#[98]⟩, 2) := by simp [nextM, kl_irrefl, kl_ab]
  have p1 := TS.new (Chg.refl NoB w) 2 2 (by omega) (by omega) rfl
  have p1' := Hid.mk' p1
  have c1 : ∀ w1 p, TS w w1 p 2 [] → Calls Try.prog 13 #[.pointer (some ⟨p, 0, none⟩), .string ⟨#[98]⟩, .int .i64 2] w1 fun e w' => (∃ o f, e = .returned (.tuple #[.int .i64 o, .bool f])) ∧ TS w w' p 2 [(⟨#[98]⟩, 2)] := fun w1 p h =>
    (h.put ⟨#[98]⟩ 2 (by omega) (by omega) (by simp)).mono fun e w' ⟨he, h⟩ => ⟨⟨_, _, he⟩, by rwa [l1] at h⟩
  have c2 : ∀ w1 p, TS w w1 p 2 [(⟨#[98]⟩, 2)] → Calls Try.prog 13 #[.pointer (some ⟨p, 0, none⟩), .string ⟨#[97]⟩, .int .i64 1] w1 fun e w' => (∃ o f, e = .returned (.tuple #[.int .i64 o, .bool f])) ∧ TS w w' p 2 [(⟨#[97]⟩, 1), (⟨#[98]⟩, 2)] := fun w1 p h =>
    (h.put ⟨#[97]⟩ 1 (by omega) (by omega) (by simp)).mono fun e w' ⟨he, h⟩ => ⟨⟨_, _, he⟩, by rwa [l2] at h⟩
  have c3 : ∀ w1 p, TS w w1 p 2 [(⟨#[97]⟩, 1), (⟨#[98]⟩, 2)] → Calls Try.prog 13 #[.pointer (some ⟨p, 0, none⟩), .string ⟨#[97]⟩, .int .i64 5] w1 fun e w' => e = .returned (.tuple #[.int .i64 1, .bool true]) ∧ TS w w' p 2 [(⟨#[97]⟩, 5), (⟨#[98]⟩, 2)] := fun w1 p h =>
    (h.put ⟨#[97]⟩ 5 (by omega) (by omega) (by simp)).mono fun e w' ⟨he, h⟩ => ⟨by rw [he, g3]; rfl, by rwa [l3] at h⟩
  have c4 : ∀ w1 p, TS w w1 p 2 [(⟨#[97]⟩, 5), (⟨#[98]⟩, 2)] → Calls Try.prog 16 #[.pointer (some ⟨p, 0, none⟩), .string ⟨#[97]⟩, .bool false] w1 fun e w' => e = .returned (.tuple #[.string ⟨#[98]⟩, .int .i64 2, .bool true]) ∧ TS w w' p 2 [(⟨#[97]⟩, 5), (⟨#[98]⟩, 2)] := fun w1 p h =>
    (h.next ⟨#[97]⟩ false (by omega)).mono fun e w' ⟨he, h⟩ => ⟨by rw [he, n4]; rfl, h⟩
  have h1 := Hid.mk' c1
  have h2 := Hid.mk' c2
  have h3 := Hid.mk' c3
  have h4 := Hid.mk' c4
  clear l1 l2 g3 l3 n4 p1 c1 c2 c3 c4
  go_enter Try.func8, Try.ntmps8
  go_wp2_with fail
  refine p1'.out.mono ?_
  rintro e w1 ⟨p, rfl, t1⟩
  go_wp2_with fail
  refine (h1.out _ _ t1).mono ?_
  rintro e w2 ⟨⟨o1, f1, rfl⟩, t2⟩
  go_wp2_with fail
  refine (h2.out _ _ t2).mono ?_
  rintro e w3 ⟨⟨o2, f2, rfl⟩, t3⟩
  go_wp2_with fail
  refine (h3.out _ _ t3).mono ?_
  rintro e w4 ⟨rfl, t4⟩
  go_wp2_with fail
  refine (h4.out _ _ t4).mono ?_
  rintro e w5 ⟨rfl, t5⟩
  go_wp2_with fail
  refine (new_bad 1 w5 (by omega)).mono ?_
  rintro e w6 ⟨rfl, rfl⟩
  go_wp2_with fail
  refine t5.len.mono ?_
  rintro e w6 ⟨rfl, rfl⟩
  go_wp2_with fail
  refine (t5.check (by omega) (by omega) (by simp)).mono ?_
  rintro e w6 ⟨rfl, t6⟩
  go_wp2_with fail
  go_ret
  exact ⟨rfl, t6.2⟩
end Go.Proofs.Ytamnmoejjjaegaa
