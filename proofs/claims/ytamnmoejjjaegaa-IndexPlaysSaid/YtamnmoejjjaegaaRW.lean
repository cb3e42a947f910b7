/- What Range returns at a tree. Conditions: a degree of at most 32, at most 1000 keys. -/
import Derived.Test.YtamnmoejjjaegaaI
import Derived.Test.YtamnmoejjjaegaaSM
set_option linter.unusedVariables false
set_option linter.unusedSimpArgs false
namespace Go.Proofs.Ytamnmoejjjaegaa
open Go Go.RowKit

theorem next_from (k : ByteArray) : ∀ l : List E, nextM k true l = (from_ k l).head?
  | [] => rfl
  | e :: l => by
    have ih := next_from k l
    unfold nextM at ih ⊢
    unfold from_ at ih ⊢
    rw [List.find?_cons, List.dropWhile_cons]
    cases h : kl e.1 k
    · have : (kl k e.1 || (true && decide (e.1 = k))) = true := by
        cases h2 : kl k e.1
        · simp [kl_tri h h2]
        · simp
      rw [this]; simp
    · have : (kl k e.1 || (true && decide (e.1 = k))) = false := by simp [kl_asymm h, kl_ne h]
      rw [this]; simp; simpa using ih
theorem next_after {A R : List E} {e : E} (ha : Asc (A ++ e :: R)) : nextM e.1 false (A ++ e :: R) = R.head? := by
  obtain ⟨k, y⟩ := e
  obtain ⟨gA, gB⟩ := asc_hit ha
  rw [nextM_append, nextM_lt gA, Option.none_or, nextM_pass, nextM_gt gB]

/-- What stands at the head of Range's loop. -/
def RangeAt (S : Nat → Prop) (w : World) (p d : Nat) (l : List E) (pre : ByteArray) (most : Int) (res : List ByteArray) (v : Value) (out : List ByteArray) (R : List E) (wr : World) : Prop :=
  (∃ A, l = A ++ R) ∧ rangeGo pre most out R = res ∧ Row wr 9 v (out.map sv) ∧ (∀ k, own v k → w.heap.size ≤ k) ∧ TreeAt wr p d l (fun j => S j ∧ j < w.heap.size) ∧ Chg NoB w wr ∧ out.length + R.length ≤ l.length

set_option maxHeartbeats 8000000 in
set_option maxRecDepth 100000 in
theorem range18 (w : World) (p d : Nat) (l : List E) (S : Nat → Prop) (pre : ByteArray) (most : Int) (hd2 : d ≤ 32) (hl : l.length ≤ 1000) (ts : TreeAt w p d l S) :
    Calls Try.prog 18 #[.pointer (some ⟨p, 0, none⟩), .string pre, .int .i64 most] w fun e w' => ∃ v, e = .returned v ∧ Row w' 9 v ((rangeM pre most l).map sv) ∧ (∀ k, own v k → w.heap.size ≤ k) ∧ Chg NoB w w' := by
  have ha := ts.asc
  have t0 := ts.there
  obtain ⟨res, hres⟩ : ∃ res, rangeM pre most l = res := ⟨_, rfl⟩
  rw [hres]
  have hgo : rangeGo pre most [] (from_ pre l) = res := (rangeGo_from pre most l ha).trans hres
  have hnx := next_from pre l
  obtain ⟨A0, hA0, -⟩ := from_suffix pre l
  have hlen0 : (from_ pre l).length ≤ l.length := by
    have := congrArg List.length hA0
    simp at this; omega
  have nx1 : Hid (Calls Try.prog 16 #[.pointer (some ⟨p, 0, none⟩), .string pre, .bool true] w fun e w' => e = .returned (.tuple #[.string (keyO (from_ pre l).head?), .int .i64 (valO (from_ pre l).head?), .bool (from_ pre l).head?.isSome]) ∧ RangeAt S w p d l pre most res (.slice none 0 0) [] (from_ pre l) w') :=
    (next16 p d l pre true _ w hd2 t0).mono fun e w' ⟨he, h1⟩ => ⟨by rw [he, hnx], ⟨A0, hA0⟩, hgo, Row.nil w' 9, fun k hk => (own_none 0 0 k hk).elim, t0.chg h1 (fun _ _ h => h), h1, by simpa using hlen0⟩
  have ha' := Hid.mk' ha
  have hl' := Hid.mk' hl
  clear ts ha t0 hres hgo hnx hA0 hlen0 hl
  obtain ⟨R0, hR0⟩ : ∃ R0, from_ pre l = R0 := ⟨_, rfl⟩
  rw [hR0] at nx1
  clear hR0
  go_enter Try.func18, Try.ntmps18
  go_wp2_with fail
  refine nx1.out.mono ?_
  rintro e w1 ⟨rfl, at1⟩
  have at1' := Hid.mk' at1
  clear nx1 at1
  go_wp2_with fail
  go_loopg [7, 8, 10] R0.length (fun gq s7 s8 s10 wr => ∃ v out R kk, gq = R.length ∧ s7 = v ∧ s8 = .string kk ∧ Hid (kk = keyO R.head?) ∧ s10 = .bool R.head?.isSome ∧ RangeAt S w p d l pre most res v out R wr)
  case atStart => exact ⟨_, [], R0, _, rfl, rfl, rfl, Hid.mk' rfl, rfl, at1'.out⟩
  case round =>
    clear at1'
    obtain ⟨v, out, R, kk, hg, rfl, rfl, hkk, rfl, hat⟩ := hrel
    obtain ⟨⟨A, hA⟩, hgo, hrow, hown, ht, kwr, hlen⟩ := hat
    have fin : ∀ wr', Chg NoB wr wr' → res = out → ∃ v, Value.slice none 0 0 = v ∧ True := fun _ _ _ => ⟨_, rfl, trivial⟩
    clear fin
    obtain ⟨av, nv, cv, rfl, lv⟩ := hrow.form'
    have hrow' := Hid.mk' hrow
    have hown' := Hid.mk' hown
    have ht' := Hid.mk' ht
    have kwr' := Hid.mk' kwr
    have hlv : Hid (nv = out.length) := by show _ = _; have := lv.out; simpa using this
    cases R with
    | nil =>
      obtain rfl : out = res := hgo
      clear hrow hown ht kwr hA hlen hg
      go_wp2_with fail
      go_ret
      exact ⟨_, rfl, hrow'.out, hown'.out, kwr'.out⟩
    | cons e R =>
      obtain ⟨k, y⟩ := e
      obtain rfl : kk = k := hkk.out
      clear hkk
      have hp32 := Hid.mk' (hasPrefix32 kk pre wr)
      have hnext := next_after (A := A) (R := R) (e := (kk, y)) (by rw [← hA]; exact ha'.out)
      rw [← hA] at hnext
      simp only at hnext
      rw [rangeGo] at hgo
      have hll := hl'.out
      simp only [List.length_cons] at hlen hg
      by_cases hm : (out.length : Int) < most
      · have hm1 : (nv : Int) < most := by rw [hlv.out]; exact hm
        cases hpb : preB pre kk
        · rw [if_neg (by simp [hpb])] at hgo
          subst hgo
          rw [hpb] at hp32
          clear hrow hown ht kwr hA hlen hg hnext hm
          go_wp2_with (go_at_call 32; refine hp32.out.mono ?_; rintro e w' ⟨rfl, rfl⟩)
          go_ret
          exact ⟨_, rfl, hrow'.out, hown'.out, kwr'.out⟩
        · rw [if_pos ⟨hm, hpb⟩] at hgo
          rw [hpb] at hp32
          have hgo' := Hid.mk' hgo
          have ln : Hid ((out.map sv).length ≤ 1000) := by show _ ≤ _; simp; omega
          have hA' : Hid (∃ A, l = A ++ R) := ⟨A ++ [(kk, y)], by rw [hA]; simp⟩
          have hlen' : Hid ((out ++ [kk]).length + R.length ≤ l.length) := by show _ ≤ _; simp; omega
          have hnext' := Hid.mk' hnext
          clear hrow hown ht kwr hA hlen hnext hm hgo
          obtain ⟨W1, hW1⟩ : ∃ W1, W1 = wr.alloc (.cells #[.string kk] 9) := ⟨_, rfl⟩
          have r1 : Hid (Row W1 9 (.slice av nv cv) (out.map sv)) := by show Row _ _ _ _; rw [hW1]; exact hrow'.out.al _
          have lit : Hid (Row W1 9 (.slice (some ⟨wr.heap.size, 0, none⟩) 1 1) [.string kk]) := by show Row _ _ _ _; rw [hW1]; exact Row.lit wr 9 (.string kk)
          have kW1 : Hid (Chg NoB wr W1) := by show Chg _ _ _; rw [hW1]; exact (Chg.refl _ _).alloc _
          have hW1' := Hid.mk' hW1
          clear hW1
          go_wp2_with (first
            | (go_at_call 32; refine hp32.out.mono ?_; rintro e w' ⟨rfl, rfl⟩)
            | (at_builtin; rw [← hW1'.out]; refine wpList_append_row _ rfl _ _ 34 9 (.string ⟨#[]⟩) 16 rfl Try.underlying34 info9 rfl (.slice av nv cv) (.slice (some ⟨wr.heap.size, 0, none⟩) 1 1) (out.map sv) [.string kk] rfl rfl r1.out lit.out (by intro y hy; cases List.mem_singleton.1 hy; rfl) (by have := ln.out; simp at this ⊢; omega) (by have := ln.out; simp at this ⊢; omega) ?_
               intro v5 w5 r5 o5 k5
               obtain ⟨bv, mv, dv, rfl, lv5⟩ := r5.form'
               have k5' : Chg (own (.slice av nv cv)) wr w5 := (kW1.out.mono fun _ h => h.elim).trans k5
               have t5 : TreeAt w5 p d l (fun j => S j ∧ j < w.heap.size) := ht'.out.chg k5' (fun j a b => by have := hown'.out j b; have := a.2; omega)
               have q5 : Hid (Chg NoB w w5) := kwr'.out.trans' k5' (fun j b => .inr (hown'.out j b))
               have x5 : Hid (∀ j, own (.slice bv mv dv) j → w.heap.size ≤ j) := fun j hj => (o5 j hj).elim (hown'.out j) fun h => Nat.le_trans kwr'.out.size (Nat.le_trans kW1.out.size h.1)
               replace t5 := Hid.mk' t5; replace r5 := Hid.mk' r5; clear o5 k5 k5')
            | (go_at_call 16; refine (next16 p d l kk false _ _ hd2 t5.out).mono ?_; rintro e w6 ⟨rfl, k6⟩; replace k6 := Hid.mk' k6))
          go_roundg R.length
          case measure => omega
          case rel =>
            refine ⟨_, out ++ [kk], R, _, rfl, rfl, rfl, by show _ = _; rw [hnext'.out], by rw [hnext'.out], hA'.out, hgo'.out, ?_, x5.out, t5.out.chg k6.out (fun _ _ h => h), q5.out.trans k6.out, hlen'.out⟩
            have := r5.out.chg k6.out (fun _ _ h => h)
            simpa [sv] using this
      · have hm1 : ¬ ((nv : Int) < most) := by rw [hlv.out]; exact hm
        rw [if_neg (fun h => hm h.1)] at hgo
        subst hgo
        clear hrow hown ht kwr hA hlen hg hnext hm
        go_wp2_with (go_at_call 32; refine hp32.out.mono ?_; rintro e w' ⟨rfl, rfl⟩)
        go_ret
        exact ⟨_, rfl, hrow'.out, hown'.out, kwr'.out⟩
end Go.Proofs.Ytamnmoejjjaegaa
