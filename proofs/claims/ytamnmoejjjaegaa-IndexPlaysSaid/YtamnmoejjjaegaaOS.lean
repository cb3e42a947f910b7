/- A tree and two rows of the call's own, side by side in memory. Conditions: degree from 2 to 32, at most 1000000 keys. -/
import Derived.Test.YtamnmoejjjaegaaRW
import Derived.Test.YtamnmoejjjaegaaSS
import Derived.Test.YtamnmoejjjaegaaW
set_option linter.unusedVariables false
set_option linter.unusedSimpArgs false
namespace Go.Proofs.Ytamnmoejjjaegaa
open Go Go.RowKit Go.Proofs.YtamnmoejjjaegaaW.PrintLast

section
variable {P : Program} {ops : Array Oper} {Q : Exit → Act → World → Prop}
theorem append_step_src {oi : Oper} {N : Option Tmp} {a : Act} {w : World} {K : Act → World → Prop} (hw : Region.wanted oi (yielded ops a.tmps) = true) (hN : oi.dst = N) (s x : Operand) (t e : TypeId) (z : Value) (bytes : Nat)
    (ho : oi.op = .call { callee := .builtin .append, args := #[s, x], argTypes := #[t, t] }) (ht : P.underlying t = some (.slice e)) (hinfo : (P.info? e).map (fun i => (i.zero, i.size, i.bytes)) = some (some z, 1, bytes)) (hz1 : z.cells = #[z])
    (v u : Value) (xs ys : List Value) (hs : a.eval s = v) (hx : a.eval x = u) (h : Row w e v xs) (hu : Src w u ys) (h1 : ∀ y ∈ ys, y.oneCell' = true) (hb : (xs.length + ys.length) * bytes ≤ 140737488355328) (hl : xs.length + ys.length ≤ 1099511627776)
    (hK : ∀ v' w', Row w' e v' (xs ++ ys) → (∀ k, own v' k → own v k ∨ (w.heap.size ≤ k ∧ k < w'.heap.size)) → Chg (own v) w w' → K (a.put N v') w') :
    if Region.wanted oi (yielded ops a.tmps) = true then Oper.wp P oi a w K Q else K (a.put N undef) w := by
  obtain ⟨v', w', hr, h2, h3, h4⟩ := run_append_src (P := P) w t oi.type e z bytes ht hinfo hz1 v u xs ys h hu h1 hb hl
  refine value_ (w1 := w') (v := v') hw hN ?_ (hK v' w' h2 h3 h4)
  unfold execOp
  simp only [ho, resolve, invoke, builtin, Sem.run_bind, Sem.run_pure, Result.andThen_ok, List.map_toArray, List.map_cons, List.map_nil, hs, hx, hr]
end
theorem Row.lit0D (w : World) (E : TypeId) : Row (w.alloc (.cells #[] E)).drew E (.slice (some ⟨w.heap.size, 0, none⟩) 0 0) [] := Row.lit0 w E
theorem Src.al {w : World} {u : Value} {ys : List Value} (h : Src w u ys) (o : Obj) : Src (w.alloc o) u ys := h.chg ((Chg.refl NoB w).alloc o) fun _ _ h => h
theorem Src.alD {w : World} {u : Value} {ys : List Value} (h : Src w u ys) (o : Obj) : Src (w.alloc o).drew u ys := h.chg ((Chg.refl NoB w).alloc o).drew fun _ _ h => h
theorem str_cell (l : List ByteArray) : ∀ y ∈ l.map Value.string, y.oneCell' = true := by
  intro y hy; obtain ⟨x, -, rfl⟩ := List.mem_map.1 hy; rfl
theorem int_cell (l : List Int) : ∀ y ∈ l.map (Value.int .i64), y.oneCell' = true := by
  intro y hy; obtain ⟨x, -, rfl⟩ := List.mem_map.1 hy; rfl

theorem insM_le2 (k : ByteArray) (v : Int) (l : List E) : (insM k v l).length ≤ l.length + 1 := by
  induction l with
  | nil => simp [insM]
  | cons e l ih =>
    rw [insM]
    split
    · simp; omega
    · split <;> simp
theorem delM_le2 (k : ByteArray) (l : List E) : (delM k l).length ≤ l.length := List.length_filter_le _ _

/-- A tree at p, a row of strings and a row of numbers, all newer than w0 and apart. -/
def OStS (S : Nat → Prop) (w0 w : World) (p d : Nat) (L : List E) (vk : Value) (ks : List ByteArray) (vv : Value) (vs : List Int) : Prop :=
  TreeAt w p d L S ∧ (∀ j, S j → w0.heap.size ≤ j ∧ j < w.heap.size) ∧ Row w 9 vk (ks.map Value.string) ∧ Row w 3 vv (vs.map (Value.int .i64)) ∧
    (∀ j, own vk j → w0.heap.size ≤ j ∧ ¬ S j) ∧ (∀ j, own vv j → w0.heap.size ≤ j ∧ ¬ S j ∧ ¬ own vk j) ∧ Chg NoB w0 w
def OSt (w0 w : World) (p d : Nat) (L : List E) (vk : Value) (ks : List ByteArray) (vv : Value) (vs : List Int) : Prop := ∃ S, OStS S w0 w p d L vk ks vv vs
section
variable {w0 w : World} {p d : Nat} {L : List E} {vk vv : Value} {ks : List ByteArray} {vs : List Int}
theorem OSt.chg0 (h : OSt w0 w p d L vk ks vv vs) : Chg NoB w0 w := let ⟨_, h⟩ := h; h.2.2.2.2.2.2
theorem OSt.rowK (h : OSt w0 w p d L vk ks vv vs) : Row w 9 vk (ks.map Value.string) := let ⟨_, h⟩ := h; h.2.2.1
theorem OSt.rowV (h : OSt w0 w p d L vk ks vv vs) : Row w 3 vv (vs.map (Value.int .i64)) := let ⟨_, h⟩ := h; h.2.2.2.1
theorem OSt.newK (h : OSt w0 w p d L vk ks vv vs) : ∀ j, own vk j → w0.heap.size ≤ j := fun j hj => let ⟨_, h⟩ := h; (h.2.2.2.2.1 j hj).1
theorem OSt.newV (h : OSt w0 w p d L vk ks vv vs) : ∀ j, own vv j → w0.heap.size ≤ j := fun j hj => let ⟨_, h⟩ := h; (h.2.2.2.2.2.1 j hj).1
theorem OSt.asc (h : OSt w0 w p d L vk ks vv vs) : Asc L := let ⟨_, h⟩ := h; h.1.asc
theorem OSt.chg {w' : World} (h : OSt w0 w p d L vk ks vv vs) (k : Chg NoB w w') : OSt w0 w' p d L vk ks vv vs := by
  obtain ⟨S, h1, h2, h3, h4, h5, h6, h7⟩ := h
  exact ⟨S, h1.chg k fun _ _ h => h, fun j hj => ⟨(h2 j hj).1, Nat.lt_of_lt_of_le (h2 j hj).2 k.size⟩, h3.chg k fun _ _ h => h, h4.chg k fun _ _ h => h, h5, h6, h7.trans k⟩
theorem OStS.tree {S : Nat → Prop} {w' : World} {L' : List E} (h : OStS S w0 w p d L vk ks vv vs) (t1 : TreeAt w' p d L' (fun j => S j ∨ w.heap.size ≤ j)) (k1 : Chg S w w') : OSt w0 w' p d L' vk ks vv vs := by
  obtain ⟨h1, h2, h3, h4, h5, h6, h7⟩ := h
  have lk : ∀ j, own vk j → j < w.heap.size := fun j hj => h3.lt hj
  have lv : ∀ j, own vv j → j < w.heap.size := fun j hj => h4.lt hj
  refine ⟨_, t1.there, fun j hj => ⟨?_, hj.2⟩, h3.chg k1 fun j hj => (h5 j hj).2, h4.chg k1 fun j hj => (h6 j hj).2.1, fun j hj => ⟨(h5 j hj).1, fun hx => ?_⟩, fun j hj => ⟨(h6 j hj).1, fun hx => ?_, (h6 j hj).2.2⟩, h7.trans' k1 fun j hj => .inr (h2 j hj).1⟩
  · rcases hj.1 with hj | hj
    · exact (h2 j hj).1
    · exact Nat.le_trans h7.size hj
  · rcases hx.1 with hx | hx
    · exact (h5 j hj).2 hx
    · have := lk j hj; omega
  · rcases hx.1 with hx | hx
    · exact (h6 j hj).2.1 hx
    · have := lv j hj; omega
theorem OSt.put (h : OSt w0 w p d L vk ks vv vs) (k : ByteArray) (v : Int) (hd : 2 ≤ d) (hd2 : d ≤ 32) (hl : L.length ≤ 1000000) :
    Calls Try.prog 13 #[.pointer (some ⟨p, 0, none⟩), .string k, .int .i64 v] w fun e w' => (∃ o f, e = .returned (.tuple #[.int .i64 o, .bool f])) ∧ OSt w0 w' p d (insM k v L) vk ks vv vs :=
  let ⟨S, h⟩ := h
  (put13 p d L k v S w hd hd2 hl h.1).mono fun _ _ ⟨he, t1, k1⟩ => ⟨⟨_, _, he⟩, h.tree t1 k1⟩
theorem OSt.del (h : OSt w0 w p d L vk ks vv vs) (k : ByteArray) (hd : 2 ≤ d) (hd2 : d ≤ 32) (hl : L.length ≤ 1000000) :
    Calls Try.prog 11 #[.pointer (some ⟨p, 0, none⟩), .string k] w fun e w' => (∃ o f, e = .returned (.tuple #[.int .i64 o, .bool f])) ∧ OSt w0 w' p d (delM k L) vk ks vv vs :=
  let ⟨S, h⟩ := h
  (delete11 p d L k S w hd hd2 hl h.1).mono fun _ _ ⟨he, t1, k1⟩ => ⟨⟨_, _, he⟩, h.tree t1 k1⟩
theorem OSt.next (h : OSt w0 w p d L vk ks vv vs) (k : ByteArray) (eq : Bool) (hd2 : d ≤ 32) :
    Calls Try.prog 16 #[.pointer (some ⟨p, 0, none⟩), .string k, .bool eq] w fun e w' => e = .returned (.tuple #[.string (keyO (nextM k eq L)), .int .i64 (valO (nextM k eq L)), .bool (nextM k eq L).isSome]) ∧ OSt w0 w' p d L vk ks vv vs :=
  let ⟨S, h⟩ := h
  (next16 p d L k eq S w hd2 h.1).mono fun _ _ ⟨he, k1⟩ => ⟨he, OSt.chg ⟨S, h⟩ k1⟩
theorem OSt.len (h : OSt w0 w p d L vk ks vv vs) :
    Calls Try.prog 17 #[.pointer (some ⟨p, 0, none⟩)] w fun e w' => e = .returned (.int .i64 (L.length : Int)) ∧ w = w' := let ⟨S, h⟩ := h; len17 p d L S w h.1
theorem OSt.range (h : OSt w0 w p d L vk ks vv vs) (pre : ByteArray) (most : Int) (hd2 : d ≤ 32) (hl : L.length ≤ 1000) :
    Calls Try.prog 18 #[.pointer (some ⟨p, 0, none⟩), .string pre, .int .i64 most] w fun e w' => ∃ v, e = .returned v ∧ Row w' 9 v ((rangeM pre most L).map sv) ∧ OSt w0 w' p d L vk ks vv vs :=
  let ⟨S, h⟩ := h
  (range18 w p d L S pre most hd2 hl h.1).mono fun _ _ ⟨v, he, hr, _, k1⟩ => ⟨v, he, hr, OSt.chg ⟨S, h⟩ k1⟩
/-- A new row of strings. -/
theorem OSt.keys {w' : World} {vk' : Value} {ks' : List ByteArray} (h : OSt w0 w p d L vk ks vv vs) (k : Chg (own vk) w w') (hr : Row w' 9 vk' (ks'.map Value.string)) (ho : ∀ j, own vk' j → own vk j ∨ w.heap.size ≤ j) : OSt w0 w' p d L vk' ks' vv vs := by
  obtain ⟨S, h1, h2, h3, h4, h5, h6, h7⟩ := h
  refine ⟨S, h1.chg k fun j a b => (h5 j b).2 a, fun j hj => ⟨(h2 j hj).1, Nat.lt_of_lt_of_le (h2 j hj).2 k.size⟩, hr, h4.chg k fun j a b => (h6 j a).2.2 b, fun j hj => ?_, fun j hj => ⟨(h6 j hj).1, (h6 j hj).2.1, fun hx => ?_⟩, h7.trans' k fun j hj => .inr (h5 j hj).1⟩
  · rcases ho j hj with hj | hj
    · exact h5 j hj
    · exact ⟨Nat.le_trans h7.size hj, fun hx => by have := (h2 j hx).2; omega⟩
  · rcases ho j hx with hx | hx
    · exact (h6 j hj).2.2 hx
    · have := h4.lt hj; omega
/-- A new row of numbers. -/
theorem OSt.vals {w' : World} {vv' : Value} {vs' : List Int} (h : OSt w0 w p d L vk ks vv vs) (k : Chg (own vv) w w') (hr : Row w' 3 vv' (vs'.map (Value.int .i64))) (ho : ∀ j, own vv' j → own vv j ∨ w.heap.size ≤ j) : OSt w0 w' p d L vk ks vv' vs' := by
  obtain ⟨S, h1, h2, h3, h4, h5, h6, h7⟩ := h
  refine ⟨S, h1.chg k fun j a b => (h6 j b).2.1 a, fun j hj => ⟨(h2 j hj).1, Nat.lt_of_lt_of_le (h2 j hj).2 k.size⟩, h3.chg k fun j a b => (h6 j b).2.2 a, hr, h5, fun j hj => ?_, h7.trans' k fun j hj => .inr (h6 j hj).1⟩
  rcases ho j hj with hj | hj
  · exact h6 j hj
  · exact ⟨Nat.le_trans h7.size hj, fun hx => by have := (h2 j hx).2; omega, fun hx => by have := h3.lt hx; omega⟩
theorem OSt.start (h : TS w0 w p d []) : OSt w0 ((w.alloc (.cells #[] 9)).alloc (.cells #[] 3)) p d [] (.slice (some ⟨w.heap.size, 0, none⟩) 0 0) [] (.slice (some ⟨w.heap.size + 1, 0, none⟩) 0 0) [] := by
  obtain ⟨h1, h2⟩ := h
  have k : Chg NoB w ((w.alloc (.cells #[] 9)).alloc (.cells #[] 3)) := ((Chg.refl _ _).alloc _).alloc _
  have sz : (w.alloc (.cells #[] 9)).heap.size = w.heap.size + 1 := by simp
  have r2 := Row.lit0 (w.alloc (.cells #[] 9)) 3
  rw [sz] at r2
  refine ⟨_, h1.there.chg k fun _ _ h => h, fun j hj => ⟨hj.1, Nat.lt_of_lt_of_le hj.2 k.size⟩, (Row.lit0 w 9).chg ((Chg.refl NoB _).alloc _) (fun _ _ h => h), r2, fun j hj => ?_, fun j hj => ?_, h2.trans k⟩
  · rw [own_slice] at hj
    have := h2.size
    exact ⟨by omega, fun hx => by have := hx.2; omega⟩
  · rw [own_slice] at hj
    have := h2.size
    exact ⟨by omega, fun hx => by have := hx.2; omega, fun hx => by rw [own_slice] at hx; omega⟩
theorem lit_oneD {E : TypeId} {W5 : World} (k5 : Chg (own (.slice (some ⟨w.heap.size, 0, none⟩) 0 0)) (w.alloc (.cells #[] E)).drew W5) : Chg NoB w W5 :=
  ((Chg.refl NoB w).alloc (.cells #[] E)).trans' k5.undrew fun i hi => .inr (by rw [own_slice] at hi; omega)
theorem lit_one {E : TypeId} {W5 : World} (k5 : Chg (own (.slice (some ⟨w.heap.size, 0, none⟩) 0 0)) (w.alloc (.cells #[] E)) W5) : Chg NoB w W5 :=
  ((Chg.refl NoB w).alloc (.cells #[] E)).trans' k5 fun i hi => .inr (by rw [own_slice] at hi; omega)
theorem wrap64_small (x : Int) (h0 : 0 ≤ x) (h1 : x ≤ 1000000000) : wrap64 x = x := by unfold wrap64; omega
/-- Two appends onto an empty literal. -/
theorem lit_two {E : TypeId} {W5 W6 : World} {v5 v6 : Value} (k5 : Chg (own (.slice (some ⟨w.heap.size, 0, none⟩) 0 0)) (w.alloc (.cells #[] E)) W5) (o5 : ∀ k, own v5 k → own (.slice (some ⟨w.heap.size, 0, none⟩) 0 0) k ∨ ((w.alloc (.cells #[] E)).heap.size ≤ k ∧ k < W5.heap.size))
    (k6 : Chg (own v5) W5 W6) (o6 : ∀ k, own v6 k → own v5 k ∨ (W5.heap.size ≤ k ∧ k < W6.heap.size)) : Chg NoB w W6 ∧ ∀ k, own v6 k → w.heap.size ≤ k := by
  have a5 : Chg NoB w W5 := ((Chg.refl NoB w).alloc (.cells #[] E)).trans' k5 fun i hi => .inr (by rw [own_slice] at hi; omega)
  have b5 : ∀ k, own v5 k → w.heap.size ≤ k := fun k hk => (o5 k hk).elim (fun h => by rw [own_slice] at h; omega) fun h => by have := h.1; simp at this; omega
  exact ⟨a5.trans' k6 fun i hi => .inr (b5 i hi), fun k hk => (o6 k hk).elim (b5 k) fun h => Nat.le_trans a5.size h.1⟩
end
end Go.Proofs.Ytamnmoejjjaegaa
