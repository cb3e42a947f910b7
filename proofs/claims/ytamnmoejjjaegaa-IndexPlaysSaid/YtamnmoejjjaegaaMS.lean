/- A tree, made or nil, beside the document's map: what each method returns. Conditions: at most 1000 keys. -/
import Derived.Test.YtamnmoejjjaegaaMD
import Derived.Test.YtamnmoejjjaegaaRN
set_option linter.unusedVariables false
set_option linter.unusedSimpArgs false
namespace Go.Proofs.Ytamnmoejjjaegaa
open Go Go.RowKit Go.Proofs.YtamnmoejjjaegaaW.PrintLast

section
variable {P : Program}
theorem ret_c {fn : Func} {p : Tmp} {ty : TypeId} (h : fn.results = #[.cell p ty]) (tmps : Array Value) (w : World) (g : Nat) (t : TypeId) (cs : Array Value) (d : TypeDesc)
    (hp : tmps.getD p undef = .pointer (some ⟨g, 0, none⟩)) (hg : w.heap[g]? = some (.cells cs t (0, 0)))
    (hu : P.underlying ty = some d) (hd : (match d with | .struct _ | .array _ _ => true | _ => false) = true) (hi : (P.info? ty).map (·.size) = some cs.size) :
    (results fn tmps).run P w = .ok (.agg cs) w := by
  have hp' : tmps[p]?.getD undef = .pointer (some ⟨g, 0, none⟩) := by simpa using hp
  simp [results, h, hp', asAddr, run_loadVar_row w g t ty cs (0, 0) d hg hu hd hi]
theorem ret_tct {fn : Func} {p u v : Tmp} {ty : TypeId} (h : fn.results = #[.tmp u, .cell p ty, .tmp v]) (tmps : Array Value) (w : World) (g : Nat) (t : TypeId) (cs : Array Value) (d : TypeDesc)
    (hp : tmps.getD p undef = .pointer (some ⟨g, 0, none⟩)) (hg : w.heap[g]? = some (.cells cs t (0, 0)))
    (hu : P.underlying ty = some d) (hd : (match d with | .struct _ | .array _ _ => true | _ => false) = true) (hi : (P.info? ty).map (·.size) = some cs.size) :
    (results fn tmps).run P w = .ok (.tuple #[tmps.getD u undef, .agg cs, tmps.getD v undef]) w := by
  have hp' : tmps[p]?.getD undef = .pointer (some ⟨g, 0, none⟩) := by simpa using hp
  simp [results, h, hp', asAddr, run_loadVar_row w g t ty cs (0, 0) d hg hu hd hi]
end

set_option maxHeartbeats 4000000 in
theorem new19 (d : Int) (w : World) : Calls Try.prog 19 #[.int .i64 d] w fun e w' => e = .returned (.agg #[.bool (decide (d < 2) || decide (32 < d)), .slice none 0 0, .slice none 0 0]) ∧ Chg NoB w w' := by
  obtain ⟨b, hb⟩ : ∃ b, b = (decide (d < 2) || decide (32 < d)) := ⟨_, rfl⟩
  rw [← hb]
  by_cases h1 : d < 2
  · have c1 : decide (d < 2) = true := by simpa using h1
    obtain rfl : b = true := by rw [hb, c1]; rfl
    clear hb
    go_enter Try.func19, Try.ntmps19
    go_wp2_with fail
    refine bodyPost_ret (ret_c rfl _ _ w.heap.size 42 #[.bool true, .slice none 0 0, .slice none 0 0] _ rfl (heap_alloc_new _ _) Try.underlying42 rfl (by kernel_rfl)) rfl ?_
    exact ⟨rfl, (Chg.refl _ _).alloc _⟩
  · have c1 : decide (d < 2) = false := by simpa using h1
    cases hc : decide (32 < d)
    · obtain rfl : b = false := by rw [hb, c1, hc]; rfl
      clear hb
      go_enter Try.func19, Try.ntmps19
      go_wp2_with fail
      refine bodyPost_ret (ret_c rfl _ _ w.heap.size 42 #[.bool false, .slice none 0 0, .slice none 0 0] _ rfl (heap_alloc_new _ _) Try.underlying42 rfl (by kernel_rfl)) rfl ?_
      exact ⟨rfl, (Chg.refl _ _).alloc _⟩
    · obtain rfl : b = true := by rw [hb, c1, hc]; rfl
      clear hb
      go_enter Try.func19, Try.ntmps19
      go_wp2_with fail
      refine bodyPost_ret (ret_c rfl _ _ w.heap.size 42 #[.bool true, .slice none 0 0, .slice none 0 0] _ rfl (heap_alloc_new _ _) Try.underlying42 rfl (by kernel_rfl)) rfl ?_
      exact ⟨rfl, (Chg.refl _ _).alloc _⟩

/-- What Put makes of the list: nothing at a nil tree. -/
def insB (bad : Bool) (k : ByteArray) (v : Int) (L : List E) : List E := if bad then L else insM k v L
theorem insB_le (bad : Bool) (k : ByteArray) (v : Int) (L : List E) : (insB bad k v L).length ≤ L.length + 1 := by
  unfold insB; split
  · omega
  · exact insM_le2 k v L

/-- A tree of degree d that holds L in blocks of P ahead of lim, or a nil one; and a map that holds L, apart from it. -/
def PSt (P : Nat → Prop) (w : World) (lim d : Nat) (bad : Bool) (pp : Option Addr) (mv : Value) (L : List E) : Prop :=
  MapV w mv bad L ∧ 2 ≤ d ∧ d ≤ 32 ∧ (lim ≤ w.heap.size ∧ (∀ j, lim ≤ j → P j) ∧ ∀ j, mown mv j → j < lim) ∧
    ((bad = true ∧ pp = none ∧ L = []) ∨ (bad = false ∧ ∃ p S, pp = some ⟨p, 0, none⟩ ∧ TreeAt w p d L S ∧ (∀ j, S j → P j ∧ j < lim) ∧ ∀ j, mown mv j → ¬ S j))
section
variable {Q : Nat → Prop} {w w' : World} {lim d : Nat} {bad : Bool} {pp : Option Addr} {mv : Value} {L : List E}
theorem PSt.map (h : PSt Q w lim d bad pp mv L) : MapV w mv bad L := h.1
theorem PSt.chgT {T : Nat → Prop} (h : PSt Q w lim d bad pp mv L) (k : Chg T w w') (hT : ∀ j, T j → lim ≤ j) : PSt Q w' lim d bad pp mv L := by
  obtain ⟨h1, h3, h4, hm, h5⟩ := h
  refine ⟨h1.chgS k fun j hj ht => ?_, h3, h4, ⟨Nat.le_trans hm.1 k.size, hm.2⟩, h5.imp id ?_⟩
  · have := hm.2.2 j hj; have := hT j ht; omega
  · rintro ⟨g1, p, S, g2, g3, g4, g5⟩
    exact ⟨g1, p, S, g2, g3.chg k fun j a b => by have := (g4 j a).2; have := hT j b; omega, g4, g5⟩
theorem PSt.chg (h : PSt Q w lim d bad pp mv L) (k : Chg NoB w w') : PSt Q w' lim d bad pp mv L := h.chgT k fun _ h => h.elim
theorem PSt.up (h : PSt Q w lim d bad pp mv L) : PSt Q w w.heap.size d bad pp mv L := by
  obtain ⟨h1, h3, h4, hm, h5⟩ := h
  refine ⟨h1, h3, h4, ⟨Nat.le_refl _, fun j hj => hm.2.1 j (Nat.le_trans hm.1 hj), fun j hj => Nat.lt_of_lt_of_le (hm.2.2 j hj) hm.1⟩, h5.imp id ?_⟩
  rintro ⟨g1, p, S, g2, g3, g4, g5⟩
  exact ⟨g1, p, S, g2, g3, fun j hj => ⟨(g4 j hj).1, Nat.lt_of_lt_of_le (g4 j hj).2 hm.1⟩, g5⟩
theorem PSt.asc (h : PSt Q w lim d bad pp mv L) : Asc L := by
  obtain ⟨_, _, _, _, _, _, -, -, -, ha⟩ := h.1.open
  exact ha
/-- A tree that has been written, a new map, and a block of the call's own written behind them. -/
theorem PSt.mkNew {p : Nat} {S T : Nat → Prop} {L' : List E} {w2 : World} {mv2 : Value} (h1 : MapV w mv false L) (h3 : 2 ≤ d) (h4 : d ≤ 32) (hm : lim ≤ w.heap.size ∧ (∀ j, lim ≤ j → Q j) ∧ ∀ j, mown mv j → j < lim)
    (g4 : ∀ j, S j → Q j ∧ j < lim) (g5 : ∀ j, mown mv j → ¬ S j) (t : TreeAt w' p d L' (fun j => S j ∨ w.heap.size ≤ j)) (kc : Chg S w w') (hT : ∀ j, T j → lim ≤ j ∧ j < w.heap.size) (k2 : Chg T w' w2) (hm2 : MapV w2 mv2 false L') (hw : ∀ j, mown mv2 j → w'.heap.size ≤ j ∨ mown mv j) :
    PSt Q w2 w2.heap.size d false (some ⟨p, 0, none⟩) mv2 L' := by
  refine ⟨hm2, h3, h4, ⟨Nat.le_refl _, fun j hj => hm.2.1 j (Nat.le_trans hm.1 (Nat.le_trans kc.size (Nat.le_trans k2.size hj))), hm2.lt⟩, .inr ⟨rfl, p, _, rfl, t.there.chg k2 (fun j a b => ?_), fun j hj => ⟨?_, Nat.lt_of_lt_of_le hj.2 k2.size⟩, fun j hj hx => ?_⟩⟩
  · have := hT j b
    rcases a.1 with a | a
    · have := (g4 j a).2; omega
    · omega
  · rcases hj.1 with h | h
    · exact (g4 j h).1
    · exact hm.2.1 j (Nat.le_trans hm.1 h)
  · have hx2 := hx.2
    rcases hw j hj with h | h
    · omega
    · rcases hx.1 with h9 | h9
      · exact g5 j h h9
      · have := h1.lt j h; omega
theorem PSt.mkNil {T : Nat → Prop} {w2 : World} {mv2 : Value} (h3 : 2 ≤ d) (h4 : d ≤ 32) (hm : lim ≤ w.heap.size ∧ (∀ j, lim ≤ j → Q j) ∧ ∀ j, mown mv j → j < lim) (k2 : Chg T w w2) (hm2 : MapV w2 mv2 true []) : PSt Q w2 w2.heap.size d true none mv2 [] :=
  ⟨hm2, h3, h4, ⟨Nat.le_refl _, fun j hj => hm.2.1 j (Nat.le_trans hm.1 (Nat.le_trans k2.size hj)), hm2.lt⟩, .inl ⟨rfl, rfl, rfl⟩⟩
/-- The map behind the tree: the tree holds what the map will hold. -/
theorem PSt.put (h : PSt Q w lim d bad pp mv L) (k : ByteArray) (v : Int) (hl : L.length ≤ 1000) :
    Calls Try.prog 13 #[.pointer pp, .string k, .int .i64 v] w fun e w' => e = .returned (.tuple #[.int .i64 ((getM k L).getD 0), .bool (getM k L).isSome]) ∧ MapV w' mv bad L ∧ Chg (fun j => Q j ∧ j < lim) w w' ∧
      ∀ (T : Nat → Prop) w2 mv2, (∀ j, T j → lim ≤ j ∧ j < w.heap.size) → Chg T w' w2 → MapV w2 mv2 bad (insB bad k v L) → (∀ j, mown mv2 j → w'.heap.size ≤ j ∨ mown mv j) → PSt Q w2 w2.heap.size d bad pp mv2 (insB bad k v L) := by
  obtain ⟨h1, h3, h4, hm, h5⟩ := h
  rcases h5 with ⟨rfl, rfl, rfl⟩ | ⟨rfl, p, S, rfl, g3, g4, g5⟩
  · refine (put_bare (.pointer none) k v w (.inl rfl)).mono ?_
    rintro e w' ⟨rfl, rfl⟩
    exact ⟨rfl, h1, Chg.refl _ _, fun T w2 mv2 hT k2 hm2 hw => PSt.mkNil h3 h4 hm k2 hm2⟩
  · refine (put13 p d L k v S w h3 h4 (by omega) g3).mono ?_
    rintro e w' ⟨rfl, t, kc⟩
    exact ⟨rfl, h1.chgS kc g5, kc.mono g4, fun T w2 mv2 hT k2 hm2 hw => PSt.mkNew h1 h3 h4 hm g4 g5 t kc hT k2 hm2 hw⟩
theorem PSt.del (h : PSt Q w lim d bad pp mv L) (k : ByteArray) (hl : L.length ≤ 1000) :
    Calls Try.prog 11 #[.pointer pp, .string k] w fun e w' => e = .returned (.tuple #[.int .i64 ((getM k L).getD 0), .bool (getM k L).isSome]) ∧ MapV w' mv bad L ∧ Chg (fun j => Q j ∧ j < lim) w w' ∧
      ∀ (T : Nat → Prop) w2 mv2, (∀ j, T j → lim ≤ j ∧ j < w.heap.size) → Chg T w' w2 → MapV w2 mv2 bad (delM k L) → (∀ j, mown mv2 j → w'.heap.size ≤ j ∨ mown mv j) → PSt Q w2 w2.heap.size d bad pp mv2 (delM k L) := by
  obtain ⟨h1, h3, h4, hm, h5⟩ := h
  rcases h5 with ⟨rfl, rfl, rfl⟩ | ⟨rfl, p, S, rfl, g3, g4, g5⟩
  · refine (del_bare (.pointer none) k w (.inl rfl)).mono ?_
    rintro e w' ⟨rfl, rfl⟩
    exact ⟨rfl, h1, Chg.refl _ _, fun T w2 mv2 hT k2 hm2 hw => PSt.mkNil h3 h4 hm k2 hm2⟩
  · refine (delete11 p d L k S w h3 h4 (by omega) g3).mono ?_
    rintro e w' ⟨rfl, t, kc⟩
    exact ⟨rfl, h1.chgS kc g5, kc.mono g4, fun T w2 mv2 hT k2 hm2 hw => PSt.mkNew h1 h3 h4 hm g4 g5 t kc hT k2 hm2 hw⟩
theorem PSt.get (h : PSt Q w lim d bad pp mv L) (k : ByteArray) :
    Calls Try.prog 21 #[.pointer pp, .string k] w fun e w' => e = .returned (.tuple #[.int .i64 ((getM k L).getD 0), .bool (getM k L).isSome]) ∧ w = w' := by
  obtain ⟨h1, h3, h4, hm, h5⟩ := h
  rcases h5 with ⟨rfl, rfl, rfl⟩ | ⟨rfl, p, S, rfl, g3, g4, g5⟩
  · exact get_bare (.pointer none) k w (.inl rfl)
  · exact get21 p d L k S w h4 g3
theorem PSt.next (h : PSt Q w lim d bad pp mv L) (k : ByteArray) (eq : Bool) :
    Calls Try.prog 16 #[.pointer pp, .string k, .bool eq] w fun e w' => e = .returned (.tuple #[.string (keyO (nextM k eq L)), .int .i64 (valO (nextM k eq L)), .bool (nextM k eq L).isSome]) ∧ Chg NoB w w' := by
  obtain ⟨h1, h3, h4, hm, h5⟩ := h
  rcases h5 with ⟨rfl, rfl, rfl⟩ | ⟨rfl, p, S, rfl, g3, g4, g5⟩
  · exact (next_bare (.pointer none) k eq w (.inl rfl)).mono fun e w' ⟨he, hw⟩ => ⟨he, hw ▸ Chg.refl _ _⟩
  · exact next16 p d L k eq S w h4 g3
theorem PSt.len (h : PSt Q w lim d bad pp mv L) : Calls Try.prog 17 #[.pointer pp] w fun e w' => e = .returned (.int .i64 (L.length : Int)) ∧ w = w' := by
  obtain ⟨h1, h3, h4, hm, h5⟩ := h
  rcases h5 with ⟨rfl, rfl, rfl⟩ | ⟨rfl, p, S, rfl, g3, g4, g5⟩
  · exact len_bare (.pointer none) w (.inl rfl)
  · exact len17 p d L S w g3
theorem PSt.range (h : PSt Q w lim d bad pp mv L) (k : ByteArray) (most : Int) (hl : L.length ≤ 1000) :
    Calls Try.prog 18 #[.pointer pp, .string k, .int .i64 most] w fun e w' => ∃ v, e = .returned v ∧ Row w' 9 v ((rangeM k most L).map Value.string) ∧ Chg NoB w w' := by
  obtain ⟨h1, h3, h4, hm, h5⟩ := h
  rcases h5 with ⟨rfl, rfl, rfl⟩ | ⟨rfl, p, S, rfl, g3, g4, g5⟩
  · exact (range_bare (.pointer none) k most w (.inl rfl)).mono fun e w' ⟨he, hw⟩ => ⟨_, he, Row.nil w' 9 |> fun h => by simpa [rangeM] using h, hw ▸ Chg.refl _ _⟩
  · exact (range18 w p d L S k most h4 hl g3).mono fun e w' ⟨v, he, hr, _, kc⟩ => ⟨v, he, hr, kc⟩
theorem PSt.clone (h : PSt Q w lim d bad pp mv L) : Calls Try.prog 12 #[.pointer pp] w fun e w' => ∃ p2, e = .returned (.pointer p2) ∧ Chg NoB w w' ∧
    ∀ (T : Nat → Prop) w2, (∀ j, T j → lim ≤ j ∧ j < w.heap.size) → Chg T w' w2 → PSt Q w2 w2.heap.size d bad p2 mv L := by
  have h9 := h
  obtain ⟨h1, h3, h4, hm, h5⟩ := h
  rcases h5 with ⟨rfl, rfl, rfl⟩ | ⟨rfl, p, S, rfl, g3, g4, g5⟩
  · exact (clone_bare (.pointer none) w (.inl rfl)).mono fun e w' ⟨he, hw⟩ => ⟨_, he, hw ▸ Chg.refl _ _, fun T w2 hT k2 => (h9.chgT (hw ▸ k2) fun j hj => (hT j hj).1).up⟩
  · refine (clone12 p d L S w h4 g3).mono ?_
    rintro e w' ⟨r, rfl, t, kc⟩
    refine ⟨_, rfl, kc, fun T w2 hT k2 => ?_⟩
    have hm2 := (h9.chg kc).chgT k2 fun j hj => (hT j hj).1
    exact ⟨hm2.1, h3, h4, hm2.up.2.2.2.1, .inr ⟨rfl, r, _, rfl, t.there.chg k2 (fun j a b => by have := hT j b; have := a.1; omega), fun j hj => ⟨hm.2.1 j (Nat.le_trans hm.1 hj.1), Nat.lt_of_lt_of_le hj.2 k2.size⟩, fun j hj hx => by have := h1.lt j hj; have := hx.1; omega⟩⟩
theorem MapV.put (h : MapV w mv bad L) (hb : bad = true → L = []) (k : ByteArray) (v : Int) (hl : L.length ≤ 1000) :
    Calls Try.prog 33 #[mv, .string k, .int .i64 v] w fun e w' => ∃ mv2, e = .returned (.tuple #[mv2, .int .i64 ((getM k L).getD 0), .bool (getM k L).isSome]) ∧ MapV w' mv2 bad (insB bad k v L) ∧ (∀ j, mown mv2 j → w.heap.size ≤ j ∨ mown mv j) ∧ Chg NoB w w' := by
  cases bad
  · rcases h with ⟨rfl, rfl⟩ | ⟨gk, nk, ck, gv, nv, cv, rfl, h2, h3, h4⟩
    · exact (put33_nil k v w).mono fun e w' ⟨m, he, hm, ho, kc⟩ => ⟨m, he, hm, fun j hj => .inl (ho j hj), kc⟩
    · exact (put33_some gk nk ck gv nv cv k v L _ w h4 h2 h3 (by omega) rfl).mono fun e w' ⟨m, he, hm, ho, kc⟩ => ⟨m, he, hm, fun j hj => .inl (ho j hj), kc⟩
  · obtain rfl := hb rfl
    have h9 := h
    obtain ⟨ak, nk, ck, av, nv, cv, rfl, -⟩ := h.open
    exact (put33_bad ak nk ck av nv cv k v w).mono fun e w' ⟨he, kc⟩ => ⟨_, he, h9.chg kc, fun j hj => .inr hj, kc⟩
theorem MapV.del (h : MapV w mv bad L) (hb : bad = true → L = []) (k : ByteArray) (hl : L.length ≤ 1000) :
    Calls Try.prog 34 #[mv, .string k] w fun e w' => ∃ mv2, e = .returned (.tuple #[mv2, .int .i64 ((getM k L).getD 0), .bool (getM k L).isSome]) ∧ MapV w' mv2 bad (delM k L) ∧ (∀ j, mown mv2 j → w.heap.size ≤ j ∨ mown mv j) ∧ Chg NoB w w' := by
  have h9 := h
  cases hg : getM k L with
  | none =>
    obtain ⟨ak, nk, ck, av, nv, cv, rfl, h2, h3, h4⟩ := h.open
    have hd : delM k L = L := by
      unfold delM
      rw [List.filter_eq_self]
      intro e he
      simp only [decide_eq_true_eq]
      rintro rfl
      unfold getM at hg
      rw [Option.map_eq_none_iff, List.find?_eq_none] at hg
      exact hg e he (by simp)
    rw [hd]
    exact (del34_no bad ak nk ck av nv cv k L w h4 h2 h3 (by omega) hg).mono fun e w' ⟨he, kc⟩ => ⟨_, he, h9.chg kc, fun j hj => .inr hj, kc⟩
  | some y =>
    have hbad : bad = false := by
      cases bad
      · rfl
      · rw [hb rfl] at hg; cases hg
    subst hbad
    rcases h with ⟨rfl, rfl⟩ | ⟨gk, nk, ck, gv, nv, cv, rfl, h2, h3, h4⟩
    · cases hg
    · exact (del34_yes false gk nk ck gv nv cv k L y w h4 h2 h3 (by omega) hg).mono fun e w' ⟨m, he, hm, ho, kc⟩ => ⟨m, he, hm, fun j hj => .inl (ho j hj), kc⟩
theorem MapV.get (h : MapV w mv bad L) (k : ByteArray) (hl : L.length ≤ 1000) :
    Calls Try.prog 35 #[mv, .string k] w fun e w' => e = .returned (.tuple #[.int .i64 ((getM k L).getD 0), .bool (getM k L).isSome]) ∧ Chg NoB w w' := by
  obtain ⟨ak, nk, ck, av, nv, cv, rfl, h2, h3, h4⟩ := h.open
  exact get35 bad ak nk ck av nv cv k L w h4 h2 h3 (by omega)
theorem MapV.next (h : MapV w mv bad L) (k : ByteArray) (eq : Bool) (hl : L.length ≤ 1000) :
    Calls Try.prog 36 #[mv, .string k, .bool eq] w fun e w' => e = .returned (.tuple #[.string (keyO (nextM k eq L)), .int .i64 (valO (nextM k eq L)), .bool (nextM k eq L).isSome]) ∧ Chg NoB w w' := by
  obtain ⟨ak, nk, ck, av, nv, cv, rfl, h2, h3, h4⟩ := h.open
  exact next36 bad ak nk ck av nv cv k eq L w h4 h2 h3 (by omega)
theorem MapV.range (h : MapV w mv bad L) (k : ByteArray) (most : Int) (hl : L.length ≤ 1000) :
    Calls Try.prog 37 #[mv, .string k, .int .i64 most] w fun e w' => ∃ v, e = .returned v ∧ Row w' 9 v ((rangeM k most L).map Value.string) ∧ Chg NoB w w' := by
  obtain ⟨ak, nk, ck, av, nv, cv, rfl, h2, h3, h4⟩ := h.open
  have := range37 bad ak nk ck (.slice av nv cv) k most (L.map Prod.fst) w h2 (by simpa using hl)
  rwa [rngGo_range] at this
theorem PSt.empty (h : PSt Q w lim d bad pp mv L) : bad = true → L = [] := by
  intro hb
  rcases h.2.2.2.2 with ⟨-, -, h⟩ | ⟨h, -⟩
  · exact h
  · rw [hb] at h; cases h
end
end Go.Proofs.Ytamnmoejjjaegaa
