/- The document's map: what Put, Delete and New return. Conditions: at most 1000000 keys. -/
import Derived.Test.YtamnmoejjjaegaaMB
set_option linter.unusedVariables false
set_option linter.unusedSimpArgs false
namespace Go.Proofs.Ytamnmoejjjaegaa
open Go Go.RowKit Go.Proofs.YtamnmoejjjaegaaW.PrintLast

/-- A map's value in memory: keys and values of an ascending list. -/
def MapV (w : World) (v : Value) (bad : Bool) (L : List E) : Prop :=
  (v = .agg #[.bool bad, .slice none 0 0, .slice none 0 0] ∧ L = []) ∨
  ∃ gk nk ck gv nv cv, v = .agg #[.bool bad, .slice (some ⟨gk, 0, none⟩) nk ck, .slice (some ⟨gv, 0, none⟩) nv cv] ∧ Row w 9 (.slice (some ⟨gk, 0, none⟩) nk ck) ((L.map Prod.fst).map Value.string) ∧ Row w 3 (.slice (some ⟨gv, 0, none⟩) nv cv) ((L.map Prod.snd).map (Value.int .i64)) ∧ Asc L
theorem MapV.chg {w w' : World} {v : Value} {bad : Bool} {L : List E} (h : MapV w v bad L) (k : Chg NoB w w') : MapV w' v bad L := by
  rcases h with h | ⟨gk, nk, ck, gv, nv, cv, h1, h2, h3, h4⟩
  · exact .inl h
  · exact .inr ⟨gk, nk, ck, gv, nv, cv, h1, h2.chg k fun _ _ h => h, h3.chg k fun _ _ h => h, h4⟩
theorem MapV.open {w : World} {v : Value} {bad : Bool} {L : List E} (h : MapV w v bad L) : ∃ ak nk ck av nv cv, v = .agg #[.bool bad, .slice ak nk ck, .slice av nv cv] ∧ Row w 9 (.slice ak nk ck) ((L.map Prod.fst).map Value.string) ∧ Row w 3 (.slice av nv cv) ((L.map Prod.snd).map (Value.int .i64)) ∧ Asc L := by
  rcases h with ⟨rfl, rfl⟩ | ⟨gk, nk, ck, gv, nv, cv, h1, h2, h3, h4⟩
  · exact ⟨_, _, _, _, _, _, rfl, Row.nil w 9, Row.nil w 3, List.Pairwise.nil⟩
  · exact ⟨_, _, _, _, _, _, h1, h2, h3, h4⟩
theorem own_some {a : Option Addr} {n c g : Nat} {w : World} {E : TypeId} {xs : List Value} (h : Row w E (.slice a n c) xs) (ho : own (.slice a n c) g) : a = some ⟨g, 0, none⟩ := by
  rcases h with ⟨h, -⟩ | ⟨g', cap, cur, h, -⟩
  · cases h; exact (own_none _ _ _ ho).elim
  · cases h; rw [own_slice] at ho; rw [ho]

/-- The blocks of a map's rows. -/
def mown (v : Value) : Nat → Prop := fun j => match v with
  | .agg #[_, a, b] => own a j ∨ own b j
  | _ => False
theorem MapV.chgS {S : Nat → Prop} {w w' : World} {v : Value} {bad : Bool} {L : List E} (h : MapV w v bad L) (k : Chg S w w') (hs : ∀ j, mown v j → ¬ S j) : MapV w' v bad L := by
  rcases h with h | ⟨gk, nk, ck, gv, nv, cv, rfl, h2, h3, h4⟩
  · exact .inl h
  · exact .inr ⟨gk, nk, ck, gv, nv, cv, rfl, h2.chg k fun j hj => hs j (.inl hj), h3.chg k fun j hj => hs j (.inr hj), h4⟩
theorem MapV.lt {w : World} {v : Value} {bad : Bool} {L : List E} (h : MapV w v bad L) : ∀ j, mown v j → j < w.heap.size := by
  intro j hj
  rcases h with ⟨rfl, -⟩ | ⟨gk, nk, ck, gv, nv, cv, rfl, h2, h3, h4⟩
  · rcases hj with hj | hj <;> exact (own_none _ _ _ hj).elim
  · rcases hj with hj | hj
    · exact h2.lt hj
    · exact h3.lt hj

section
variable {P : Program}
theorem ret_ctt {fn : Func} {p u v : Tmp} {ty : TypeId} (h : fn.results = #[.cell p ty, .tmp u, .tmp v]) (tmps : Array Value) (w : World) (g : Nat) (t : TypeId) (cs : Array Value) (d : TypeDesc)
    (hp : tmps.getD p undef = .pointer (some ⟨g, 0, none⟩)) (hg : w.heap[g]? = some (.cells cs t (0, 0)))
    (hu : P.underlying ty = some d) (hd : (match d with | .struct _ | .array _ _ => true | _ => false) = true) (hi : (P.info? ty).map (·.size) = some cs.size) :
    (results fn tmps).run P w = .ok (.tuple #[.agg cs, tmps.getD u undef, tmps.getD v undef]) w := by
  have hp' : tmps[p]?.getD undef = .pointer (some ⟨g, 0, none⟩) := by simpa using hp
  simp [results, h, hp', asAddr, run_loadVar_row w g t ty cs (0, 0) d hg hu hd hi]
theorem run_append_nn (w : World) (t ty e : TypeId) (z : Value) (bytes : Nat) (ht : P.underlying t = some (.slice e)) (hinfo : (P.info? e).map (fun i => (i.zero, i.size, i.bytes)) = some (some z, 1, bytes)) (hz1 : z.cells = #[z])
    (v u : Value) (xs ys : List Value) (h : Row w e v xs) (hu : Src w u ys) (h1 : ∀ y ∈ ys, y.oneCell' = true) (hb : (xs.length + ys.length) * bytes ≤ 140737488355328) (hl : xs.length + ys.length ≤ 1099511627776) :
    ∃ v' w', (Builtin.append_ #[t, t] ty #[v, u]).run P w = .ok v' w' ∧ Row w' e v' (xs ++ ys) ∧ (∀ k, own v' k → own v k ∨ (w.heap.size ≤ k ∧ k < w'.heap.size)) ∧ Chg (own v) w w' ∧ ((∃ g, own v g) → ∃ g, own v' g) := by
  obtain ⟨i, hi, hz, hsize, hby⟩ := info_parts hinfo
  have hm : ∀ n, n ≤ 1099511627776 → n ≤ maxLen := fun n hn => by unfold maxLen; omega
  rcases hu with ⟨rfl, rfl⟩ | ⟨ad2, cap2, rfl, hu2, hnews⟩
  · exact ⟨v, w, run_append_owned_none w 0 t ty e i 1 ht hi v xs.length xs h.owns, by simpa using h, fun k hk => .inl hk, Chg.refl _ _, id⟩
  · rcases h with ⟨rfl, rfl⟩ | ⟨g, cap, cur, rfl, h1', h2', h3', h4', h5'⟩
    · obtain ⟨v', w', hr, h2, h3, h4⟩ := run_append_src (P := P) w t ty e z bytes ht hinfo hz1 (.slice none 0 0) (.slice (some ad2) ys.length cap2) [] ys (.inl ⟨rfl, rfl⟩) (.inr ⟨ad2, cap2, rfl, hu2, hnews⟩) h1 hb hl
      exact ⟨v', w', hr, h2, h3, h4, fun ⟨g, hg⟩ => (own_none _ _ _ hg).elim⟩
    · by_cases hroom : xs.length + ys.length ≤ cap
      · have hrow : Row w e (.slice (some ⟨g, 0, none⟩) xs.length cap) xs := .inr ⟨g, cap, cur, rfl, h1', h2', h3', h4', h5'⟩
        obtain ⟨w', hr, hown, hg⟩ := run_append_fits (P := P) w 0 t ty e i 1 ht hi hsize g xs.length cap xs hrow.owns ad2 ys.length cap2 ys (by omega) hnews h1 hroom
        exact ⟨_, w', hr, Row.of_owns hown, fun k hk => .inl hk, (Chg.refl _ w).grown hg fun k hk => .inl (by simpa [own, Value.ownBlock] using hk), fun _ => ⟨g, (own_slice _ _ _ _ _ _).2 rfl⟩⟩
      · have hr := run_append_grow (P := P) w t ty e i z ht hi hz ⟨g, 0, none⟩ xs.length cap xs (by rw [hsize]; omega) (fun j y hy => by
          rw [Addr.add_lit, Nat.zero_add, cell_of_row w g j cur e (0, 0) h1']
          rw [← h5', List.getElem?_take] at hy
          split at hy
          · simpa using hy
          · cases hy) ad2 ys.length cap2 ys (by rw [hsize]; omega) hnews (by omega) (by omega) (growslice_fits (by omega) (by rw [hby]; exact hb))
        obtain ⟨v', w', hr2, h2, h3, h4⟩ := run_append_src (P := P) w t ty e z bytes ht hinfo hz1 (.slice (some ⟨g, 0, none⟩) xs.length cap) (.slice (some ad2) ys.length cap2) xs ys (.inr ⟨g, cap, cur, rfl, h1', h2', h3', h4', h5'⟩) (.inr ⟨ad2, cap2, rfl, hu2, hnews⟩) h1 hb hl
        have e1 := hr2.symm.trans hr
        cases e1
        exact ⟨_, _, hr, h2, h3, h4, fun _ => ⟨_, (own_slice _ _ _ _ _ _).2 rfl⟩⟩
variable {ops : Array Oper} {Q : Exit → Act → World → Prop}
theorem append_step_nn {oi : Oper} {N : Option Tmp} {a : Act} {w : World} {K : Act → World → Prop} (hw : Region.wanted oi (yielded ops a.tmps) = true) (hN : oi.dst = N) (s x : Operand) (t e : TypeId) (z : Value) (bytes : Nat)
    (ho : oi.op = .call { callee := .builtin .append, args := #[s, x], argTypes := #[t, t] }) (ht : P.underlying t = some (.slice e)) (hinfo : (P.info? e).map (fun i => (i.zero, i.size, i.bytes)) = some (some z, 1, bytes)) (hz1 : z.cells = #[z])
    (v u : Value) (xs ys : List Value) (hs : a.eval s = v) (hx : a.eval x = u) (h : Row w e v xs) (hu : Src w u ys) (h1 : ∀ y ∈ ys, y.oneCell' = true) (hb : (xs.length + ys.length) * bytes ≤ 140737488355328) (hl : xs.length + ys.length ≤ 1099511627776)
    (hK : ∀ v' w', Row w' e v' (xs ++ ys) → (∀ k, own v' k → own v k ∨ (w.heap.size ≤ k ∧ k < w'.heap.size)) → Chg (own v) w w' → ((∃ g, own v g) → ∃ g, own v' g) → K (a.put N v') w') :
    if Region.wanted oi (yielded ops a.tmps) = true then Oper.wp P oi a w K Q else K (a.put N undef) w := by
  obtain ⟨v', w', hr, h2, h3, h4, h5⟩ := run_append_nn (P := P) w t oi.type e z bytes ht hinfo hz1 v u xs ys h hu h1 hb hl
  refine value_ (w1 := w') (v := v') hw hN ?_ (hK v' w' h2 h3 h4 h5)
  unfold execOp
  simp only [ho, resolve, invoke, builtin, Sem.run_bind, Sem.run_pure, Result.andThen_ok, List.map_toArray, List.map_cons, List.map_nil, hs, hx, hr]
end
/-- What the first append of Put and the literal behind it leave, whatever their order. -/
def HalfP (W : World) (E : TypeId) (ys : List Value) (x : Value) (s : Nat × Nat × (Option Addr × Nat × Nat)) (w' : World) : Prop :=
  Row w' E (.slice s.2.2.1 s.2.2.2.1 s.2.2.2.2) ys ∧ Row w' E (.slice (some ⟨s.2.1, 0, none⟩) 1 1) [x] ∧ (∀ k, own (.slice s.2.2.1 s.2.2.2.1 s.2.2.2.2) k → W.heap.size ≤ k) ∧ (∃ g, own (.slice s.2.2.1 s.2.2.2.1 s.2.2.2.2) g) ∧ Chg NoB W w'
/-- A block of three cells, all stored anew. -/
theorem blk3 {w : World} {g : Nat} {t : TypeId} {x y z : Value} (h : w.heap[g]? = some (.cells #[x, y, z] t (0, 0))) (a b c : Value) :
    (((w.setCell ⟨g, 0, none⟩ a).setCell ⟨g, 1, none⟩ b).setCell ⟨g, 2, none⟩ c).heap[g]? = some (.cells #[a, b, c] t (0, 0)) :=
  heap_setCell_same _ g 2 _ t c (heap_setCell_same _ g 1 _ t b (heap_setCell_same _ g 0 _ t a h))
theorem chg3 {w0 w : World} {g : Nat} (h : Chg NoB w0 w) (hg : w0.heap.size ≤ g) (a b c : Value) : Chg NoB w0 (((w.setCell ⟨g, 0, none⟩ a).setCell ⟨g, 1, none⟩ b).setCell ⟨g, 2, none⟩ c) :=
  ((h.setCell _ (.inr hg) _).setCell _ (.inr hg) _).setCell _ (.inr hg) _

/-- Where a key stands, and what the list is without it and with it. -/
theorem hit_parts {k : ByteArray} {y : Int} {L : List E} (ha : Asc L) (hg : getM k L = some y) (v : Int) : atM k (L.map Prod.fst) < L.length ∧ L.take (atM k (L.map Prod.fst)) ++ L.drop (atM k (L.map Prod.fst) + 1) = delM k L ∧ L.take (atM k (L.map Prod.fst)) ++ [(k, v)] ++ L.drop (atM k (L.map Prod.fst) + 1) = insM k v L := by
  obtain ⟨A, R, hL, hA, g3, g4⟩ := atM_split k L ha
  rw [← hA]
  cases R with
  | nil =>
    rw [hL] at hg; have := getM_lt g3 []; rw [this] at hg; cases hg
  | cons e R =>
    obtain ⟨x, y'⟩ := e
    have hx : kl x k = false := g4 _ rfl
    have hxk : x = k := by
      rw [hL, getM_lt g3] at hg
      cases h3 : kl k x
      · exact kl_tri hx h3
      · have : ∀ e ∈ (x, y') :: R, kl k e.1 = true := by
          intro e he
          rw [hL] at ha
          have h5 := (List.pairwise_cons.1 ha.right).1
          rcases List.mem_cons.1 he with rfl | he
          · exact h3
          · exact kl_trans h3 (h5 e he)
        have h6 := getM_gt this []
        rw [List.nil_append] at h6; rw [h6] at hg; cases hg
    subst hxk
    have hgt : ∀ e ∈ R, kl x e.1 = true := by
      rw [hL] at ha
      exact (List.pairwise_cons.1 ha.right).1
    have d1 : delM x L = A ++ R := by rw [hL, delM_lt g3, delM_hit x y' hgt]
    have d2 : insM x v L = A ++ (x, v) :: R := by rw [hL, insM_lt g3, insM_hit]
    rw [d1, d2, hL]
    refine ⟨by simp, ?_, ?_⟩ <;> simp [List.drop_append]
theorem miss_parts {k : ByteArray} {L : List E} (ha : Asc L) (hg : getM k L = none) (v : Int) : atM k (L.map Prod.fst) ≤ L.length ∧ L.take (atM k (L.map Prod.fst)) ++ [(k, v)] ++ L.drop (atM k (L.map Prod.fst)) = insM k v L := by
  obtain ⟨A, R, hL, hA, g3, g4⟩ := atM_split k L ha
  rw [← hA]
  have d2 : insM k v R = (k, v) :: R := by
    cases R with
    | nil => rfl
    | cons e R =>
      obtain ⟨x, y'⟩ := e
      have hx : kl x k = false := g4 _ rfl
      have hxk : x ≠ k := by
        rintro rfl
        rw [hL, getM_lt g3, getM_hit] at hg; cases hg
      simp [insM, hx, hxk]
  have d3 : insM k v L = A ++ (k, v) :: R := by rw [hL, insM_lt g3, d2]
  rw [d3, hL]
  refine ⟨by simp, ?_⟩
  simp [List.drop_append]

set_option maxHeartbeats 8000000 in
set_option maxRecDepth 100000 in
theorem del34_no (bad : Bool) (ak : Option Addr) (nk ck : Nat) (av : Option Addr) (nv cv : Nat) (key : ByteArray) (L : List E) (w : World) (ha : Asc L) (hk : Row w 9 (.slice ak nk ck) ((L.map Prod.fst).map Value.string)) (hv : Row w 3 (.slice av nv cv) ((L.map Prod.snd).map (Value.int .i64))) (hl : L.length ≤ 1000000) (hg : getM key L = none) :
    Calls Try.prog 34 #[.agg #[.bool bad, .slice ak nk ck, .slice av nv cv], .string key] w fun e w' => e = .returned (.tuple #[.agg #[.bool bad, .slice ak nk ck, .slice av nv cv], .int .i64 0, .bool false]) ∧ Chg NoB w w' := by
  obtain ⟨W1, hW1⟩ : ∃ W1, W1 = w.alloc (.cells #[.bool bad, .slice ak nk ck, .slice av nv cv] 42) := ⟨_, rfl⟩
  have k1 : Chg NoB w W1 := by rw [hW1]; exact (Chg.refl _ _).alloc _
  have hb : W1.heap[w.heap.size]? = some (.cells #[.bool bad, .slice ak nk ck, .slice av nv cv] 42 (0, 0)) := by rw [hW1]; exact heap_alloc_new _ _
  obtain ⟨b, hbb⟩ : ∃ b, b = w.heap.size := ⟨_, rfl⟩
  rw [← hbb] at hb
  have hsz : W1.heap.size = b + 1 := by rw [hW1, hbb]; simp
  obtain ⟨W2, hW2⟩ : ∃ W2, W2 = W1.alloc (.cells #[.bool false, .slice none 0 0, .slice none 0 0] 42) := ⟨_, rfl⟩
  have k2 : Chg NoB W1 W2 := by rw [hW2]; exact (Chg.refl _ _).alloc _
  have hc : W2.heap[b + 1]? = some (.cells #[.bool false, .slice none 0 0, .slice none 0 0] 42 (0, 0)) := by rw [hW2, ← hsz]; exact heap_alloc_new _ _
  replace hb := k2.heap (fun h => h) hb
  have e0 : W2.cell? ⟨b, 0, none⟩ = some (.bool bad) := by rw [cell_of_row W2 b 0 _ _ _ hb]; rfl
  have e1 : W2.cell? ⟨b, 1, none⟩ = some (.slice ak nk ck) := by rw [cell_of_row W2 b 1 _ _ _ hb]; rfl
  have e2 : W2.cell? ⟨b, 2, none⟩ = some (.slice av nv cv) := by rw [cell_of_row W2 b 2 _ _ _ hb]; rfl
  have k12 := k1.trans k2
  have cg := get35 bad ak nk ck av nv cv key L W2 ha (hk.chg k12 fun _ _ h => h) (hv.chg k12 fun _ _ h => h) hl
  rw [hg] at cg
  have cg' := Hid.mk' cg
  have hb' := Hid.mk' hb
  have hc' := Hid.mk' hc
  have hW1' := Hid.mk' hW1
  have hW2' := Hid.mk' hW2
  have hbb' := Hid.mk' hbb
  have hsz' := Hid.mk' hsz
  have k12' := Hid.mk' k12
  have hk' := Hid.mk' (hk.chg k12 fun _ _ h => h)
  have hv' := Hid.mk' (hv.chg k12 fun _ _ h => h)
  clear hk hv cg hb hc hW1 hW2 hbb k1 k2 k12 hsz
  clear hg
  go_enter Try.func34, Try.ntmps34
  go_wp2_with fail
  rw [← hW1'.out, ← hbb'.out, ← hW2'.out]
  refine cg'.out.mono ?_
  rintro e w2 ⟨rfl, k2⟩
  have f0 := k2.cell (fun h => h) e0
  have f1 := k2.cell (fun h => h) e1
  have f2 := k2.cell (fun h => h) e2
  have hc2 := Hid.mk' (k2.heap (fun h => h) hc'.out)
  have k2' := Hid.mk' k2
  have p0 : w2.cell? ⟨b + 1, 0, none⟩ = some (.bool false) := by rw [cell_of_row w2 (b + 1) 0 _ _ _ hc2.out]; rfl
  have p1 : w2.cell? ⟨b + 1, 1, none⟩ = some (.slice none 0 0) := by rw [cell_of_row w2 (b + 1) 1 _ _ _ hc2.out]; rfl
  have p2 : w2.cell? ⟨b + 1, 2, none⟩ = some (.slice none 0 0) := by rw [cell_of_row w2 (b + 1) 2 _ _ _ hc2.out]; rfl
  have q0 := frozen_of_row w2 (b + 1) 0 _ _ hc2.out
  have q1 := frozen_of_row w2 (b + 1) 1 _ _ hc2.out
  have q2 := frozen_of_row w2 (b + 1) 2 _ _ hc2.out
  clear e0 e1 e2 cg' k2 hc'
  go_wp2_with fail
  refine bodyPost_ret (ret_ctt rfl _ _ (b + 1) 42 #[.bool bad, .slice ak nk ck, .slice av nv cv] _ rfl (blk3 hc2.out _ _ _) Try.underlying42 rfl (by kernel_rfl)) rfl ?_
  exact ⟨rfl, chg3 (k12'.out.trans k2'.out) (by have := hbb'.out; omega) _ _ _⟩

set_option maxHeartbeats 8000000 in
set_option maxRecDepth 100000 in
theorem del34_yes (bad : Bool) (gk nk ck gv nv cv : Nat) (key : ByteArray) (L : List E) (y : Int) (w : World) (ha : Asc L) (hk : Row w 9 (.slice (some ⟨gk, 0, none⟩) nk ck) ((L.map Prod.fst).map Value.string)) (hv : Row w 3 (.slice (some ⟨gv, 0, none⟩) nv cv) ((L.map Prod.snd).map (Value.int .i64))) (hl : L.length ≤ 1000000) (hg : getM key L = some y) :
    Calls Try.prog 34 #[.agg #[.bool bad, .slice (some ⟨gk, 0, none⟩) nk ck, .slice (some ⟨gv, 0, none⟩) nv cv], .string key] w fun e w' => ∃ v, e = .returned (.tuple #[v, .int .i64 y, .bool true]) ∧ MapV w' v false (delM key L) ∧ (∀ j, mown v j → w.heap.size ≤ j) ∧ Chg NoB w w' := by
  have hparts := hit_parts ha hg 0
  obtain ⟨W1, hW1⟩ : ∃ W1, W1 = w.alloc (.cells #[.bool bad, .slice (some ⟨gk, 0, none⟩) nk ck, .slice (some ⟨gv, 0, none⟩) nv cv] 42) := ⟨_, rfl⟩
  have k1 : Chg NoB w W1 := by rw [hW1]; exact (Chg.refl _ _).alloc _
  have hb : W1.heap[w.heap.size]? = some (.cells #[.bool bad, .slice (some ⟨gk, 0, none⟩) nk ck, .slice (some ⟨gv, 0, none⟩) nv cv] 42 (0, 0)) := by rw [hW1]; exact heap_alloc_new _ _
  obtain ⟨b, hbb⟩ : ∃ b, b = w.heap.size := ⟨_, rfl⟩
  rw [← hbb] at hb
  have hsz : W1.heap.size = b + 1 := by rw [hW1, hbb]; simp
  obtain ⟨W2, hW2⟩ : ∃ W2, W2 = W1.alloc (.cells #[.bool false, .slice none 0 0, .slice none 0 0] 42) := ⟨_, rfl⟩
  have k2 : Chg NoB W1 W2 := by rw [hW2]; exact (Chg.refl _ _).alloc _
  have hc : W2.heap[b + 1]? = some (.cells #[.bool false, .slice none 0 0, .slice none 0 0] 42 (0, 0)) := by rw [hW2, ← hsz]; exact heap_alloc_new _ _
  replace hb := k2.heap (fun h => h) hb
  have e0 : W2.cell? ⟨b, 0, none⟩ = some (.bool bad) := by rw [cell_of_row W2 b 0 _ _ _ hb]; rfl
  have e1 : W2.cell? ⟨b, 1, none⟩ = some (.slice (some ⟨gk, 0, none⟩) nk ck) := by rw [cell_of_row W2 b 1 _ _ _ hb]; rfl
  have e2 : W2.cell? ⟨b, 2, none⟩ = some (.slice (some ⟨gv, 0, none⟩) nv cv) := by rw [cell_of_row W2 b 2 _ _ _ hb]; rfl
  have k12 := k1.trans k2
  have cg := get35 bad _ nk ck _ nv cv key L W2 ha (hk.chg k12 fun _ _ h => h) (hv.chg k12 fun _ _ h => h) hl
  rw [hg] at cg
  have cg' := Hid.mk' cg
  have hb' := Hid.mk' hb
  have hc' := Hid.mk' hc
  have hW1' := Hid.mk' hW1
  have hW2' := Hid.mk' hW2
  have hbb' := Hid.mk' hbb
  have hsz' := Hid.mk' hsz
  have k12' := Hid.mk' k12
  have hk' := Hid.mk' (hk.chg k12 fun _ _ h => h)
  have hv' := Hid.mk' (hv.chg k12 fun _ _ h => h)
  clear hk hv cg hb hc hW1 hW2 hbb k1 k2 k12 hsz
  clear hg
  have hda := Hid.mk' (delM_asc key L ha)
  obtain ⟨q, hq⟩ : ∃ q, atM key (L.map Prod.fst) = q := ⟨_, rfl⟩
  rw [hq] at hparts
  have hqL := hparts.1
  have hdl := Hid.mk' hparts.2.1
  have hq' := Hid.mk' hq
  clear hparts hq
  go_enter Try.func34, Try.ntmps34
  go_wp2_with fail
  rw [← hW1'.out, ← hbb'.out, ← hW2'.out]
  refine cg'.out.mono ?_
  rintro e w2 ⟨rfl, k2⟩
  have f0 := k2.cell (fun h => h) e0
  have f1 := k2.cell (fun h => h) e1
  have f2 := k2.cell (fun h => h) e2
  have k2' := Hid.mk' k2
  clear e0 e1 e2 cg' k2
  have ca : Hid (Calls Try.prog 51 #[.agg #[.bool bad, .slice (some ⟨gk, 0, none⟩) nk ck, .slice (some ⟨gv, 0, none⟩) nv cv], .string key] w2 fun e w' => e = .returned (.int .i64 (q : Int)) ∧ Chg NoB w2 w') := by
    have := at51 bad _ nk ck (.slice (some ⟨gv, 0, none⟩) nv cv) key (L.map Prod.fst) w2 (hk'.out.chg k2'.out fun _ _ h => h) (by simpa using hl)
    rwa [hq'.out] at this
  go_wp2_with fail
  refine ca.out.mono ?_
  rintro e w3 ⟨rfl, k3⟩
  have k3' := Hid.mk' k3
  clear f0 f1 f2 ca k3
  obtain ⟨W4, hW4⟩ : ∃ W4, W4 = w3.alloc (.cells #[.bool false, .slice none 0 0, .slice none 0 0] 42) := ⟨_, rfl⟩
  obtain ⟨g2, hg2⟩ : ∃ g2, g2 = w3.heap.size := ⟨_, rfl⟩
  have k4 : Chg NoB w3 W4 := by rw [hW4]; exact (Chg.refl _ _).alloc _
  have hG : Hid (W4.heap[g2]? = some (.cells #[.bool false, .slice none 0 0, .slice none 0 0] 42 (0, 0))) := by show _ = _; rw [hW4, hg2]; exact heap_alloc_new _ _
  have k24 : Hid (Chg NoB W2 W4) := (k2'.out.trans k3'.out).trans k4
  have hB : Hid (W4.heap[b]? = some (.cells #[.bool bad, .slice (some ⟨gk, 0, none⟩) nk ck, .slice (some ⟨gv, 0, none⟩) nv cv] 42 (0, 0))) := k24.out.heap (fun h => h) hb'.out
  have hC : Hid (W4.heap[b + 1]? = some (.cells #[.bool false, .slice none 0 0, .slice none 0 0] 42 (0, 0))) := k24.out.heap (fun h => h) hc'.out
  have rK := Hid.mk' (hk'.out.chg k24.out fun _ _ h => h)
  have rV := Hid.mk' (hv'.out.chg k24.out fun _ _ h => h)
  have zb : Hid (b + 1 < g2 ∧ w.heap.size ≤ b ∧ g2 < W4.heap.size) := by
    have h1 := (Array.getElem?_eq_some_iff.1 (k2'.out.trans k3'.out |>.heap (fun h => h) hc'.out)).1
    have h2 := hbb'.out
    refine ⟨by omega, by omega, by rw [hW4, hg2]; simp⟩
  have zv : Hid (∀ j, own (.slice (some ⟨gv, 0, none⟩) nv cv) j → j < g2) := fun j hj => by rw [hg2]; exact (hv'.out.chg (k2'.out.trans k3'.out) fun _ _ h => h).lt hj
  have hW4' := Hid.mk' hW4
  have hg2' := Hid.mk' hg2
  clear hW4 hg2 k4 hk' hb' hc'
  go_upto_region 6 with (fail)
  rw [← hW4'.out, ← hg2'.out]
  have bx : W4.cell? ⟨b, 1, none⟩ = some (.slice (some ⟨gk, 0, none⟩) nk ck) := by rw [cell_of_row W4 b 1 _ _ _ hB.out]; rfl
  have cp2 := rK.out.cap_le.2.1
  have hnn : nk = L.length := by simpa using rK.out.cap_le.1
  have s1 : Hid (Src W4 (.slice (some ⟨gk, 0, none⟩) q ck) (((L.map Prod.fst).take q).map Value.string)) := by show Src _ _ _; rw [List.map_take]; exact (rK.out.cut q (by omega)).src
  obtain ⟨q2, hq2, hif⟩ : ∃ q2, (nk - (q + 1) = 0 ∨ q2 = q + 1) ∧ (if ck = q + 1 then some (⟨gk, 0, none⟩ : Addr) else some ⟨gk, q + 1, none⟩) = some ⟨gk, q2, none⟩ := by
    by_cases hcap : ck = q + 1
    · exact ⟨0, .inl (by omega), by rw [if_pos hcap]⟩
    · exact ⟨q + 1, .inr rfl, by rw [if_neg hcap]⟩
  have s2 : Hid (Src W4 (.slice (some ⟨gk, q2, none⟩) (nk - (q + 1)) (ck - (q + 1))) (((L.map Prod.fst).drop (q + 1)).map Value.string)) := by show Src _ _ _; rw [List.map_drop]; exact rK.out.src_from (q + 1) _ _ rfl (by omega) _ hq2
  have m1 : (q : Int) ≤ (ck : Int) := by omega
  have m3 : (q : Int) + 1 ≤ (nk : Int) := by omega
  have lA : Hid (((([] : List Value)).length + (((L.map Prod.fst).take q).map Value.string).length) * 16 ≤ 140737488355328 ∧ (([] : List Value)).length + (((L.map Prod.fst).take q).map Value.string).length ≤ 1099511627776) := by constructor <;> simp <;> omega
  have lB : Hid (((((L.map Prod.fst).take q).map Value.string).length + (((L.map Prod.fst).drop (q + 1)).map Value.string).length) * 16 ≤ 140737488355328 ∧ (((L.map Prod.fst).take q).map Value.string).length + (((L.map Prod.fst).drop (q + 1)).map Value.string).length ≤ 1099511627776) := by constructor <;> simp <;> omega
  have m0 : (0 : Int) ≤ (q : Int) := by omega
  have m2 : (0 : Int) ≤ (q : Int) + 1 := by omega
  have m4 : ((q : Int) + 1).toNat = q + 1 := by omega
  have m5 : wrap64 ((q : Int) + 1) = (q : Int) + 1 := wrap64_small _ (by omega) (by omega)
  replace hnn := Hid.mk' hnn
  refine start_ (n := 14) (S := fun w' => w'.cell? ⟨b, 1, none⟩ = some (.slice (some ⟨gk, 0, none⟩) nk ck)) (ds := [13]) #[false, false, false, false, false, false, false, false, false, false, false, false, false, false] (by kernel_rfl) rfl rfl (bx) (fun hHeld => ?_)
  refine pure_ (i := 1) (N := some 25) (v := ?_) (a' := ?_) #[false, true, false, false, false, false, false, false, false, false, false, false, false, false] rfl rfl (by kernel_rfl) (fun _ _ _ h => h) (Or.inl ⟨by rfl, ?_⟩) ?_ ?_
  rotate_left
  · intro w'
    go_simp
    with_reducible rfl
  rotate_left
  · simp only [Act.put, List.setIfInBounds_toArray, List.set_cons_zero, List.set_cons_succ, i64_w, i32_w]
    rfl
  refine pure_ (i := 3) (N := some 27) (v := ?_) (a' := ?_) #[false, true, false, true, false, false, false, false, false, false, false, false, false, false] rfl rfl (by kernel_rfl) (fun _ _ _ h => h) (Or.inl ⟨by rfl, ?_⟩) ?_ ?_
  rotate_left
  · intro w'
    go_simp
    with_reducible rfl
  rotate_left
  · simp only [Act.put, List.setIfInBounds_toArray, List.set_cons_zero, List.set_cons_succ, i64_w, i32_w]
    rfl
  refine pure_ (i := 6) (N := some 30) (v := ?_) (a' := ?_) #[false, true, false, true, false, false, true, false, false, false, false, false, false, false] rfl rfl (by kernel_rfl) (fun _ _ _ h => h) (Or.inl ⟨by rfl, ?_⟩) ?_ ?_
  rotate_left
  · intro w'
    go_simp
    with_reducible rfl
  rotate_left
  · simp only [Act.put, List.setIfInBounds_toArray, List.set_cons_zero, List.set_cons_succ, i64_w, i32_w]
    rfl
  refine pure_ (i := 8) (N := some 32) (v := ?_) (a' := ?_) #[false, true, false, true, false, false, true, false, true, false, false, false, false, false] rfl rfl (by kernel_rfl) (fun _ _ _ h => h) (Or.inl ⟨by rfl, ?_⟩) ?_ ?_
  rotate_left
  · intro w'
    go_simp
    with_reducible rfl
  rotate_left
  · simp only [Act.put, List.setIfInBounds_toArray, List.set_cons_zero, List.set_cons_succ, i64_w, i32_w]
    rfl
  refine pure_ (i := 9) (N := some 33) (v := ?_) (a' := ?_) #[false, true, false, true, false, false, true, false, true, true, false, false, false, false] rfl rfl (by kernel_rfl) (fun _ _ _ h => h) (Or.inl ⟨by rfl, ?_⟩) ?_ ?_
  rotate_left
  · intro w'
    go_simp
    with_reducible rfl
  rotate_left
  · simp only [Act.put, List.setIfInBounds_toArray, List.set_cons_zero, List.set_cons_succ, i64_w, i32_w]
    rfl
  refine take_ (i := 2) (N := some 26) (v := ?_) (a' := ?_) #[false, true, true, true, false, false, true, false, true, true, false, false, false, false] rfl rfl (by kernel_rfl) (fun _ _ _ h => h) (Or.inl ⟨by rfl, ?_⟩) hHeld ?_ ?_
  rotate_left
  · intro w' s0
    go_simp
    with_reducible rfl
  rotate_left
  · simp only [Act.put, List.setIfInBounds_toArray, List.set_cons_zero, List.set_cons_succ, i64_w, i32_w]
    rfl
  refine pure_ (i := 4) (N := some 28) (v := ?_) (a' := ?_) #[false, true, true, true, true, false, true, false, true, true, false, false, false, false] rfl rfl (by kernel_rfl) (fun _ _ _ h => h) (Or.inl ⟨by rfl, ?_⟩) ?_ ?_
  rotate_left
  · intro w'
    go_simp
    with_reducible rfl
  rotate_left
  · simp only [Act.put, List.setIfInBounds_toArray, List.set_cons_zero, List.set_cons_succ, i64_w, i32_w]
    rfl
  refine take_ (i := 7) (N := some 31) (v := ?_) (a' := ?_) #[false, true, true, true, true, false, true, true, true, true, false, false, false, false] rfl rfl (by kernel_rfl) (fun _ _ _ h => h) (Or.inl ⟨by rfl, ?_⟩) hHeld ?_ ?_
  rotate_left
  · intro w' s0
    go_simp
    with_reducible rfl
  rotate_left
  · simp only [Act.put, List.setIfInBounds_toArray, List.set_cons_zero, List.set_cons_succ, i64_w, i32_w]
    rfl
  refine pure_ (i := 10) (N := some 34) (v := ?_) (a' := ?_) #[false, true, true, true, true, false, true, true, true, true, true, false, false, false] rfl rfl (by kernel_rfl) (fun _ _ _ h => h) (Or.inl ⟨by rfl, ?_⟩) ?_ ?_
  rotate_left
  · intro w'
    go_simp
    with_reducible rfl
  rotate_left
  · simp only [Act.put, List.setIfInBounds_toArray, List.set_cons_zero, List.set_cons_succ, i64_w, i32_w]
    rfl
  refine one_ (i := 0) (N := some 24) #[true, true, true, true, true, false, true, true, true, true, true, false, false, false] rfl rfl (by kernel_rfl) (by decide) (fun K hK => ?_)
  refine value_ (w1 := ?_) (v := ?_) (by rfl) rfl ?_ ?_
  rotate_left 2
  · go_simp
    constructor
    · rfl
    · rfl
  refine hK.out _ _ ((by first | exact Lib.cell?_alloc_some _ bx | (show World.cell? (World.alloc W4 _) _ = _; exact Lib.cell?_alloc_some _ bx))) (fun hHeld => ?_)
  clear hK K
  refine norm_ (a' := ?_) ?_ ?_
  rotate_left
  · show Act.put _ (some 24) _ = _
    simp only [Act.put, List.setIfInBounds_toArray, List.set_cons_zero, List.set_cons_succ, i64_w, i32_w]
    rfl
  refine one_ (i := 5) (N := some 29) #[true, true, true, true, true, true, true, true, true, true, true, false, false, false] rfl rfl (by kernel_rfl) (by decide) (fun K hK => ?_)
  refine append_step_nn (by rfl) rfl (.tmp 24) (.tmp 28) 34 9 (.string ⟨#[]⟩) 16 rfl Try.underlying34 info9 rfl (.slice (some ⟨W4.heap.size, 0, none⟩) 0 0) (.slice (some ⟨gk, 0, none⟩) q ck) ([]) (((L.map Prod.fst).take q).map Value.string) (by rfl) (by rfl) (by first | exact Row.lit0D _ _ | exact Row.lit0 _ _) (by first | exact s1.out.alD _ | exact s1.out.al _) (by first | exact str_cell _ | (intro y hy; cases hy)) lA.out.1 lA.out.2 ?_
  intro v5 w5 r5 o5 k5 n5
  obtain ⟨a5, m5', c5, rfl, l5⟩ := r5.form'
  replace n5 := n5 ⟨_, (own_slice _ _ _ _ _ _).2 rfl⟩
  have kz5 : Hid (Chg NoB W4 w5) := by first | exact lit_oneD k5 | exact lit_one k5
  replace r5 := Hid.mk' r5; replace o5 := Hid.mk' o5; replace k5 := Hid.mk' k5; replace n5 := Hid.mk' n5
  refine hK.out _ _ ((kz5.out.cell (fun h => h) bx)) (fun hHeld => ?_)
  clear hK K
  refine norm_ (a' := ?_) ?_ ?_
  rotate_left
  · show Act.put _ (some 29) _ = _
    simp only [Act.put, List.setIfInBounds_toArray, List.set_cons_zero, List.set_cons_succ, i64_w, i32_w]
    rfl
  refine one_ (i := 11) (N := some 35) #[true, true, true, true, true, true, true, true, true, true, true, true, false, false] rfl rfl (by kernel_rfl) (by decide) (fun K hK => ?_)
  refine append_step_nn (by rfl) rfl (.tmp 29) (.tmp 34) 34 9 (.string ⟨#[]⟩) 16 rfl Try.underlying34 info9 rfl (.slice a5 m5' c5) (.slice (some ⟨gk, q2, none⟩) (nk - (q + 1)) (ck - (q + 1))) (((L.map Prod.fst).take q).map Value.string) (((L.map Prod.fst).drop (q + 1)).map Value.string) (by rfl) (by rfl) (by simpa using r5.out) (s2.out.chg kz5.out (fun _ _ h => h)) (by first | exact str_cell _ | (intro y hy; cases hy)) lB.out.1 lB.out.2 ?_
  intro v6 w6 r6 o6 k6 n6
  obtain ⟨a6, m6', c6, rfl, l6⟩ := r6.form'
  replace n6 := n6 n5.out
  obtain ⟨kz6, oz6⟩ := lit_two (by first | exact k5.out | exact k5.out.undrew) o5.out k6 o6
  replace kz6 := Hid.mk' kz6; replace oz6 := Hid.mk' oz6; replace r6 := Hid.mk' r6; replace n6 := Hid.mk' n6
  clear o6 k6
  have hG6 := Hid.mk' ((kz6.out).heap (fun h => h) hG.out)
  have p1 : w6.cell? ⟨g2, 1, none⟩ = some (.slice none 0 0) := by rw [cell_of_row w6 g2 1 _ _ _ hG6.out]; rfl
  have q1 := frozen_of_row w6 g2 1 _ _ hG6.out
  refine hK.out _ _ ((kz6.out.cell (fun h => h) bx)) (fun hHeld => ?_)
  clear hK K
  refine norm_ (a' := ?_) ?_ ?_
  rotate_left
  · show Act.put _ (some 35) _ = _
    simp only [Act.put, List.setIfInBounds_toArray, List.set_cons_zero, List.set_cons_succ, i64_w, i32_w]
    rfl
  refine pure_ (i := 12) (N := some 36) (v := ?_) (a' := ?_) #[true, true, true, true, true, true, true, true, true, true, true, true, true, false] rfl rfl (by kernel_rfl) (fun _ _ _ h => h) (Or.inl ⟨by rfl, ?_⟩) ?_ ?_
  rotate_left
  · intro w'
    go_simp
    with_reducible rfl
  rotate_left
  · simp only [Act.put, List.setIfInBounds_toArray, List.set_cons_zero, List.set_cons_succ, i64_w, i32_w]
    rfl
  refine last_ (i := 13) (N := none) #[true, true, true, true, true, true, true, true, true, true, true, true, true, true] rfl rfl (by kernel_rfl) (by decide) (fun K hK => ?_)
  refine skip_ (w1 := ?_) (by rfl) rfl ?_ ?_
  rotate_left
  · go_simp
    rfl
  refine hK.out _ _ ?_
  clear hK K
  refine done_ (by kernel_rfl) ?_
  obtain ⟨g6, hg6⟩ := n6.out
  have ha6 := own_some r6.out hg6
  subst ha6
  obtain ⟨W5, hW5⟩ : ∃ W5, W5 = w6.setCell ⟨g2, 1, none⟩ (.slice (some ⟨g6, 0, none⟩) m6' c6) := ⟨_, rfl⟩
  have kS : Chg (fun k => k = g2) w6 W5 := by rw [hW5]; exact (Chg.refl (fun k => k = g2) _).setCell _ (.inl rfl) _
  have kt : Chg (fun k => k = g2) W4 W5 := (kz6.out.mono fun _ h => h.elim).trans kS
  have hGW5 : Hid (W5.heap[g2]? = some (.cells #[.bool false, .slice (some ⟨g6, 0, none⟩) m6' c6, .slice none 0 0] 42 (0, 0))) := by show _ = _; rw [hW5]; exact heap_setCell_same _ g2 1 _ 42 _ hG6.out
  have hBW5 : Hid (W5.heap[b]? = some (.cells #[.bool bad, .slice (some ⟨gk, 0, none⟩) nk ck, .slice (some ⟨gv, 0, none⟩) nv cv] 42 (0, 0))) := kt.heap (fun h => by have := zb.out; omega) hB.out
  have hCW5 : Hid (W5.heap[b + 1]? = some (.cells #[.bool false, .slice none 0 0, .slice none 0 0] 42 (0, 0))) := kt.heap (fun h => by have := zb.out; omega) hC.out
  have res1 : Hid (Row W5 9 (.slice (some ⟨g6, 0, none⟩) m6' c6) (((L.map Prod.fst).take q).map Value.string ++ ((L.map Prod.fst).drop (q + 1)).map Value.string)) := (r6.out.chg kS fun j a b => by have h1 := oz6.out j a; have h2 := zb.out.2.2; omega)
  have zr1 : Hid (∀ j, own (.slice (some ⟨g6, 0, none⟩) m6' c6) j → g2 < j) := fun j hj => by have h1 := oz6.out j hj; have h2 := zb.out.2.2; omega
  have hkW5 := Hid.mk' hW5
  rw [← hW5]
  have rV5 := Hid.mk' (rV.out.chg kt fun j a b => by have := zv.out j a; omega)
  have k45 : Hid (Chg (fun k => k = g2) W4 W5) := kt
  obtain ⟨gr, mr, cr, hrr⟩ : ∃ gr mr cr, gr = g6 ∧ mr = m6' ∧ cr = c6 := ⟨_, _, _, rfl, rfl, rfl⟩
  obtain ⟨rfl, rfl, rfl⟩ := hrr
  clear bx cp2 hnn s1 hq2 hif s2 m1 m3 lA lB m0 m2 m4 m5 hg6 hW5 kS kt n6 r6 oz6 kz6 hG6 p1 q1 rV n5 k5 o5 r5 kz5 l5 l6 hHeld
  go_wp2_with fail
  replace rV5 := rV5
  have hB := hBW5
  have hC := hCW5
  have hG := hGW5
  clear hBW5 hCW5 hGW5
  have bx : W5.cell? ⟨b, 2, none⟩ = some (.slice (some ⟨gv, 0, none⟩) nv cv) := by rw [cell_of_row W5 b 2 _ _ _ hB.out]; rfl
  have cp2 := rV5.out.cap_le.2.1
  have hnn : nv = L.length := by simpa using rV5.out.cap_le.1
  have s1 : Hid (Src W5 (.slice (some ⟨gv, 0, none⟩) q cv) (((L.map Prod.snd).take q).map (Value.int .i64))) := by show Src _ _ _; rw [List.map_take]; exact (rV5.out.cut q (by omega)).src
  obtain ⟨q2, hq2, hif⟩ : ∃ q2, (nv - (q + 1) = 0 ∨ q2 = q + 1) ∧ (if cv = q + 1 then some (⟨gv, 0, none⟩ : Addr) else some ⟨gv, q + 1, none⟩) = some ⟨gv, q2, none⟩ := by
    by_cases hcap : cv = q + 1
    · exact ⟨0, .inl (by omega), by rw [if_pos hcap]⟩
    · exact ⟨q + 1, .inr rfl, by rw [if_neg hcap]⟩
  have s2 : Hid (Src W5 (.slice (some ⟨gv, q2, none⟩) (nv - (q + 1)) (cv - (q + 1))) (((L.map Prod.snd).drop (q + 1)).map (Value.int .i64))) := by show Src _ _ _; rw [List.map_drop]; exact rV5.out.src_from (q + 1) _ _ rfl (by omega) _ hq2
  have m1 : (q : Int) ≤ (cv : Int) := by omega
  have m3 : (q : Int) + 1 ≤ (nv : Int) := by omega
  have lA : Hid (((([] : List Value)).length + (((L.map Prod.snd).take q).map (Value.int .i64)).length) * 8 ≤ 140737488355328 ∧ (([] : List Value)).length + (((L.map Prod.snd).take q).map (Value.int .i64)).length ≤ 1099511627776) := by constructor <;> simp <;> omega
  have lB : Hid (((((L.map Prod.snd).take q).map (Value.int .i64)).length + (((L.map Prod.snd).drop (q + 1)).map (Value.int .i64)).length) * 8 ≤ 140737488355328 ∧ (((L.map Prod.snd).take q).map (Value.int .i64)).length + (((L.map Prod.snd).drop (q + 1)).map (Value.int .i64)).length ≤ 1099511627776) := by constructor <;> simp <;> omega
  have m0 : (0 : Int) ≤ (q : Int) := by omega
  have m2 : (0 : Int) ≤ (q : Int) + 1 := by omega
  have m4 : ((q : Int) + 1).toNat = q + 1 := by omega
  have m5 : wrap64 ((q : Int) + 1) = (q : Int) + 1 := wrap64_small _ (by omega) (by omega)
  replace hnn := Hid.mk' hnn
  refine start_ (n := 14) (S := fun w' => w'.cell? ⟨b, 2, none⟩ = some (.slice (some ⟨gv, 0, none⟩) nv cv)) (ds := [13]) #[false, false, false, false, false, false, false, false, false, false, false, false, false, false] (by kernel_rfl) rfl rfl (bx) (fun hHeld => ?_)
  refine pure_ (i := 1) (N := some 38) (v := ?_) (a' := ?_) #[false, true, false, false, false, false, false, false, false, false, false, false, false, false] rfl rfl (by kernel_rfl) (fun _ _ _ h => h) (Or.inl ⟨by rfl, ?_⟩) ?_ ?_
  rotate_left
  · intro w'
    go_simp
    with_reducible rfl
  rotate_left
  · simp only [Act.put, List.setIfInBounds_toArray, List.set_cons_zero, List.set_cons_succ, i64_w, i32_w]
    rfl
  refine pure_ (i := 3) (N := some 40) (v := ?_) (a' := ?_) #[false, true, false, true, false, false, false, false, false, false, false, false, false, false] rfl rfl (by kernel_rfl) (fun _ _ _ h => h) (Or.inl ⟨by rfl, ?_⟩) ?_ ?_
  rotate_left
  · intro w'
    go_simp
    with_reducible rfl
  rotate_left
  · simp only [Act.put, List.setIfInBounds_toArray, List.set_cons_zero, List.set_cons_succ, i64_w, i32_w]
    rfl
  refine pure_ (i := 6) (N := some 43) (v := ?_) (a' := ?_) #[false, true, false, true, false, false, true, false, false, false, false, false, false, false] rfl rfl (by kernel_rfl) (fun _ _ _ h => h) (Or.inl ⟨by rfl, ?_⟩) ?_ ?_
  rotate_left
  · intro w'
    go_simp
    with_reducible rfl
  rotate_left
  · simp only [Act.put, List.setIfInBounds_toArray, List.set_cons_zero, List.set_cons_succ, i64_w, i32_w]
    rfl
  refine pure_ (i := 8) (N := some 45) (v := ?_) (a' := ?_) #[false, true, false, true, false, false, true, false, true, false, false, false, false, false] rfl rfl (by kernel_rfl) (fun _ _ _ h => h) (Or.inl ⟨by rfl, ?_⟩) ?_ ?_
  rotate_left
  · intro w'
    go_simp
    with_reducible rfl
  rotate_left
  · simp only [Act.put, List.setIfInBounds_toArray, List.set_cons_zero, List.set_cons_succ, i64_w, i32_w]
    rfl
  refine pure_ (i := 9) (N := some 46) (v := ?_) (a' := ?_) #[false, true, false, true, false, false, true, false, true, true, false, false, false, false] rfl rfl (by kernel_rfl) (fun _ _ _ h => h) (Or.inl ⟨by rfl, ?_⟩) ?_ ?_
  rotate_left
  · intro w'
    go_simp
    with_reducible rfl
  rotate_left
  · simp only [Act.put, List.setIfInBounds_toArray, List.set_cons_zero, List.set_cons_succ, i64_w, i32_w]
    rfl
  refine take_ (i := 2) (N := some 39) (v := ?_) (a' := ?_) #[false, true, true, true, false, false, true, false, true, true, false, false, false, false] rfl rfl (by kernel_rfl) (fun _ _ _ h => h) (Or.inl ⟨by rfl, ?_⟩) hHeld ?_ ?_
  rotate_left
  · intro w' s0
    go_simp
    with_reducible rfl
  rotate_left
  · simp only [Act.put, List.setIfInBounds_toArray, List.set_cons_zero, List.set_cons_succ, i64_w, i32_w]
    rfl
  refine pure_ (i := 4) (N := some 41) (v := ?_) (a' := ?_) #[false, true, true, true, true, false, true, false, true, true, false, false, false, false] rfl rfl (by kernel_rfl) (fun _ _ _ h => h) (Or.inl ⟨by rfl, ?_⟩) ?_ ?_
  rotate_left
  · intro w'
    go_simp
    with_reducible rfl
  rotate_left
  · simp only [Act.put, List.setIfInBounds_toArray, List.set_cons_zero, List.set_cons_succ, i64_w, i32_w]
    rfl
  refine take_ (i := 7) (N := some 44) (v := ?_) (a' := ?_) #[false, true, true, true, true, false, true, true, true, true, false, false, false, false] rfl rfl (by kernel_rfl) (fun _ _ _ h => h) (Or.inl ⟨by rfl, ?_⟩) hHeld ?_ ?_
  rotate_left
  · intro w' s0
    go_simp
    with_reducible rfl
  rotate_left
  · simp only [Act.put, List.setIfInBounds_toArray, List.set_cons_zero, List.set_cons_succ, i64_w, i32_w]
    rfl
  refine pure_ (i := 10) (N := some 47) (v := ?_) (a' := ?_) #[false, true, true, true, true, false, true, true, true, true, true, false, false, false] rfl rfl (by kernel_rfl) (fun _ _ _ h => h) (Or.inl ⟨by rfl, ?_⟩) ?_ ?_
  rotate_left
  · intro w'
    go_simp
    with_reducible rfl
  rotate_left
  · simp only [Act.put, List.setIfInBounds_toArray, List.set_cons_zero, List.set_cons_succ, i64_w, i32_w]
    rfl
  refine one_ (i := 0) (N := some 37) #[true, true, true, true, true, false, true, true, true, true, true, false, false, false] rfl rfl (by kernel_rfl) (by decide) (fun K hK => ?_)
  refine value_ (w1 := ?_) (v := ?_) (by rfl) rfl ?_ ?_
  rotate_left 2
  · go_simp
    constructor
    · rfl
    · rfl
  refine hK.out _ _ ((by first | exact Lib.cell?_alloc_some _ bx | (show World.cell? (World.alloc W5 _) _ = _; exact Lib.cell?_alloc_some _ bx))) (fun hHeld => ?_)
  clear hK K
  refine norm_ (a' := ?_) ?_ ?_
  rotate_left
  · show Act.put _ (some 37) _ = _
    simp only [Act.put, List.setIfInBounds_toArray, List.set_cons_zero, List.set_cons_succ, i64_w, i32_w]
    rfl
  refine one_ (i := 5) (N := some 42) #[true, true, true, true, true, true, true, true, true, true, true, false, false, false] rfl rfl (by kernel_rfl) (by decide) (fun K hK => ?_)
  refine append_step_nn (by rfl) rfl (.tmp 37) (.tmp 41) 35 3 (.int .i64 0) 8 rfl Try.underlying35 info3 rfl (.slice (some ⟨W5.heap.size, 0, none⟩) 0 0) (.slice (some ⟨gv, 0, none⟩) q cv) ([]) (((L.map Prod.snd).take q).map (Value.int .i64)) (by rfl) (by rfl) (by first | exact Row.lit0D _ _ | exact Row.lit0 _ _) (by first | exact s1.out.alD _ | exact s1.out.al _) (by first | exact int_cell _ | (intro y hy; cases hy)) lA.out.1 lA.out.2 ?_
  intro v5 w5 r5 o5 k5 n5
  obtain ⟨a5, m5', c5, rfl, l5⟩ := r5.form'
  replace n5 := n5 ⟨_, (own_slice _ _ _ _ _ _).2 rfl⟩
  have kz5 : Hid (Chg NoB W5 w5) := by first | exact lit_oneD k5 | exact lit_one k5
  replace r5 := Hid.mk' r5; replace o5 := Hid.mk' o5; replace k5 := Hid.mk' k5; replace n5 := Hid.mk' n5
  refine hK.out _ _ ((kz5.out.cell (fun h => h) bx)) (fun hHeld => ?_)
  clear hK K
  refine norm_ (a' := ?_) ?_ ?_
  rotate_left
  · show Act.put _ (some 42) _ = _
    simp only [Act.put, List.setIfInBounds_toArray, List.set_cons_zero, List.set_cons_succ, i64_w, i32_w]
    rfl
  refine one_ (i := 11) (N := some 48) #[true, true, true, true, true, true, true, true, true, true, true, true, false, false] rfl rfl (by kernel_rfl) (by decide) (fun K hK => ?_)
  refine append_step_nn (by rfl) rfl (.tmp 42) (.tmp 47) 35 3 (.int .i64 0) 8 rfl Try.underlying35 info3 rfl (.slice a5 m5' c5) (.slice (some ⟨gv, q2, none⟩) (nv - (q + 1)) (cv - (q + 1))) (((L.map Prod.snd).take q).map (Value.int .i64)) (((L.map Prod.snd).drop (q + 1)).map (Value.int .i64)) (by rfl) (by rfl) (by simpa using r5.out) (s2.out.chg kz5.out (fun _ _ h => h)) (by first | exact int_cell _ | (intro y hy; cases hy)) lB.out.1 lB.out.2 ?_
  intro v6 w9 r6 o6 k6 n6
  obtain ⟨a6, m6', c6, rfl, l6⟩ := r6.form'
  replace n6 := n6 n5.out
  obtain ⟨kz6, oz6⟩ := lit_two (by first | exact k5.out | exact k5.out.undrew) o5.out k6 o6
  replace kz6 := Hid.mk' kz6; replace oz6 := Hid.mk' oz6; replace r6 := Hid.mk' r6; replace n6 := Hid.mk' n6
  clear o6 k6
  have hG6 := Hid.mk' ((kz6.out).heap (fun h => h) hG.out)
  have p2 : w9.cell? ⟨g2, 2, none⟩ = some (.slice none 0 0) := by rw [cell_of_row w9 g2 2 _ _ _ hG6.out]; rfl
  have q2 := frozen_of_row w9 g2 2 _ _ hG6.out
  refine hK.out _ _ ((kz6.out.cell (fun h => h) bx)) (fun hHeld => ?_)
  clear hK K
  refine norm_ (a' := ?_) ?_ ?_
  rotate_left
  · show Act.put _ (some 48) _ = _
    simp only [Act.put, List.setIfInBounds_toArray, List.set_cons_zero, List.set_cons_succ, i64_w, i32_w]
    rfl
  refine pure_ (i := 12) (N := some 49) (v := ?_) (a' := ?_) #[true, true, true, true, true, true, true, true, true, true, true, true, true, false] rfl rfl (by kernel_rfl) (fun _ _ _ h => h) (Or.inl ⟨by rfl, ?_⟩) ?_ ?_
  rotate_left
  · intro w'
    go_simp
    with_reducible rfl
  rotate_left
  · simp only [Act.put, List.setIfInBounds_toArray, List.set_cons_zero, List.set_cons_succ, i64_w, i32_w]
    rfl
  refine last_ (i := 13) (N := none) #[true, true, true, true, true, true, true, true, true, true, true, true, true, true] rfl rfl (by kernel_rfl) (by decide) (fun K hK => ?_)
  refine skip_ (w1 := ?_) (by rfl) rfl ?_ ?_
  rotate_left
  · go_simp
    rfl
  refine hK.out _ _ ?_
  clear hK K
  refine done_ (by kernel_rfl) ?_
  obtain ⟨g6, hg6⟩ := n6.out
  have ha6 := own_some r6.out hg6
  subst ha6
  obtain ⟨W6, hW6⟩ : ∃ W6, W6 = w9.setCell ⟨g2, 2, none⟩ (.slice (some ⟨g6, 0, none⟩) m6' c6) := ⟨_, rfl⟩
  have kS : Chg (fun k => k = g2) w9 W6 := by rw [hW6]; exact (Chg.refl (fun k => k = g2) _).setCell _ (.inl rfl) _
  have kt : Chg (fun k => k = g2) W5 W6 := (kz6.out.mono fun _ h => h.elim).trans kS
  have sz5 : W4.heap.size ≤ W5.heap.size := k45.out.size
  have hG9 : W6.heap[g2]? = some (.cells #[.bool false, .slice (some ⟨gr, 0, none⟩) mr cr, .slice (some ⟨g6, 0, none⟩) m6' c6] 42 (0, 0)) := by rw [hW6]; exact heap_setCell_same _ g2 2 _ 42 _ hG6.out
  have hc2 : Hid (W6.heap[b + 1]? = some (.cells #[.bool false, .slice none 0 0, .slice none 0 0] 42 (0, 0))) := kt.heap (fun h => by have := zb.out; omega) hC.out
  have res2 : Hid (Row W6 3 (.slice (some ⟨g6, 0, none⟩) m6' c6) (((L.map Prod.snd).take q).map (Value.int .i64) ++ ((L.map Prod.snd).drop (q + 1)).map (Value.int .i64))) := (r6.out.chg kS fun j a b => by have h1 := oz6.out j a; have h2 := zb.out.2.2; omega)
  have res1' : Hid (Row W6 9 (.slice (some ⟨gr, 0, none⟩) mr cr) (((L.map Prod.fst).take q).map Value.string ++ ((L.map Prod.fst).drop (q + 1)).map Value.string)) := res1.out.chg kt fun j a b => by have := zr1.out j a; omega
  have res2z : Hid (∀ j, own (.slice (some ⟨g6, 0, none⟩) m6' c6) j → g2 < j) := fun j hj => by have h1 := oz6.out j hj; have h2 := zb.out.2.2; omega
  have kall : Hid (Chg NoB w W6) := ((k12'.out.trans k24.out).trans' k45.out fun j hj => .inr (by have := zb.out; omega)).trans' kt fun j hj => .inr (by have := zb.out; omega)
  have e0 : W6.cell? ⟨g2, 0, none⟩ = some (.bool false) := by rw [cell_of_row W6 g2 0 _ _ _ hG9]; rfl
  have e1 : W6.cell? ⟨g2, 1, none⟩ = some (.slice (some ⟨gr, 0, none⟩) mr cr) := by rw [cell_of_row W6 g2 1 _ _ _ hG9]; rfl
  have e2 : W6.cell? ⟨g2, 2, none⟩ = some (.slice (some ⟨g6, 0, none⟩) m6' c6) := by rw [cell_of_row W6 g2 2 _ _ _ hG9]; rfl
  clear p2 q2 hG9
  have p0 : W6.cell? ⟨b + 1, 0, none⟩ = some (.bool false) := by rw [cell_of_row W6 (b + 1) 0 _ _ _ hc2.out]; rfl
  have p1 : W6.cell? ⟨b + 1, 1, none⟩ = some (.slice none 0 0) := by rw [cell_of_row W6 (b + 1) 1 _ _ _ hc2.out]; rfl
  have p2 : W6.cell? ⟨b + 1, 2, none⟩ = some (.slice none 0 0) := by rw [cell_of_row W6 (b + 1) 2 _ _ _ hc2.out]; rfl
  have q0 := frozen_of_row W6 (b + 1) 0 _ _ hc2.out
  have q1 := frozen_of_row W6 (b + 1) 1 _ _ hc2.out
  have q2 := frozen_of_row W6 (b + 1) 2 _ _ hc2.out
  rw [← hW6]
  have hzb : Hid (w.heap.size ≤ b + 1) := by show _ ≤ _; have := zb.out; omega
  clear bx cp2 hnn s1 hif s2 m1 m3 lA lB m0 m2 m4 m5 hg6 hW6 kS kt n6 r6 oz6 kz6 hG6 n5 k5 o5 r5 kz5 l5 l6 hHeld
  go_wp2_with fail
  refine bodyPost_ret (ret_ctt rfl _ _ (b + 1) 42 #[.bool false, .slice (some ⟨gr, 0, none⟩) mr cr, .slice (some ⟨g6, 0, none⟩) m6' c6] _ rfl (blk3 hc2.out _ _ _) Try.underlying42 rfl (by kernel_rfl)) rfl ?_
  have kf : Chg (fun k => k = b + 1) W6 (((W6.setCell ⟨b + 1, 0, none⟩ (.bool false)).setCell ⟨b + 1, 1, none⟩ (.slice (some ⟨gr, 0, none⟩) mr cr)).setCell ⟨b + 1, 2, none⟩ (.slice (some ⟨g6, 0, none⟩) m6' c6)) := (((Chg.refl (fun k => k = b + 1) W6).setCell _ (.inl rfl) _).setCell _ (.inl rfl) _).setCell _ (.inl rfl) _
  refine ⟨_, rfl, .inr ⟨gr, mr, cr, g6, m6', c6, rfl, ?_, ?_, hda.out⟩, fun j hj => by have h2 := zb.out; rcases hj with hj | hj; (have h1 := zr1.out j hj; omega); (have h1 := res2z.out j hj; omega), chg3 kall.out hzb.out _ _ _⟩
  · have := res1'.out.chg kf fun j a b => by have h1 := zr1.out j a; have h2 := zb.out; omega
    rwa [← List.map_append, ← List.map_take, ← List.map_drop, ← List.map_append, hdl.out] at this
  · have := res2.out.chg kf fun j a b => by have h1 := res2z.out j a; have h2 := zb.out; omega
    rwa [← List.map_append, ← List.map_take, ← List.map_drop, ← List.map_append, hdl.out] at this
end Go.Proofs.Ytamnmoejjjaegaa
