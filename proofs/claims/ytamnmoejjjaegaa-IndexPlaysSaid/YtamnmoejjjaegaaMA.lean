/- The document's map: what at and Get return. Conditions: at most 1000000 keys. -/
import Derived.Test.YtamnmoejjjaegaaOS
set_option linter.unusedVariables false
set_option linter.unusedSimpArgs false
namespace Go.Proofs.Ytamnmoejjjaegaa
open Go Go.RowKit Go.Proofs.YtamnmoejjjaegaaW.PrintLast

/-- The first key that is not less than a key. -/
def atM (k : ByteArray) : List ByteArray → Nat
  | [] => 0
  | x :: xs => if kl x k then atM k xs + 1 else 0
theorem atM_le (k : ByteArray) : ∀ xs : List ByteArray, atM k xs ≤ xs.length
  | [] => Nat.le_refl _
  | x :: xs => by
    rw [atM]
    split
    · have := atM_le k xs; simp; omega
    · omega
theorem atM_split (k : ByteArray) : ∀ L : List E, Asc L → ∃ A R, L = A ++ R ∧ A.length = atM k (L.map Prod.fst) ∧ (∀ e ∈ A, kl e.1 k = true) ∧ (∀ e, R.head? = some e → kl e.1 k = false)
  | [], _ => ⟨[], [], rfl, rfl, fun e he => by simp at he, fun e he => by simp at he⟩
  | e :: L, ha => by
    have h2 := List.pairwise_cons.1 ha
    rw [List.map_cons, atM]
    cases h : kl e.1 k
    · exact ⟨[], e :: L, rfl, by simp, fun e he => by simp at he, fun x hx => by simp at hx; rw [← hx]; exact h⟩
    · obtain ⟨A, R, g1, g2, g3, g4⟩ := atM_split k L h2.2
      refine ⟨e :: A, R, by rw [g1]; rfl, by simp [g2], fun x hx => ?_, g4⟩
      rcases List.mem_cons.1 hx with rfl | hx
      · exact h
      · exact g3 x hx

set_option maxHeartbeats 4000000 in
set_option maxRecDepth 100000 in
theorem at51 (bad : Bool) (ak : Option Addr) (nk ck : Nat) (vv : Value) (k : ByteArray) (ks : List ByteArray) (w : World) (hk : Row w 9 (.slice ak nk ck) (ks.map Value.string)) (hl : ks.length ≤ 1000000) :
    Calls Try.prog 51 #[.agg #[.bool bad, .slice ak nk ck, vv], .string k] w fun e w' => e = .returned (.int .i64 (atM k ks : Int)) ∧ Chg NoB w w' := by
  obtain ⟨W1, hW1⟩ : ∃ W1, W1 = w.alloc (.cells #[.bool bad, .slice ak nk ck, vv] 42) := ⟨_, rfl⟩
  have k1 : Chg NoB w W1 := by rw [hW1]; exact (Chg.refl _ _).alloc _
  have hb : W1.heap[w.heap.size]? = some (.cells #[.bool bad, .slice ak nk ck, vv] 42 (0, 0)) := by rw [hW1]; exact heap_alloc_new _ _
  obtain ⟨b, hbb⟩ : ∃ b, b = w.heap.size := ⟨_, rfl⟩
  rw [← hbb] at hb
  have e1 : W1.cell? ⟨b, 1, none⟩ = some (.slice ak nk ck) := by rw [cell_of_row W1 b 1 _ _ _ hb]; rfl
  have hr := Hid.mk' (hk.chg k1 fun _ _ h => h)
  have hn : Hid (nk = ks.length) := by show _ = _; simpa using hk.cap_le.1
  have n1 : nk ≤ 1000000 := by rw [hn.out]; exact hl
  have k1' := Hid.mk' k1
  have hW' := Hid.mk' hW1
  have hbb' := Hid.mk' hbb
  obtain ⟨r, hr2⟩ : ∃ r, atM k ks = r := ⟨_, rfl⟩
  rw [hr2]
  have hd := Hid.mk' (show 0 + atM k (ks.drop 0) = r by simpa using hr2)
  clear hb hW1 hbb k1 hk hr2 hl
  go_enter Try.func51, Try.ntmps51
  go_wp2_with fail
  rw [← hW'.out, ← hbb'.out]
  go_loopg [5] nk (fun gq s5 wr => ∃ i : Nat, i + gq = nk ∧ s5 = .int .i64 (i : Int) ∧ Hid (i + atM k (ks.drop i) = r) ∧ wr = W1)
  case atStart => exact ⟨0, by omega, rfl, hd, rfl⟩
  case round =>
    clear hd
    obtain ⟨i, hgi, rfl, hd, rfl⟩ := hrel
    have n3 : IntKind.i64.wrap ((i : Int) + 1) = (i : Int) + 1 := by rw [IntKind.wrap_i64]; omega
    by_cases hi : i < nk
    · have hi1 : i < ks.length := by have := hn.out; omega
      obtain ⟨g1, rfl, c1⟩ := row_str hr.out i hi1
      have hdr := hd.out
      rw [List.drop_eq_getElem_cons hi1, atM] at hdr
      obtain ⟨x, hx⟩ : ∃ x, ks[i] = x := ⟨_, rfl⟩
      rw [hx] at c1 hdr
      clear hx hi1 hd
      obtain ⟨g', rfl⟩ : ∃ g', gk = g' + 1 := ⟨gk - 1, by omega⟩
      have b1 : (i : Int) < (nk : Int) := by omega
      have b0 : (0 : Int) ≤ (i : Int) := by omega
      cases hxk : kl x k
      · have t1 : Op.bytesLess x.toList k.toList = false := hxk
        obtain rfl : i = r := by simpa [hxk] using hdr
        clear hdr hxk
        go_wp2_with fail
        go_ret
        exact ⟨rfl, k1'.out⟩
      · have t1 : Op.bytesLess x.toList k.toList = true := hxk
        have hd' : Hid (i + 1 + atM k (ks.drop (i + 1)) = r) := by show _ = _; rw [← hdr, hxk]; simp; omega
        clear hdr hxk
        go_wp2_with fail
        go_roundg g'
        case measure => omega
        case rel => exact ⟨i + 1, by omega, by simp, hd', rfl⟩
    · have b1 : ¬ ((i : Int) < (nk : Int)) := by omega
      have b2 : decide ((i : Int) < (nk : Int)) = false := by simp; omega
      have b3 : decide (i < nk) = false := by simp; omega
      obtain rfl : i = r := by
        have := hd.out
        rw [List.drop_of_length_le (by have := hn.out; omega)] at this
        simpa [atM] using this
      clear hd
      go_wp2_with fail
      go_ret
      exact ⟨rfl, k1'.out⟩

set_option maxHeartbeats 4000000 in
set_option maxRecDepth 100000 in
theorem get35 (bad : Bool) (ak : Option Addr) (nk ck : Nat) (av : Option Addr) (nv cv : Nat) (k : ByteArray) (L : List E) (w : World) (ha : Asc L) (hk : Row w 9 (.slice ak nk ck) ((L.map Prod.fst).map Value.string)) (hv : Row w 3 (.slice av nv cv) ((L.map Prod.snd).map (Value.int .i64))) (hl : L.length ≤ 1000000) :
    Calls Try.prog 35 #[.agg #[.bool bad, .slice ak nk ck, .slice av nv cv], .string k] w fun e w' => e = .returned (.tuple #[.int .i64 ((getM k L).getD 0), .bool (getM k L).isSome]) ∧ Chg NoB w w' := by
  obtain ⟨A, R, hL, hA, g3, g4⟩ := atM_split k L ha
  obtain ⟨W1, hW1⟩ : ∃ W1, W1 = w.alloc (.cells #[.bool bad, .slice ak nk ck, .slice av nv cv] 42) := ⟨_, rfl⟩
  have k1 : Chg NoB w W1 := by rw [hW1]; exact (Chg.refl _ _).alloc _
  have hb : W1.heap[w.heap.size]? = some (.cells #[.bool bad, .slice ak nk ck, .slice av nv cv] 42 (0, 0)) := by rw [hW1]; exact heap_alloc_new _ _
  obtain ⟨b, hbb⟩ : ∃ b, b = w.heap.size := ⟨_, rfl⟩
  rw [← hbb] at hb
  have e0 : W1.cell? ⟨b, 0, none⟩ = some (.bool bad) := by rw [cell_of_row W1 b 0 _ _ _ hb]; rfl
  have e1 : W1.cell? ⟨b, 1, none⟩ = some (.slice ak nk ck) := by rw [cell_of_row W1 b 1 _ _ _ hb]; rfl
  have e2 : W1.cell? ⟨b, 2, none⟩ = some (.slice av nv cv) := by rw [cell_of_row W1 b 2 _ _ _ hb]; rfl
  have ca := at51 bad ak nk ck (.slice av nv cv) k (L.map Prod.fst) W1 (hk.chg k1 fun _ _ h => h) (by simpa using hl)
  rw [← hA] at ca
  have ca' := Hid.mk' ca
  have hn : nk = L.length := by simpa using hk.cap_le.1
  have hn2 : nv = L.length := by simpa using hv.cap_le.1
  have hrK := Hid.mk' (hk.chg k1 fun _ _ h => h)
  have hrV := Hid.mk' (hv.chg k1 fun _ _ h => h)
  obtain ⟨q, hq⟩ : ∃ q, A.length = q := ⟨_, rfl⟩
  rw [hq] at ca'
  have hn' := Hid.mk' hn
  have hn2' := Hid.mk' hn2
  have hq' := Hid.mk' hq
  have hL' := Hid.mk' hL
  have hW' := Hid.mk' hW1
  have hbb' := Hid.mk' hbb
  have k1' := Hid.mk' k1
  have n1 : nk ≤ 1000000 := by omega
  clear ca hb hW1 hbb k1 hk hv
  cases R with
  | nil =>
    have e : getM k L = none := by
      rw [hL]; have := getM_lt g3 []; rw [List.append_nil] at this ⊢; rw [this]; rfl
    rw [e]
    obtain rfl : q = nk := by rw [← hq, hn, hL]; simp
    have z1 : ((q : Int) == (q : Int)) = true := by simp
    clear hq hn hn2 hL e g3 g4 hA
    go_enter Try.func35, Try.ntmps35
    go_wp2_with fail
    rw [← hW'.out, ← hbb'.out]
    refine ca'.out.mono ?_
    rintro e w2 ⟨rfl, k2⟩
    have f1 := k2.cell (fun h => h) e1
    have k2' := Hid.mk' k2
    clear e0 e1 e2 ca' k2
    go_wp2_with fail
    go_ret2
    exact ⟨rfl, k1'.out.trans k2'.out⟩
  | cons e R =>
    obtain ⟨x, y⟩ := e
    have hx : kl x k = false := g4 _ rfl
    have hqn : q < nk := by rw [← hq, hn, hL]; simp
    have z1 : ((q : Int) == (nk : Int)) = false := by rw [beq_eq_false_iff_ne]; omega
    have z2 : (q == nk) = false := by rw [beq_eq_false_iff_ne]; omega
    have z3 : (q : Int) < (nk : Int) := by omega
    have z4 : (0 : Int) ≤ (q : Int) := by omega
    have z5 : (q : Int) < (nv : Int) := by omega
    have hqL : L[q]? = some (x, y) := by rw [hL, ← hq]; simp
    obtain ⟨gk, rfl, ce⟩ := row_str hrK.out q (by simp; omega)
    obtain ⟨gv, rfl, cf⟩ := row_int hrV.out q (by simp; omega)
    have hk1 : (L.map Prod.fst)[q]'(by simp; omega) = x := by
      have := (List.getElem?_eq_some_iff.1 hqL).2
      simp [this]
    have hk2 : (L.map Prod.snd)[q]'(by simp; omega) = y := by
      have := (List.getElem?_eq_some_iff.1 hqL).2
      simp [this]
    rw [hk1] at ce
    rw [hk2] at cf
    by_cases hxk : x = k
    · subst hxk
      have e : getM x L = some y := by rw [hL, getM_lt g3, getM_hit]
      rw [e]
      have t1 : (x.toList == x.toList) = true := by simp
      have t2 : (x.toList != x.toList) = false := by simp
      clear hq hn hn2 hL e g3 g4 hA hk1 hk2 hqL hx
      go_enter Try.func35, Try.ntmps35
      go_wp2_with fail
      rw [← hW'.out, ← hbb'.out]
      refine ca'.out.mono ?_
      rintro e w2 ⟨rfl, k2⟩
      have f1 := k2.cell (fun h => h) e1
      have f2 := k2.cell (fun h => h) e2
      have f3 := k2.cell (fun h => h) ce
      have f4 := k2.cell (fun h => h) cf
      have k2' := Hid.mk' k2
      clear e0 e1 e2 ca' k2 ce cf
      go_wp2_with fail
      go_ret2
      exact ⟨rfl, k1'.out.trans k2'.out⟩
    · have e : getM k L = none := by
        rw [hL, getM_lt g3]
        have hkx : kl k x = true := by
          cases h3 : kl k x
          · exact (hxk (kl_tri hx h3)).elim
          · rfl
        have : ∀ e ∈ (x, y) :: R, kl k e.1 = true := by
          intro e he
          rw [hL] at ha
          have h5 := (List.pairwise_cons.1 ha.right).1
          rcases List.mem_cons.1 he with rfl | he
          · exact hkx
          · exact kl_trans hkx (h5 e he)
        have h6 := getM_gt this []
        rw [List.nil_append] at h6; rw [h6]; rfl
      rw [e]
      have t1 : (x.toList == k.toList) = false := by rw [beq_eq_false_iff_ne]; exact fun h => hxk ((str_list_eq _ _).1 h)
      have t2 : (x.toList != k.toList) = true := by rw [bne_iff_ne]; exact fun h => hxk ((str_list_eq _ _).1 h)
      clear hq hn hn2 hL e g3 g4 hA hk1 hk2 hqL hx hxk
      go_enter Try.func35, Try.ntmps35
      go_wp2_with fail
      rw [← hW'.out, ← hbb'.out]
      refine ca'.out.mono ?_
      rintro e w2 ⟨rfl, k2⟩
      have f1 := k2.cell (fun h => h) e1
      have f2 := k2.cell (fun h => h) e2
      have f3 := k2.cell (fun h => h) ce
      have k2' := Hid.mk' k2
      clear e0 e1 e2 ca' k2 ce cf
      go_wp2_with fail
      go_ret2
      exact ⟨rfl, k1'.out.trans k2'.out⟩
end Go.Proofs.Ytamnmoejjjaegaa
