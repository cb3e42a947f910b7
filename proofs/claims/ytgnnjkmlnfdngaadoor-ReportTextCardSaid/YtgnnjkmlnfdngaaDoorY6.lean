/- The law ReportText returns true: the walk. No conditions but the laid tables. -/
import Derived.Test.YtgnnjkmlnfdngaaDoorAj
import Derived.Test.YtgnnjkmlnfdngaaDoorW
set_option linter.unusedVariables false
set_option linter.unusedSimpArgs false
namespace Go.Proofs.YtgnnjkmlnfdngaaDoor
open Go Go.RowKit Go.Sort

theorem GoodR.succ {names : List (List UInt8)} {l : List (List (List UInt8))} {i : Nat} {r : List (List UInt8)} (h : GoodR names (l.take i)) (hr : l[i]? = some r) (a : r.length = names.length) (b : ∀ s ∈ r, Okc s) : GoodR names (l.take (i + 1)) := by
  intro q hq
  rw [List.take_add_one, hr] at hq
  rcases List.mem_append.1 hq with h' | h'
  · exact h q h'
  · obtain rfl := List.mem_singleton.1 h'
    exact ⟨a, b⟩
theorem flat_succ (l : List (List (List UInt8))) (i : Nat) (r : List (List UInt8)) (hr : l[i]? = some r) : (l.take (i + 1)).flatten = (l.take i).flatten ++ r := by
  rw [List.take_add_one, hr, List.flatten_append]
  simp
theorem lfs_succ (s : List UInt8) (i : Nat) (b : UInt8) (h : s[i]? = some b) : lfs (s.take (i + 1)) = lfs (s.take i) + if b = 10 then 1 else 0 := by
  rw [List.take_add_one, h, lfs_append]
  by_cases hb : b = 10
  · subst hb; rfl
  · rw [if_neg hb, lfs_none (some b).toList fun c hc => by
      have := List.mem_singleton.1 hc
      rw [this]; exact hb]
theorem lfs_le (s : List UInt8) : lfs s ≤ s.length := by unfold lfs; exact List.length_filter_le _ _

theorem bytes_ne {X Y : ByteArray} (h : X ≠ Y) : (X == Y) = false := by
  cases hb : (X == Y) with
  | false => rfl
  | true =>
    exfalso
    apply h
    apply ByteArray.ext
    have : (X.data == Y.data) = true := hb
    exact eq_of_beq this
theorem got_want (names : List (List UInt8)) (rows : List (List (List UInt8))) (h : GoodR names (allC names rows)) (q : Nat) (x y : List UInt8) (hx : (names ++ rulesL names rows ++ rows.flatten)[q]? = some x) (hy : ((allC names rows).flatten)[q]? = some y) (hne : x ≠ y) :
    names.length ≤ q ∧ q < 2 * names.length ∧ Word x ∧ x.head? = some 45 := by
  have hn := (h names (List.mem_cons_self ..)).2
  have hr := rules_word names rows fun s hs => (hn s hs).1
  have e : (allC names rows).flatten = names ++ dashL names.length ++ rows.flatten := by unfold allC; simp
  rw [e] at hy
  have hd : (dashL names.length).length = names.length := by unfold dashL; simp
  by_cases h1 : q < names.length
  · rw [List.append_assoc, List.getElem?_append_left h1] at hx hy
    rw [hx] at hy
    exact absurd (Option.some.inj hy) hne
  · by_cases h2 : q < 2 * names.length
    · rw [List.append_assoc, List.getElem?_append_right (by omega), List.getElem?_append_left (by omega)] at hx
      have := hr.2 x (List.mem_of_getElem? hx)
      exact ⟨by omega, h2, this.1, this.2⟩
    · rw [List.getElem?_append_right (by rw [List.length_append]; omega)] at hx hy
      rw [List.length_append, hr.1] at hx
      rw [List.length_append, hd] at hy
      rw [hx] at hy
      exact absurd (Option.some.inj hy) hne

set_option maxHeartbeats 16000000 in
set_option maxRecDepth 100000 in
theorem text6 (w : World) (hL : Lay w) (u : Value) (names : List (List UInt8)) (hu : Sl w u (names.map tv)) (v : Value) (rows : List (List (List UInt8))) (hv : Sl2 w v rows) :
    Calls Tryd.prog 6 #[u, v] w fun e w' => e = .returned (.bool true) ∧ Chg NoB w w' := by
  obtain ⟨a, n, c, rfl, hn1⟩ := hu.form'
  obtain ⟨a2, m, c2, rfl, hm1⟩ := hv.form'
  have hn2 : n = names.length := by have := hn1.out; simpa using this
  have hm2 : m = rows.length := hm1.out
  have c12 : Hid (∀ w', Chg NoB w w' → Calls Tryd.prog 12 #[] w' fun e w'' => e = .returned (.bool true) ∧ Chg NoB w w'') := fun w' k => (awake12 w' (hL.new k)).mono fun _ _ h => ⟨h.1, k.trans h.2⟩
  by_cases t0 : n = 0
  · subst t0
    clear hL hu hv hn1 hm1 hn2 hm2
    go_enter Tryd.func6, Tryd.ntmps6
    go_wp2_with (go_at_call 12; refine (c12.out _ (Chg.refl _ _)).mono ?_; rintro e w2 ⟨rfl, k2⟩)
    go_ret
    exact ⟨rfl, k2⟩
  have t0' : (n == 0) = false := by rw [beq_eq_false_iff_ne]; exact t0
  have t0i : ((n : Int) == 0) = false := by rw [beq_eq_false_iff_ne]; omega
  by_cases t1 : 12 < n
  · have t1i : (12 : Int) < (n : Int) := by omega
    clear hL hu hv hn1 hm1 hn2 hm2
    go_enter Tryd.func6, Tryd.ntmps6
    go_wp2_with (go_at_call 12; refine (c12.out _ (Chg.refl _ _)).mono ?_; rintro e w2 ⟨rfl, k2⟩)
    go_ret
    exact ⟨rfl, k2⟩
  have t1i : ¬ (12 : Int) < (n : Int) := by omega
  by_cases t2 : 20 < m
  · have t2i : (20 : Int) < (m : Int) := by omega
    clear hL hu hv hn1 hm1 hn2 hm2
    go_enter Tryd.func6, Tryd.ntmps6
    go_wp2_with (go_at_call 12; refine (c12.out _ (Chg.refl _ _)).mono ?_; rintro e w2 ⟨rfl, k2⟩)
    go_ret
    exact ⟨rfl, k2⟩
  have t2i : ¬ (20 : Int) < (m : Int) := by omega
  obtain ⟨v5, w5, hrun, hall, k5⟩ := all_append w _ _ names rows hu hv (by omega)
  have hall' := Hid.mk' hall
  obtain ⟨g5, cp, rfl, hal⟩ := hall
  rw [← hm2] at hrun
  have hal' := Hid.mk' hal
  have k5' := Hid.mk' k5
  have hu' := Hid.mk' hu
  have hv' := Hid.mk' hv
  have hL' := Hid.mk' hL
  have hn' := Hid.mk' hn2
  have hm' := Hid.mk' hm2
  have hsz := Hid.mk' (And.intro t0 (And.intro (Nat.not_lt.1 t1) (Nat.not_lt.1 t2)))
  have hrun' := Hid.mk' hrun
  clear hL hu hv hn1 hm1 hn2 hm2 hal k5 hrun
  go_enter Tryd.func6, Tryd.ntmps6
  go_wp2_with (at_builtin; refine Lib.wpList_append_run _ (by rfl) _ _ _ _ (by rfl) _ _ (by rfl) (by rfl) _ _ hrun'.out ?_)
  go_loopg [6, 7] (m + 2) (fun gq s6 s7 wr => ∃ (i : Nat) (v : Value), i + gq = m + 2 ∧ s6 = v ∧ s7 = .int .i64 (i : Int) ∧ Row wr 9 v ((((allC names rows).take i).flatten).map tv) ∧ (∀ k, own v k → w5.heap.size ≤ k) ∧ Hid (GoodR names ((allC names rows).take i)) ∧ Chg NoB w5 wr)
  case atStart => exact ⟨0, _, by omega, rfl, rfl, Row.nil _ 9, fun k hk => (own_none 0 0 k hk).elim, fun r hr => by simp at hr, Chg.refl _ _⟩
  case round =>
    obtain ⟨i, v, hg, rfl, rfl, hrow, hown, hgood, kwr⟩ := hrel
    obtain ⟨av, nv', cv, rfl, lv⟩ := hrow.form'
    have hrow' := Hid.mk' hrow
    have hown' := Hid.mk' hown
    have kwr' := Hid.mk' kwr
    have hn2 := hn'.out
    have hm2 := hm'.out
    obtain ⟨z0, z1, z2⟩ := hsz.out
    have hac : (allC names rows).length = m + 2 := by rw [allC_len, hm2]
    have hfl : (((allC names rows).take i).flatten).length ≤ 264 := by
      rw [good_len names _ hgood.out, List.length_take]
      have h1 : min i (allC names rows).length ≤ 22 := by omega
      have h2 : min i (allC names rows).length * names.length ≤ 22 * 12 := Nat.mul_le_mul h1 (by omega)
      omega
    have hfl' := Hid.mk' hfl
    by_cases hin : i < m + 2
    · have i1 : (i : Int) < (m : Int) + 2 := by omega
      have li := Hid.mk' hin
      have ni : IntKind.i64.wrap ((i : Int) + 1) = (i : Int) + 1 := by rw [IntKind.wrap_i64]; omega
      by_cases hi1 : i = 1
      · have hrd : (allC names rows)[i]? = some (dashL n) := by rw [hi1]; unfold allC; rw [hn2]; rfl
        have i2 : ((i : Int) != 1) = false := by rw [hi1]; rfl
        have i3 : ((i : Int) == 1) = true := by rw [hi1]; rfl
        have hrd' := Hid.mk' hrd
        clear hrow hown kwr lv hn2 hm2 z0 z1 z2 hac hfl hrd hin hi1
        obtain ⟨F, hF⟩ : ∃ F, ((allC names rows).take i).flatten = F := ⟨_, rfl⟩
        have hF' := Hid.mk' hF
        rw [hF] at hfl' hrow'
        clear hF
        go_wp2_with fail
        go_loopg [6, 8] n (fun gq s6 s8 wq => ∃ (k : Nat) (v : Value), k + gq = n ∧ s6 = v ∧ s8 = .int .i64 (k : Int) ∧ Row wq 9 v ((F ++ (dashL n).take k).map tv) ∧ (∀ k, own v k → w5.heap.size ≤ k) ∧ Chg NoB w5 wq)
        case atStart => exact ⟨0, _, by omega, rfl, rfl, by rw [List.take_zero, List.append_nil]; exact hrow'.out, hown'.out, kwr'.out⟩
        case round =>
          clear hrow' hown' kwr'
          obtain ⟨k, v, hk, rfl, rfl, hrow, hown, kwq⟩ := hrel
          obtain ⟨av, nv', cv, rfl, lv⟩ := hrow.form'
          have hrow' := Hid.mk' hrow
          have hown' := Hid.mk' hown
          have kwq' := Hid.mk' kwq
          have z1 := hsz.out.2.1
          have ln : Hid ((F ++ (dashL n).take k).length ≤ 300) := by
            show _ ≤ _
            have := hfl'.out
            rw [List.length_append, List.length_take]
            unfold dashL
            rw [List.length_replicate]
            omega
          by_cases hkn : k < n
          · have k1 : (k : Int) < (n : Int) := by omega
            have k2 : k < n := hkn
            have nk : IntKind.i64.wrap ((k : Int) + 1) = (k : Int) + 1 := by rw [IntKind.wrap_i64]; omega
            have lk := Hid.mk' hkn
            have hsu : Hid (((F ++ (dashL n).take (k + 1)).map tv) = ((F ++ (dashL n).take k).map tv) ++ [.string ⟨#[45]⟩]) := by
              show _ = _
              rw [List.take_add_one, show (dashL n)[k]? = some [45] by unfold dashL; rw [List.getElem?_replicate, if_pos hkn]]
              rw [← List.append_assoc, List.map_append]; rfl
            clear hrow hown kwq lv z1 hkn
            go_wp2_with (first
              | (at_builtin; refine wpList_append_one _ rfl _ _ 22 9 (.string ⟨#[]⟩) 16 rfl Tryd.underlying22 info9 rfl (.slice av nv' cv) ((F ++ (dashL n).take k).map tv) (.string ⟨#[45]⟩) rfl rfl hrow'.out rfl (by rw [List.length_map]; have := ln.out; omega) (by rw [List.length_map]; have := ln.out; omega) ?_
                 intro vv ww rr oo kk
                 obtain ⟨bv, mv, dv, rfl, lv5⟩ := rr.form'
                 have q5 : Hid (Chg NoB w5 ww) := kwq'.out.trans' kk (fun j b => .inr (hown'.out j b))
                 have x5 : Hid (∀ j, own (.slice bv mv dv) j → w5.heap.size ≤ j) := fun j hj => (oo j hj).elim (hown'.out j) fun h => Nat.le_trans kwq'.out.size h
                 replace rr := Hid.mk' rr; clear oo kk lv5))
            go_roundg (n - (k + 1))
            case measure => have := lk.out; omega
            case rel =>
              refine ⟨k + 1, _, by have := lk.out; omega, rfl, by simp, ?_, x5.out, q5.out⟩
              rw [hsu.out]
              exact rr.out
          · obtain rfl : k = n := by omega
            have k1 : ¬ (k : Int) < (k : Int) := by omega
            have hfin : Hid ((F ++ (dashL k).take k) = ((allC names rows).take (i + 1)).flatten) := by
              show _ = _
              rw [flat_succ _ i _ hrd'.out, hF'.out, List.take_of_length_le (by unfold dashL; simp)]
            have hg2 : Hid (GoodR names ((allC names rows).take (i + 1))) := hgood.out.succ hrd'.out (by have := hn'.out; unfold dashL; simp; omega) (dash_ok k)
            clear hrow hown kwq lv z1 hkn
            go_wp2_with fail
            go_roundg (m + 2 - (i + 1))
            case measure => have := li.out; omega
            case rel =>
              refine ⟨i + 1, _, by have := li.out; omega, rfl, by simp, ?_, hown'.out, hg2.out, kwq'.out⟩
              rw [← hfin.out]
              exact hrow'.out
      · have i2 : ((i : Int) != 1) = true := by rw [bne_iff_ne]; omega
        have i3 : ((i : Int) == 1) = false := by rw [beq_eq_false_iff_ne]; omega
        have i4 : ¬ i = 1 := hi1
        obtain ⟨r, hr⟩ : ∃ r, (allC names rows)[i]? = some r := ⟨_, List.getElem?_eq_getElem (by omega)⟩
        obtain ⟨e, ce, he⟩ := hal'.out i r hi1 hr
        obtain ⟨ae, ne, cc, rfl, hne⟩ := he.form'
        have hne2 : ne = r.length := by have := hne.out; simpa using this
        have cew := kwr.cell (fun h => h) ce
        have ce' := Hid.mk' ce
        have he' := Hid.mk' he
        have hr' := Hid.mk' hr
        have hne' := Hid.mk' hne2
        by_cases hlen : ne = n
        · obtain rfl : n = ne := hlen.symm
          have j2 : ((n : Int) != (n : Int)) = false := by simp
          clear hrow hown kwr lv hn2 hm2 z0 z1 z2 hac hfl hin hr he ce hne hne2
          obtain ⟨F, hF⟩ : ∃ F, ((allC names rows).take i).flatten = F := ⟨_, rfl⟩
          have hF' := Hid.mk' hF
          rw [hF] at hfl' hrow'
          clear hF
          go_wp2_with fail
          go_loopg [6, 8] n (fun gq s6 s8 wq => ∃ (k : Nat) (v : Value), k + gq = n ∧ s6 = v ∧ s8 = .int .i64 (k : Int) ∧ Row wq 9 v ((F ++ r.take k).map tv) ∧ (∀ k, own v k → w5.heap.size ≤ k) ∧ Hid (∀ s ∈ r.take k, Okc s) ∧ Chg NoB w5 wq)
          case atStart => exact ⟨0, _, by omega, rfl, rfl, by rw [List.take_zero, List.append_nil]; exact hrow'.out, hown'.out, Hid.mk' (fun s hs => by simp at hs), kwr'.out⟩
          case round =>
            clear hrow' hown' kwr' cew
            obtain ⟨k, v, hk, rfl, rfl, hrow, hown, hgk, kwq⟩ := hrel
            obtain ⟨av, nv', cv, rfl, lv⟩ := hrow.form'
            have hrow' := Hid.mk' hrow
            have hown' := Hid.mk' hown
            have kwq' := Hid.mk' kwq
            have z1 := hsz.out.2.1
            have hne3 := hne'.out
            have ln : Hid ((F ++ r.take k).length ≤ 300) := by
              show _ ≤ _
              have := hfl'.out
              rw [List.length_append, List.length_take]
              omega
            by_cases hkn : k < n
            · obtain ⟨s, hs⟩ : ∃ s, r[k]? = some s := ⟨_, List.getElem?_eq_getElem (by omega)⟩
              obtain ⟨gr, orr, rfl, hcr, -⟩ := (he'.out.new kwq).at (by rw [List.length_map]; omega)
              have cs0 := hcr k (tv s) (by rw [List.getElem?_map, hs]; rfl)
              have cq := kwq.cell (fun h => h) ce'.out
              obtain ⟨B, hB⟩ : ∃ B, bsOf s = B := ⟨_, rfl⟩
              have sB : B.size = s.length := by rw [← hB, size_bsOf]
              unfold tv at cs0
              rw [hB] at cs0
              have k1 : (k : Int) < (n : Int) := by omega
              have k2 : k < n := hkn
              have nk : IntKind.i64.wrap ((k : Int) + 1) = (k : Int) + 1 := by rw [IntKind.wrap_i64]; omega
              have lk := Hid.mk' hkn
              have hs' := Hid.mk' hs
              have hB' := Hid.mk' hB
              have sB' := Hid.mk' sB
              by_cases h30 : 30 < s.length
              · have s1 : (30 : Int) < (B.size : Int) := by omega
                have s2 : 30 < B.size := by omega
                clear hrow hown kwq lv z1 hne3 hkn hs hcr hB sB
                go_wp2_with (go_at_call 12; refine (c12.out _ (k5'.out.trans kwq'.out)).mono ?_; rintro e w9 ⟨rfl, k9⟩)
                go_ret
                exact ⟨rfl, k9⟩
              · have s1 : ¬ (30 : Int) < (B.size : Int) := by omega
                have s2 : ¬ 30 < B.size := by omega
                have hTD : tv s = .string B := by rw [← hB]; rfl
                have c21 := fun w' => words21 s w' (by omega)
                simp only [hTD] at c21
                have c21' := Hid.mk' c21
                have h30' := Hid.mk' h30
                clear hrow hown kwq lv z1 hne3 hkn hs hcr hB sB c21 hTD h30
                go_wp2_with fail
                refine (c21'.out _).mono ?_
                rintro e w2 ⟨v2, rfl, r2, -, k2q⟩
                obtain ⟨a21, n21, c21s, rfl, l21⟩ := r2.form'
                have l21' : n21 = (wordsL s).length := by have := l21.out; rwa [List.length_map] at this
                have k2' : Hid (Chg NoB w5 w2) := kwq'.out.trans k2q
                have k2w := Hid.mk' k2q
                by_cases hW : n21 = 1
                · have w1 : ((n21 : Int) != 1) = false := by rw [hW]; rfl
                  obtain ⟨x, hx⟩ : ∃ x, wordsL s = [x] := List.length_eq_one_iff.1 (by omega)
                  have hx' := Hid.mk' hx
                  clear r2 l21 l21' k2q hx hW
                  go_wp2_with fail
                  refine (c21'.out _).mono ?_
                  rintro e w3 ⟨v3, rfl, r3, -, k3q⟩
                  rw [hx'.out] at r3
                  obtain ⟨a31, n31, c31, rfl, l31⟩ := r3.form'
                  have l31' : n31 = 1 := l31.out
                  obtain ⟨g31, o31, rfl, hc3, -⟩ := r3.sl.at (by simp)
                  have cx := hc3 0 (tv x) rfl
                  rw [Nat.add_zero] at cx
                  obtain ⟨X, hX⟩ : ∃ X, bsOf x = X := ⟨_, rfl⟩
                  have sX : X.size = x.length := by rw [← hX, size_bsOf]
                  unfold tv at cx
                  rw [hX] at cx
                  have b1 : (0 : Int) < (n31 : Int) := by omega
                  have b2 : 0 < n31 := by omega
                  have k3' : Hid (Chg NoB w5 w3) := k2'.out.trans k3q
                  have k3w : Hid (Chg NoB wr w3) := k2w.out.trans k3q
                  by_cases hxl : x.length = s.length
                  · have w2b : ((X.size : Int) != (B.size : Int)) = false := by rw [bne_eq_false_iff_eq]; have := sB'.out; omega
                    have hok : Hid (∀ y ∈ r.take (k + 1), Okc y) := fun y hy => by
                      rw [List.take_add_one, hs'.out] at hy
                      rcases List.mem_append.1 hy with h | h
                      · exact hgk.out y h
                      · obtain rfl := List.mem_singleton.1 h
                        exact ⟨word_of_one _ x hx'.out hxl, Nat.not_lt.1 h30'.out⟩
                    have hsu : Hid ((F ++ r.take (k + 1)).map tv = (F ++ r.take k).map tv ++ [.string B]) := by
                      show _ = _
                      rw [List.take_add_one, hs'.out, ← hB'.out, ← List.append_assoc, List.map_append]; rfl
                    clear r3 l31 l31' k3q hc3 hX sX hxl
                    go_wp2_with (first
                      | (at_builtin; refine wpList_append_one _ rfl _ _ 22 9 (.string ⟨#[]⟩) 16 rfl Tryd.underlying22 info9 rfl (.slice av nv' cv) ((F ++ r.take k).map tv) (.string B) rfl rfl (hrow'.out.chg k3w.out fun _ _ h => h) rfl (by rw [List.length_map]; have := ln.out; omega) (by rw [List.length_map]; have := ln.out; omega) ?_
                         intro vv ww rr oo kk
                         obtain ⟨bv, mv, dv, rfl, lv5⟩ := rr.form'
                         have q5 : Hid (Chg NoB w5 ww) := k3'.out.trans' kk (fun j b => .inr (hown'.out j b))
                         have x5 : Hid (∀ j, own (.slice bv mv dv) j → w5.heap.size ≤ j) := fun j hj => (oo j hj).elim (hown'.out j) fun h => Nat.le_trans k3'.out.size h
                         replace rr := Hid.mk' rr; clear oo kk lv5))
                    go_roundg (n - (k + 1))
                    case measure => have := lk.out; omega
                    case rel =>
                      refine ⟨k + 1, _, by have := lk.out; omega, rfl, by simp, ?_, x5.out, hok.out, q5.out⟩
                      rw [hsu.out]
                      exact rr.out
                  · have w2b : ((X.size : Int) != (B.size : Int)) = true := by rw [bne_iff_ne]; have := sB'.out; omega
                    clear r3 l31 l31' k3q hc3 hX sX hxl
                    go_wp2_with (go_at_call 12; refine (c12.out _ (k5'.out.trans k3'.out)).mono ?_; rintro e w9 ⟨rfl, k9⟩)
                    go_ret
                    exact ⟨rfl, k9⟩
                · have w1 : ((n21 : Int) != 1) = true := by rw [bne_iff_ne]; omega
                  clear r2 l21 l21' k2q hW
                  go_wp2_with (go_at_call 12; refine (c12.out _ (k5'.out.trans k2'.out)).mono ?_; rintro e w9 ⟨rfl, k9⟩)
                  go_ret
                  exact ⟨rfl, k9⟩
            · obtain rfl : k = n := by omega
              have k1 : ¬ (k : Int) < (k : Int) := by omega
              have htk : r.take k = r := List.take_of_length_le (by omega)
              have hfin : Hid ((F ++ r.take k) = ((allC names rows).take (i + 1)).flatten) := by
                show _ = _
                rw [flat_succ _ i _ hr'.out, hF'.out, htk]
              have hg2 : Hid (GoodR names ((allC names rows).take (i + 1))) := hgood.out.succ hr'.out (by have := hn'.out; omega) (by have h9 := hgk.out; rw [htk] at h9; exact h9)
              clear hrow hown kwq lv z1 hkn hne3 htk
              go_wp2_with fail
              go_roundg (m + 2 - (i + 1))
              case measure => have := li.out; omega
              case rel =>
                refine ⟨i + 1, _, by have := li.out; omega, rfl, by simp, ?_, hown'.out, hg2.out, kwq'.out⟩
                rw [← hfin.out]
                exact hrow'.out
        · have j2 : ((ne : Int) != (n : Int)) = true := by rw [bne_iff_ne]; omega
          clear hrow hown kwr lv hn2 hm2 z0 z1 z2 hac hfl hin hr he ce hne hne2
          go_wp2_with (go_at_call 12; refine (c12.out _ (k5'.out.trans kwr'.out)).mono ?_; rintro e w2 ⟨rfl, k2⟩)
          go_ret
          exact ⟨rfl, k2⟩
    · have hie : i = m + 2 := by omega
      have i1 : ¬ (i : Int) < (m : Int) + 2 := by omega
      have htk : (allC names rows).take i = allC names rows := List.take_of_length_le (by omega)
      have hg0 := hgood.out
      rw [htk] at hg0 hrow' hfl
      have hnm : names ≠ [] := fun h => by rw [h] at hn2; exact z0 (by simpa using hn2)
      have hnl : names.length ≤ 12 := by omega
      have hrl : rows.length ≤ 30 := by omega
      have hnc : ∀ s ∈ names, s.length ≤ 100 := fun s hs => by have := ((hg0 names (List.mem_cons_self ..)).2 s hs).2; omega
      have hrc : ∀ r ∈ rows, ∀ s ∈ r, s.length ≤ 100 := fun r hr s hs => by have := ((hg0 r (List.mem_cons_of_mem _ (List.mem_cons_of_mem _ hr))).2 s hs).2; omega
      obtain ⟨T, hT⟩ : ∃ T, tableL names rows = T := ⟨_, rfl⟩
      have c10 := fun w' (k : Chg NoB w w') => Table10 _ _ names rows w' (hu'.out.new k) (hv'.out.new k) hnl hrl hnc hrc
      have hTT : TableL names rows = T := by unfold TableL; rw [if_neg hnm, hT]
      have hTl := table_le names rows hnl hrl hnc hrc
      have hTn := table_lines names rows hnm hg0
      have hTw := table_words names rows hg0
      rw [hT] at hTl hTn hTw
      rw [hTT] at c10
      obtain ⟨B, hB⟩ : ∃ B, bsOf T = B := ⟨_, rfl⟩
      obtain ⟨tl, htl⟩ : ∃ tl, T.length = tl := ⟨_, rfl⟩
      have sT : B.size = tl := by rw [← hB, size_bsOf, htl]
      have hTD : tv T = .string B := by rw [← hB]; rfl
      have c21 := fun w' => words21 T w' (by omega)
      rw [hTD] at c10
      simp only [hTD] at c21
      have lG : (wordsL T).length = ((allC names rows).flatten).length := by
        have hr := rules_word names rows fun s hs => ((hg0 names (List.mem_cons_self ..)).2 s hs).1
        rw [hTw]
        unfold allC dashL
        simp only [List.length_append, List.flatten_cons, List.length_replicate, hr.1]
        omega
      have hgw : Hid (∀ (q : Nat) x y, (wordsL T)[q]? = some x → ((allC names rows).flatten)[q]? = some y → x ≠ y → n ≤ q ∧ q < 2 * n ∧ Word x ∧ x.head? = some 45 ∧ x.length ≤ 400000) := fun q x y a b c => by
        have a2 := a
        rw [hTw] at a
        have := got_want names rows hg0 q x y a b c
        have ht := wgo_total T []
        have hxl : x.length ≤ (wgo T []).flatten.length := (List.sublist_flatten_of_mem (List.mem_of_getElem? a2)).length_le
        have hz : ([] : List UInt8).length = 0 := rfl
        exact ⟨by omega, by omega, this.2.2.1, this.2.2.2, by omega⟩
      have c10' := Hid.mk' c10
      have c21' := Hid.mk' c21
      have hB' := Hid.mk' hB
      have hTn' := Hid.mk' hTn
      have hTl' := Hid.mk' hTl
      have htl' := Hid.mk' htl
      have lG' := Hid.mk' lG
      have lv' : Hid (nv' = ((allC names rows).flatten).length) := by show _ = _; have := lv.out; rw [htk, List.length_map] at this; exact this
      have hfl2 := Hid.mk' hfl
      have n2m : IntKind.i64.wrap ((m : Int) + 2) = (m : Int) + 2 := by rw [IntKind.wrap_i64]; omega
      have mlt : m ≤ 20 := by omega
      clear hrow hown kwr lv hn2 hm2 z0 z1 z2 hac hfl hin htk hg0 hnm hnl hrl hnc hrc hT c10 hTT hTl hTn hTw hB htl hTD c21 lG hie
      go_wp2_with fail
      refine (c10'.out _ (k5'.out.trans kwr'.out)).mono ?_
      rintro e w6 ⟨rfl, k6⟩
      have k6' := Hid.mk' k6
      clear k6
      go_wp2_with fail
      refine (c21'.out _).mono ?_
      rintro e w7 ⟨v7, rfl, r7, -, k7⟩
      obtain ⟨a7, n7, c7, rfl, l7⟩ := r7.form'
      have l7' : n7 = nv' := by have h1 := l7.out; have h2 := lG'.out; have h3 := lv'.out; rw [List.length_map] at h1; omega
      have hgot := Hid.mk' r7.sl
      have k7' : Hid (Chg NoB wr w7) := k6'.out.trans k7
      have e2 : ((n7 : Int) != (nv' : Int)) = false := by rw [l7']; simp
      have n7' := Hid.mk' l7'
      clear r7 l7 l7' k7
      go_wp2_with fail
      go_loopg [12, 13] tl (fun gq s12 s13 wq => ∃ (q : Nat), q + gq = tl ∧ s12 = .int .i64 ((lfs (T.take q) : Nat) : Int) ∧ s13 = .int .i64 (q : Int) ∧ w7 = wq)
      case atStart => exact ⟨0, by omega, rfl, rfl, rfl⟩
      case round =>
        obtain ⟨q, hq, rfl, rfl, rfl⟩ := hrel
        have htl2 := htl'.out
        have hTl2 := hTl'.out
        by_cases hqt : q < tl
        · obtain ⟨b, hb⟩ : ∃ b, T[q]? = some b := ⟨_, List.getElem?_eq_getElem (by omega)⟩
          have hb2 : ∀ h : q < B.size, B[q]'h = b := by
            have h0 := getB T q b hb
            rw [hB'.out] at h0
            exact h0
          have q1 : (q : Int) < (tl : Int) := by omega
          have q2 : q < tl := hqt
          have nq : IntKind.i64.wrap ((q : Int) + 1) = (q : Int) + 1 := by rw [IntKind.wrap_i64]; omega
          have lq := Hid.mk' hqt
          have hsu := lfs_succ T q b hb
          have hle := lfs_le (T.take q)
          have hle2 : lfs (T.take q) ≤ 400000 := by rw [List.length_take] at hle; omega
          by_cases h10 : b = 10
          · have x10 : ((b.toNat : Int) == 10) = true := by rw [h10]; rfl
            rw [h10] at hb
            obtain ⟨hq1, hq2⟩ := hTn'.out.1 q hb
            obtain ⟨j, hj⟩ : ∃ j, q - 1 = j := ⟨_, rfl⟩
            obtain ⟨c, hc⟩ : ∃ c, T[j]? = some c := ⟨_, List.getElem?_eq_getElem (by omega)⟩
            rw [hj] at hq2
            have hcn := hq2 c hc
            have hc2 : ∀ h : j < B.size, B[j]'h = c := by
              have h0 := getB T j c hc
              rw [hB'.out] at h0
              exact h0
            have x32 : ((c.toNat : Int) == 32) = false := by rw [beq_eq_false_iff_ne]; intro h; exact hcn (UInt8.toNat_inj.1 (by show c.toNat = 32; omega))
            have y0 : ((q : Int) == 0) = false := by rw [beq_eq_false_iff_ne]; omega
            have y1 : IntKind.i64.wrap ((q : Int) - 1) = (j : Int) := by rw [IntKind.wrap_i64]; omega
            have y2 : (j : Int) < (tl : Int) := by omega
            have y3 : j < tl := by omega
            rw [if_pos h10] at hsu
            have hsu' := Hid.mk' hsu
            obtain ⟨L, hL0⟩ : ∃ L, lfs (T.take q) = L := ⟨_, rfl⟩
            rw [hL0] at hsu' hle2 ⊢
            have nl : IntKind.i64.wrap ((L : Int) + 1) = (L : Int) + 1 := by rw [IntKind.wrap_i64]; omega
            clear htl2 hTl2 hb hsu hle h10 hq1 hq2 hj hc hcn hL0 hqt
            go_wp2_with fail
            go_roundg (tl - (q + 1))
            case measure => have := lq.out; omega
            case rel => exact ⟨q + 1, by have := lq.out; omega, by rw [hsu'.out]; simp, by simp, rfl⟩
          · have x10 : ((b.toNat : Int) == 10) = false := by rw [beq_eq_false_iff_ne]; intro h; exact h10 (UInt8.toNat_inj.1 (by show b.toNat = 10; omega))
            rw [if_neg h10] at hsu
            have hsu' := Hid.mk' hsu
            clear htl2 hTl2 hb hsu hle hle2 h10 hqt
            go_wp2_with fail
            go_roundg (tl - (q + 1))
            case measure => have := lq.out; omega
            case rel => exact ⟨q + 1, by have := lq.out; omega, by rw [hsu'.out]; simp, by simp, rfl⟩
        · obtain rfl : q = tl := by omega
          have q1 : ¬ (q : Int) < (q : Int) := by omega
          obtain ⟨L, hL0⟩ : ∃ L, lfs (T.take q) = L := ⟨_, rfl⟩
          have hL1 : L = m + 2 := by
            rw [← hL0, List.take_of_length_le (by omega), hTn'.out.2]
            have := hm'.out; omega
          rw [hL0]
          have e1 : ((L : Int) != (m : Int) + 2) = false := by rw [bne_eq_false_iff_eq]; omega
          clear htl2 hTl2 hL0 hL1 hqt
          go_wp2_with fail
          go_loopg [14] nv' (fun gq s14 wq => ∃ (p : Nat), p + gq = nv' ∧ s14 = .int .i64 (p : Int) ∧ Chg NoB w7 wq)
          case atStart => exact ⟨0, by omega, rfl, Chg.refl _ _⟩
          case round =>
            obtain ⟨p, hp, rfl, kq⟩ := hrel
            have kq' := Hid.mk' kq
            have hnv := lv'.out
            have hgl := lG'.out
            have hfl3 := hfl2.out
            have hn7 := n7'.out
            by_cases hpn : p < nv'
            · obtain ⟨x, hx⟩ : ∃ x, (wordsL T)[p]? = some x := ⟨_, List.getElem?_eq_getElem (by omega)⟩
              obtain ⟨y, hy⟩ : ∃ y, ((allC names rows).flatten)[p]? = some y := ⟨_, List.getElem?_eq_getElem (by omega)⟩
              obtain ⟨gg, og, rfl, hcg, -⟩ := (hgot.out.new kq).at (by rw [List.length_map]; omega)
              obtain ⟨gw, ow, rfl, hcw, -⟩ := ((hrow'.out.sl.new k7'.out).new kq).at (by rw [List.length_map]; omega)
              have cg := hcg p (tv x) (by rw [List.getElem?_map, hx]; rfl)
              clear hcg
              have cw := hcw p (tv y) (by rw [List.getElem?_map, hy]; rfl)
              clear hcw
              obtain ⟨X, hX⟩ : ∃ X, bsOf x = X := ⟨_, rfl⟩
              obtain ⟨Y, hY⟩ : ∃ Y, bsOf y = Y := ⟨_, rfl⟩
              unfold tv at cg cw
              rw [hX] at cg
              rw [hY] at cw
              have p1 : (p : Int) < (nv' : Int) := by omega
              have p2 : p < nv' := hpn
              have p3 : (p : Int) < (n7 : Int) := by omega
              have p4 : p < n7 := by omega
              have np : IntKind.i64.wrap ((p : Int) + 1) = (p : Int) + 1 := by rw [IntKind.wrap_i64]; omega
              have lp := Hid.mk' hpn
              by_cases hxy : x = y
              · have hXY : X = Y := by rw [← hX, ← hY, hxy]
                subst hXY
                clear kq hnv hgl hfl3 hn7 hx hy hX hY hpn hxy
                go_wp2_with fail
                go_quiet (fail)
                go_wp2_with fail
                go_roundg (nv' - (p + 1))
                case measure => have := lp.out; omega
                case rel => exact ⟨p + 1, by have := lp.out; omega, by simp, kq'.out.drewN _⟩
              · obtain ⟨b1, b2, b3, b4, b5⟩ := hgw.out p x y hx hy hxy
                have hXY : (X == Y) = false := by
                  refine bytes_ne fun h => ?_
                  rw [← hX, ← hY] at h
                  have := congrArg (fun b : ByteArray => b.data.toList) h
                  exact hxy this
                have hXY2 : (X.toList == Y.toList) = false := by
                  rw [beq_eq_false_iff_ne, data_toList, data_toList, ← hX, ← hY]
                  exact hxy
                have c21x := fun w' => words21 x w' (by omega)
                have hXD : tv x = .string X := by rw [← hX]; rfl
                simp only [hXD, words_word x b3] at c21x
                have c21x' := Hid.mk' c21x
                have hXD' := Hid.mk' hXD
                have h45 : x[0]? = some 45 := by rw [← List.head?_eq_getElem?]; exact b4
                have hb45 : ∀ h : 0 < X.size, X[0]'h = 45 := by
                  have h0 := getB x 0 45 h45
                  rw [hX] at h0
                  exact h0
                have hX0 : 0 < X.size := by rw [← hX, size_bsOf]; exact (List.getElem?_eq_some_iff.1 h45).1
                have hX0i : (0 : Int) < (X.size : Int) := by omega
                have d1 : ¬ (p : Int) < (n : Int) := by omega
                have d2 : ¬ p < n := by omega
                have d3 : ¬ 2 * (n : Int) ≤ (p : Int) := by omega
                have d5 : decide (2 * (n : Int) ≤ (p : Int)) = false := decide_eq_false d3
                have d4 : IntKind.i64.wrap (2 * (n : Int)) = 2 * (n : Int) := by have := hsz.out.2.1; rw [IntKind.wrap_i64]; omega
                have hcl : Hid (∀ w', Chg NoB wr w' → w'.cell? ⟨gg, og + p, none⟩ = some (.string X) ∧ w'.cell? ⟨gw, ow + p, none⟩ = some (.string Y)) := fun w' k => ⟨k.cell (fun h => h) cg, k.cell (fun h => h) cw⟩
                clear d3 kq hnv hgl hfl3 hn7 hx hy hX hY hpn hxy b1 b2 b3 b4 b5 c21x hXD h45
                go_wp2_with fail
                refine wp_region_noPanic ?_
                refine wp_region_held_drew (S := (fun w' => w'.cell? ⟨gg, og + p, none⟩ = some (.string X) ∧ w'.cell? ⟨gw, ow + p, none⟩ = some (.string Y))) (by kernel_rfl) (by exact ⟨cg, cw⟩) (fun hHeld => ?_)
                refine wpAnyH_take (i := 0) (v := ?_) (by simp only [List.getElem?_toArray, List.getElem?_cons_succ, List.getElem?_cons_zero]; rfl) (by kernel_rfl) (by kernel_rfl) (by kernel_rfl) (fun _ _ _ h => h) (Or.inl ⟨by rfl, ?_⟩) (by assumption) ?_
                rotate_left
                · ((intro w hSw; (try dsimp only at hSw); go_simp); try with_reducible rfl)
                try simp only [Act.put, List.setIfInBounds_toArray, List.set_cons_zero, List.set_cons_succ]
                refine wpAnyH_take (i := 1) (v := ?_) (by simp only [List.getElem?_toArray, List.getElem?_cons_succ, List.getElem?_cons_zero]; rfl) (by kernel_rfl) (by kernel_rfl) (by kernel_rfl) (fun _ _ _ h => h) (Or.inl ⟨by rfl, ?_⟩) (by assumption) ?_
                rotate_left
                · ((intro w hSw; (try dsimp only at hSw); go_simp); try with_reducible rfl)
                try simp only [Act.put, List.setIfInBounds_toArray, List.set_cons_zero, List.set_cons_succ]
                refine wpAnyH_take (i := 2) (v := ?_) (by simp only [List.getElem?_toArray, List.getElem?_cons_succ, List.getElem?_cons_zero]; rfl) (by kernel_rfl) (by kernel_rfl) (by kernel_rfl) (fun _ _ _ h => h) (Or.inl ⟨by rfl, ?_⟩) (by assumption) ?_
                rotate_left
                · ((intro w hSw; (try dsimp only at hSw); go_simp); try with_reducible rfl)
                try simp only [Act.put, List.setIfInBounds_toArray, List.set_cons_zero, List.set_cons_succ]
                refine wpAnyH_take (i := 3) (v := ?_) (by simp only [List.getElem?_toArray, List.getElem?_cons_succ, List.getElem?_cons_zero]; rfl) (by kernel_rfl) (by kernel_rfl) (by kernel_rfl) (fun _ _ _ h => h) (Or.inl ⟨by rfl, ?_⟩) (by assumption) ?_
                rotate_left
                · ((intro w hSw; (try dsimp only at hSw); go_simp); try with_reducible rfl)
                try simp only [Act.put, List.setIfInBounds_toArray, List.set_cons_zero, List.set_cons_succ]
                refine wpAnyH_take (i := 4) (v := ?_) (by simp only [List.getElem?_toArray, List.getElem?_cons_succ, List.getElem?_cons_zero]; rfl) (by kernel_rfl) (by kernel_rfl) (by kernel_rfl) (fun _ _ _ h => h) (Or.inl ⟨by rfl, ?_⟩) (by assumption) ?_
                rotate_left
                · ((intro w hSw; (try dsimp only at hSw); go_simp); try with_reducible rfl)
                try simp only [Act.put, List.setIfInBounds_toArray, List.set_cons_zero, List.set_cons_succ]
                refine wpAnyH_take (i := 5) (v := ?_) (by simp only [List.getElem?_toArray, List.getElem?_cons_succ, List.getElem?_cons_zero]; rfl) (by kernel_rfl) (by kernel_rfl) (by kernel_rfl) (fun _ _ _ h => h) (Or.inl ⟨by rfl, ?_⟩) (by assumption) ?_
                rotate_left
                · ((intro w hSw; (try dsimp only at hSw); go_simp); try with_reducible rfl)
                try simp only [Act.put, List.setIfInBounds_toArray, List.set_cons_zero, List.set_cons_succ]
                refine wpAnyH_take (i := 6) (v := ?_) (by simp only [List.getElem?_toArray, List.getElem?_cons_succ, List.getElem?_cons_zero]; rfl) (by kernel_rfl) (by kernel_rfl) (by kernel_rfl) (fun _ _ _ h => h) (Or.inl ⟨by rfl, ?_⟩) (by assumption) ?_
                rotate_left
                · ((intro w hSw; (try dsimp only at hSw); go_simp); try with_reducible rfl)
                try simp only [Act.put, List.setIfInBounds_toArray, List.set_cons_zero, List.set_cons_succ]
                refine wpAnyH_take (i := 7) (v := ?_) (by simp only [List.getElem?_toArray, List.getElem?_cons_succ, List.getElem?_cons_zero]; rfl) (by kernel_rfl) (by kernel_rfl) (by kernel_rfl) (fun _ _ _ h => h) (Or.inl ⟨by rfl, ?_⟩) (by assumption) ?_
                rotate_left
                · ((intro w hSw; (try dsimp only at hSw); go_simp); try with_reducible rfl)
                try simp only [Act.put, List.setIfInBounds_toArray, List.set_cons_zero, List.set_cons_succ]
                refine wpAnyH_take (i := 8) (v := ?_) (by simp only [List.getElem?_toArray, List.getElem?_cons_succ, List.getElem?_cons_zero]; rfl) (by kernel_rfl) (by kernel_rfl) (by kernel_rfl) (fun _ _ _ h => h) (Or.inl ⟨by rfl, ?_⟩) (by assumption) ?_
                rotate_left
                · ((intro w hSw; (try dsimp only at hSw); go_simp); try with_reducible rfl)
                try simp only [Act.put, List.setIfInBounds_toArray, List.set_cons_zero, List.set_cons_succ]
                refine wpAnyH_take (i := 9) (v := ?_) (by simp only [List.getElem?_toArray, List.getElem?_cons_succ, List.getElem?_cons_zero]; rfl) (by kernel_rfl) (by kernel_rfl) (by kernel_rfl) (fun _ _ _ h => h) (Or.inl ⟨by rfl, ?_⟩) (by assumption) ?_
                rotate_left
                · ((intro w hSw; (try dsimp only at hSw); go_simp); try with_reducible rfl)
                try simp only [Act.put, List.setIfInBounds_toArray, List.set_cons_zero, List.set_cons_succ]
                refine wpAnyH_take (i := 10) (v := ?_) (by simp only [List.getElem?_toArray, List.getElem?_cons_succ, List.getElem?_cons_zero]; rfl) (by kernel_rfl) (by kernel_rfl) (by kernel_rfl) (fun _ _ _ h => h) (Or.inl ⟨by rfl, ?_⟩) (by assumption) ?_
                rotate_left
                · ((intro w hSw; (try dsimp only at hSw); go_simp); try with_reducible rfl)
                try simp only [Act.put, List.setIfInBounds_toArray, List.set_cons_zero, List.set_cons_succ]
                refine wpAnyH_take (i := 11) (v := ?_) (by simp only [List.getElem?_toArray, List.getElem?_cons_succ, List.getElem?_cons_zero]; rfl) (by kernel_rfl) (by kernel_rfl) (by kernel_rfl) (fun _ _ _ h => h) (Or.inl ⟨by rfl, ?_⟩) (by assumption) ?_
                rotate_left
                · ((intro w hSw; (try dsimp only at hSw); go_simp); try with_reducible rfl)
                try simp only [Act.put, List.setIfInBounds_toArray, List.set_cons_zero, List.set_cons_succ]
                refine wpAnyH_take (i := 12) (v := ?_) (by simp only [List.getElem?_toArray, List.getElem?_cons_succ, List.getElem?_cons_zero]; rfl) (by kernel_rfl) (by kernel_rfl) (by kernel_rfl) (fun _ _ _ h => h) (Or.inl ⟨by rfl, ?_⟩) (by assumption) ?_
                rotate_left
                · ((intro w hSw; (try dsimp only at hSw); go_simp); try with_reducible rfl)
                try simp only [Act.put, List.setIfInBounds_toArray, List.set_cons_zero, List.set_cons_succ]
                refine wpAnyH_take (i := 13) (v := ?_) (by simp only [List.getElem?_toArray, List.getElem?_cons_succ, List.getElem?_cons_zero]; rfl) (by kernel_rfl) (by kernel_rfl) (by kernel_rfl) (fun _ _ _ h => h) (Or.inl ⟨by rfl, ?_⟩) (by assumption) ?_
                rotate_left
                · ((intro w hSw; (try dsimp only at hSw); go_simp); try with_reducible rfl)
                try simp only [Act.put, List.setIfInBounds_toArray, List.set_cons_zero, List.set_cons_succ]
                refine wpAnyH_take (i := 14) (v := ?_) (by simp only [List.getElem?_toArray, List.getElem?_cons_succ, List.getElem?_cons_zero]; rfl) (by kernel_rfl) (by kernel_rfl) (by kernel_rfl) (fun _ _ _ h => h) (Or.inl ⟨by rfl, ?_⟩) (by assumption) ?_
                rotate_left
                · ((intro w hSw; (try dsimp only at hSw); go_simp); try with_reducible rfl)
                try simp only [Act.put, List.setIfInBounds_toArray, List.set_cons_zero, List.set_cons_succ]
                refine wpAnyH_take (i := 15) (v := ?_) (by simp only [List.getElem?_toArray, List.getElem?_cons_succ, List.getElem?_cons_zero]; rfl) (by kernel_rfl) (by kernel_rfl) (by kernel_rfl) (fun _ _ _ h => h) (Or.inl ⟨by rfl, ?_⟩) (by assumption) ?_
                rotate_left
                · ((intro w hSw; (try dsimp only at hSw); go_simp); try with_reducible rfl)
                try simp only [Act.put, List.setIfInBounds_toArray, List.set_cons_zero, List.set_cons_succ]
                refine wpAnyH_take (i := 16) (v := ?_) (by simp only [List.getElem?_toArray, List.getElem?_cons_succ, List.getElem?_cons_zero]; rfl) (by kernel_rfl) (by kernel_rfl) (by kernel_rfl) (fun _ _ _ h => h) (Or.inl ⟨by rfl, ?_⟩) (by assumption) ?_
                rotate_left
                · ((intro w hSw; (try dsimp only at hSw); go_simp); try with_reducible rfl)
                try simp only [Act.put, List.setIfInBounds_toArray, List.set_cons_zero, List.set_cons_succ]
                refine wpAnyH_take (i := 17) (v := ?_) (by simp only [List.getElem?_toArray, List.getElem?_cons_succ, List.getElem?_cons_zero]; rfl) (by kernel_rfl) (by kernel_rfl) (by kernel_rfl) (fun _ _ _ h => h) (Or.inl ⟨by rfl, ?_⟩) (by assumption) ?_
                rotate_left
                · ((intro w hSw; (try dsimp only at hSw); go_simp); try with_reducible rfl)
                try simp only [Act.put, List.setIfInBounds_toArray, List.set_cons_zero, List.set_cons_succ]
                refine wpAnyH_take (i := 18) (v := ?_) (by simp only [List.getElem?_toArray, List.getElem?_cons_succ, List.getElem?_cons_zero]; rfl) (by kernel_rfl) (by kernel_rfl) (by kernel_rfl) (fun _ _ _ h => h) (Or.inl ⟨by rfl, ?_⟩) (by assumption) ?_
                rotate_left
                · ((intro w hSw; (try dsimp only at hSw); go_simp); try with_reducible rfl)
                try simp only [Act.put, List.setIfInBounds_toArray, List.set_cons_zero, List.set_cons_succ]
                refine wpAnyH_take (i := 19) (v := ?_) (by simp only [List.getElem?_toArray, List.getElem?_cons_succ, List.getElem?_cons_zero]; rfl) (by kernel_rfl) (by kernel_rfl) (by kernel_rfl) (fun _ _ _ h => h) (Or.inl ⟨by rfl, ?_⟩) (by assumption) ?_
                rotate_left
                · ((intro w hSw; (try dsimp only at hSw); go_simp); try with_reducible rfl)
                try simp only [Act.put, List.setIfInBounds_toArray, List.set_cons_zero, List.set_cons_succ]
                refine wpAnyH_take (i := 20) (v := ?_) (by simp only [List.getElem?_toArray, List.getElem?_cons_succ, List.getElem?_cons_zero]; rfl) (by kernel_rfl) (by kernel_rfl) (by kernel_rfl) (fun _ _ _ h => h) (Or.inl ⟨by rfl, ?_⟩) (by assumption) ?_
                rotate_left
                · ((intro w hSw; (try dsimp only at hSw); go_simp); try with_reducible rfl)
                try simp only [Act.put, List.setIfInBounds_toArray, List.set_cons_zero, List.set_cons_succ]
                refine wpAnyH_take (i := 21) (v := ?_) (by simp only [List.getElem?_toArray, List.getElem?_cons_succ, List.getElem?_cons_zero]; rfl) (by kernel_rfl) (by kernel_rfl) (by kernel_rfl) (fun _ _ _ h => h) (Or.inl ⟨by rfl, ?_⟩) (by assumption) ?_
                rotate_left
                · ((intro w hSw; (try dsimp only at hSw); go_simp); try with_reducible rfl)
                try simp only [Act.put, List.setIfInBounds_toArray, List.set_cons_zero, List.set_cons_succ]
                refine wpAnyH_take (i := 22) (v := ?_) (by simp only [List.getElem?_toArray, List.getElem?_cons_succ, List.getElem?_cons_zero]; rfl) (by kernel_rfl) (by kernel_rfl) (by kernel_rfl) (fun _ _ _ h => h) (Or.inl ⟨by rfl, ?_⟩) (by assumption) ?_
                rotate_left
                · ((intro w hSw; (try dsimp only at hSw); go_simp); try with_reducible rfl)
                try simp only [Act.put, List.setIfInBounds_toArray, List.set_cons_zero, List.set_cons_succ]
                refine wpAnyH_take (i := 23) (v := ?_) (by simp only [List.getElem?_toArray, List.getElem?_cons_succ, List.getElem?_cons_zero]; rfl) (by kernel_rfl) (by kernel_rfl) (by kernel_rfl) (fun _ _ _ h => h) (Or.inl ⟨by rfl, ?_⟩) (by assumption) ?_
                rotate_left
                · ((intro w hSw; (try dsimp only at hSw); go_simp); try with_reducible rfl)
                try simp only [Act.put, List.setIfInBounds_toArray, List.set_cons_zero, List.set_cons_succ]
                refine wpAnyH_take (i := 24) (v := ?_) (by simp only [List.getElem?_toArray, List.getElem?_cons_succ, List.getElem?_cons_zero]; rfl) (by kernel_rfl) (by kernel_rfl) (by kernel_rfl) (fun _ _ _ h => h) (Or.inl ⟨by rfl, ?_⟩) (by assumption) ?_
                rotate_left
                · ((intro w hSw; (try dsimp only at hSw); go_simp); try with_reducible rfl)
                try simp only [Act.put, List.setIfInBounds_toArray, List.set_cons_zero, List.set_cons_succ]
                refine wpAnyH_take (i := 25) (v := ?_) (by simp only [List.getElem?_toArray, List.getElem?_cons_succ, List.getElem?_cons_zero]; rfl) (by kernel_rfl) (by kernel_rfl) (by kernel_rfl) (fun _ _ _ h => h) (Or.inl ⟨by rfl, ?_⟩) (by assumption) ?_
                rotate_left
                · ((intro w hSw; (try dsimp only at hSw); go_simp); try with_reducible rfl)
                try simp only [Act.put, List.setIfInBounds_toArray, List.set_cons_zero, List.set_cons_succ]
                refine wpAnyH_ready (rs := [26]) (by kernel_rfl) (by simp) ?_
                refine AllReadyH.cons (by simp only [List.getElem?_toArray, List.getElem?_cons_succ, List.getElem?_cons_zero]; rfl) (fun K hK => ?_) AllReadyH.nil
                go_simp
                (go_at_call 21; refine (c21x'.out _).mono ?_; rintro e w8 ⟨v8, rfl, r8, -, k8⟩; replace k8 : Chg NoB wr w8 := ((Chg.refl NoB wr).drew).trans k8; have z8 := hcl.out _ k8; obtain ⟨a8, n8, c8, rfl, l8⟩ := r8.form'; have l8' : n8 = 1 := l8.out; obtain ⟨g8, o8, rfl, hc8, -⟩ := r8.sl.at (by simp); have cx : w8.cell? ⟨g8, o8, none⟩ = some (.string X) := (by have h9 := hc8 0 (tv x) rfl; rw [Nat.add_zero, hXD'.out] at h9; exact h9); have f1 : (0 : Int) < (n8 : Int) := (by omega); have f2 : 0 < n8 := (by omega); replace k8 := Hid.mk' k8; clear r8 l8 l8' hc8)
                go_wp2_with fail
                refine hK.out _ _ (by exact z8) (fun hHeld => ?_)
                clear hK K
                try simp only [Act.put, List.setIfInBounds_toArray, List.set_cons_zero, List.set_cons_succ]
                refine wpAnyH_take (i := 27) (v := ?_) (by simp only [List.getElem?_toArray, List.getElem?_cons_succ, List.getElem?_cons_zero]; rfl) (by kernel_rfl) (by kernel_rfl) (by kernel_rfl) (fun _ _ _ h => h) (Or.inl ⟨by rfl, ?_⟩) (by assumption) ?_
                rotate_left
                · ((intro w hSw; (try dsimp only at hSw); go_simp); try with_reducible rfl)
                try simp only [Act.put, List.setIfInBounds_toArray, List.set_cons_zero, List.set_cons_succ]
                refine wpAnyH_ready (rs := [28]) (by kernel_rfl) (by simp) ?_
                refine AllReadyH.cons (by simp only [List.getElem?_toArray, List.getElem?_cons_succ, List.getElem?_cons_zero]; rfl) (fun K hK => ?_) AllReadyH.nil
                go_simp
                refine hK.out _ _ (by exact z8) (fun hHeld => ?_)
                clear hK K
                try simp only [Act.put, List.setIfInBounds_toArray, List.set_cons_zero, List.set_cons_succ]
                refine wpAnyH_ready (rs := [29]) (by kernel_rfl) (by simp) ?_
                refine AllReadyH.cons (by simp only [List.getElem?_toArray, List.getElem?_cons_succ, List.getElem?_cons_zero]; rfl) (fun K hK => ?_) AllReadyH.nil
                go_simp
                refine hK.out _ _ (by exact z8) (fun hHeld => ?_)
                clear hK K
                try simp only [Act.put, List.setIfInBounds_toArray, List.set_cons_zero, List.set_cons_succ]
                refine wpAnyH_take (i := 30) (v := ?_) (by simp only [List.getElem?_toArray, List.getElem?_cons_succ, List.getElem?_cons_zero]; rfl) (by kernel_rfl) (by kernel_rfl) (by kernel_rfl) (fun _ _ _ h => h) (Or.inl ⟨by rfl, ?_⟩) (by assumption) ?_
                rotate_left
                · ((intro w hSw; (try dsimp only at hSw); go_simp); try with_reducible rfl)
                try simp only [Act.put, List.setIfInBounds_toArray, List.set_cons_zero, List.set_cons_succ]
                refine wpAnyH_take (i := 31) (v := ?_) (by simp only [List.getElem?_toArray, List.getElem?_cons_succ, List.getElem?_cons_zero]; rfl) (by kernel_rfl) (by kernel_rfl) (by kernel_rfl) (fun _ _ _ h => h) (Or.inl ⟨by rfl, ?_⟩) (by assumption) ?_
                rotate_left
                · ((intro w hSw; (try dsimp only at hSw); go_simp); try with_reducible rfl)
                try simp only [Act.put, List.setIfInBounds_toArray, List.set_cons_zero, List.set_cons_succ]
                refine wpAnyH_take (i := 32) (v := ?_) (by simp only [List.getElem?_toArray, List.getElem?_cons_succ, List.getElem?_cons_zero]; rfl) (by kernel_rfl) (by kernel_rfl) (by kernel_rfl) (fun _ _ _ h => h) (Or.inl ⟨by rfl, ?_⟩) (by assumption) ?_
                rotate_left
                · ((intro w hSw; (try dsimp only at hSw); go_simp); try with_reducible rfl)
                try simp only [Act.put, List.setIfInBounds_toArray, List.set_cons_zero, List.set_cons_succ]
                refine wpAnyH_done (by kernel_rfl) ?_ _
                refine NoPanic.normal ?_
                all_goals
                  go_wp2_with fail
                  go_roundg (nv' - (p + 1))
                  case measure => have := lp.out; omega
                  case rel => exact ⟨p + 1, by have := lp.out; omega, by simp, kq'.out.trans k8.out⟩
            · obtain rfl : p = nv' := by omega
              have p1 : ¬ (p : Int) < (p : Int) := by omega
              clear kq hnv hgl hfl3 hn7 hpn
              go_wp2_with (go_at_call 12; refine (c12.out _ ((k5'.out.trans kwr'.out).trans (k7'.out.trans kq'.out))).mono ?_; rintro e w9 ⟨rfl, k9⟩)
              go_ret
              exact ⟨rfl, k9⟩
end Go.Proofs.YtgnnjkmlnfdngaaDoor
