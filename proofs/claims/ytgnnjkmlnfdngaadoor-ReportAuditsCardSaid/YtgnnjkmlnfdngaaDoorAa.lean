/- kind and problems of the reference. Conditions: at most 20 problems, names of at most 30 bytes. -/
import Derived.Test.YtgnnjkmlnfdngaaDoorP
import Derived.Test.YtgnnjkmlnfdngaaDoorT
set_option linter.unusedVariables false
set_option linter.unusedSimpArgs false
namespace Go.Proofs.YtgnnjkmlnfdngaaDoor
open Go Go.RowKit Go.Sort

def kindV : Array Value := (kindsL.tail.map tv).toArray
theorem kindV_at (j : Nat) (h : j < 10) : kindV[j]? = some (tv (kindL ((j : Int) + 1))) := by
  have : ∀ j : Fin 10, kindsL.tail[j.val]? = some (kindL ((j.val : Int) + 1)) := by decide
  unfold kindV
  rw [List.getElem?_toArray, List.getElem?_map, this ⟨j, h⟩]; rfl

set_option maxHeartbeats 4000000 in
set_option maxRecDepth 100000 in
theorem kind37 (k : Int) (w : World) (h0 : -9223372036854775808 ≤ k) (h1 : k ≤ 9223372036854775807) :
    Calls Tryd.prog 37 #[.int .i64 k] w fun e w' => e = .returned (tv (kindL k)) ∧ Chg NoB w w' := by
  obtain ⟨w1, hw1⟩ : ∃ w1, w.alloc (.cells kindV 9) = w1 := ⟨_, rfl⟩
  have k1 : Chg NoB w w1 := by rw [← hw1]; exact (Chg.refl _ _).alloc _
  by_cases hk : 1 ≤ k ∧ k < 11
  · obtain ⟨j, rfl⟩ : ∃ j : Nat, k = (j : Int) + 1 := ⟨(k - 1).toNat, by omega⟩
    have hj : j < 10 := by omega
    have c1 : w1.cell? ⟨w.heap.size, j, none⟩ = some (tv (kindL ((j : Int) + 1))) := by
      rw [← hw1, cell_of_row _ _ j _ _ _ (heap_alloc_new w _)]; exact kindV_at j hj
    obtain ⟨L, hL⟩ : ∃ L, kindL ((j : Int) + 1) = L := ⟨_, rfl⟩
    rw [hL] at c1 ⊢
    obtain ⟨k, hk2⟩ : ∃ k : Int, (j : Int) + 1 = k := ⟨_, rfl⟩
    rw [hk2]
    have b1 : ¬ k < 1 := by omega
    have b2 : ¬ 10 < k := by omega
    have n1 : IntKind.i64.wrap (k - 1) = (j : Int) := by rw [IntKind.wrap_i64]; omega
    have b5 : (j : Int) < 10 := by omega
    have k1' := Hid.mk' k1
    have hw1' := Hid.mk' hw1
    unfold tv at c1 ⊢
    clear h0 h1 hk k1 hw1 hL hk2
    go_enter Tryd.func37, Tryd.ntmps37
    go_wp2_with (refine wpList_buildSlice rfl 22 9 10 _ rfl kindV ((Tryd.prog.info? 9).get some9) (.string ⟨#[]⟩) Tryd.underlying22 hie9 (by kernel_rfl) (by decide +kernel) (by decide +kernel) (by kernel_rfl) ?_; rw [hw1'.out])
    go_ret
    exact ⟨rfl, k1'.out⟩
  · have hq : kindL k = [111, 116, 104, 101, 114] := by unfold kindL; rw [if_neg hk]
    rw [hq]
    have k1' := Hid.mk' k1
    have hw1' := Hid.mk' hw1
    clear h0 h1 k1 hw1 hq
    by_cases hlt : k < 1
    · clear hk
      go_enter Tryd.func37, Tryd.ntmps37
      go_wp2_with (refine wpList_buildSlice rfl 22 9 10 _ rfl kindV ((Tryd.prog.info? 9).get some9) (.string ⟨#[]⟩) Tryd.underlying22 hie9 (by kernel_rfl) (by decide +kernel) (by decide +kernel) (by kernel_rfl) ?_; rw [hw1'.out])
      go_ret
      exact ⟨rfl, k1'.out⟩
    · have b2 : 10 < k := by omega
      clear hk
      go_enter Tryd.func37, Tryd.ntmps37
      go_wp2_with (refine wpList_buildSlice rfl 22 9 10 _ rfl kindV ((Tryd.prog.info? 9).get some9) (.string ⟨#[]⟩) Tryd.underlying22 hie9 (by kernel_rfl) (by decide +kernel) (by decide +kernel) (by kernel_rfl) ?_; rw [hw1'.out])
      go_ret
      exact ⟨rfl, k1'.out⟩
theorem probsLen' (word : List UInt8) (ps : List Prob) (hn : ps.length ≤ 20) (hw : word.length ≤ 10) (h : ∀ p ∈ ps, InI p.1 ∧ p.2.1.length ≤ 30 ∧ InI p.2.2) : (probsL word ps).length ≤ 1620 := by
  have := probs_le word ps hw h
  have h2 : ps.length * 81 ≤ 20 * 81 := Nat.mul_le_mul_right _ hn
  omega

set_option maxHeartbeats 8000000 in
set_option maxRecDepth 100000 in
theorem problems31 (u : Value) (word : List UInt8) (ps : List Prob) (w : World) (hu : SlP w u ps)
    (hn : ps.length ≤ 20) (hw : word.length ≤ 10) (hi : ∀ p ∈ ps, InI p.1 ∧ p.2.1.length ≤ 30 ∧ InI p.2.2) :
    Calls Tryd.prog 31 #[tv word, u] w fun e w' => e = .returned (tv (probsL word ps)) ∧ Chg NoB w w' := by
  obtain ⟨a, n, c, rfl, hn1⟩ := hu.form'
  have hu' := Hid.mk' hu
  have hsz := Hid.mk' (And.intro hn hw)
  have hi' := Hid.mk' hi
  obtain ⟨WB, hWB⟩ : ∃ B, bsOf word = B := ⟨_, rfl⟩
  have hWB' := Hid.mk' hWB
  have sW : WB.size ≤ 10 := by rw [← hWB, size_bsOf]; exact hw
  unfold tv
  rw [hWB]
  clear hu hn hw hi hWB
  go_enter Tryd.func31, Tryd.ntmps31
  go_wp2_with fail
  go_loopg [5, 6] n (fun gq s5 s6 wr => ∃ i B, i + gq = n ∧ s5 = .string B ∧ Hid (B = bsOf (probsL word (ps.take i))) ∧ s6 = .int .i64 (i : Int) ∧ Chg NoB w wr)
  case atStart => exact ⟨0, _, by omega, rfl, Hid.mk' (by rw [List.take_zero]; rfl), rfl, Chg.refl _ _⟩
  case round =>
    obtain ⟨i, B, hg, rfl, hB, rfl, kwr⟩ := hrel
    have hn2 := hn1.out
    have hsz1 := hsz.out
    have kwr' := Hid.mk' kwr
    by_cases hin : i < n
    · obtain ⟨p, hpp⟩ : ∃ p, ps[i]? = some p := ⟨_, List.getElem?_eq_getElem (by omega)⟩
      obtain ⟨gp, o, rfl, hc⟩ := (hu'.out.new kwr).at (by omega)
      obtain ⟨c0, c1, c2⟩ := hc i p hpp
      obtain ⟨pk, pn, pu⟩ := p
      simp only at c0 c1 c2
      obtain ⟨NB, hNB⟩ : ∃ B, bsOf pn = B := ⟨_, rfl⟩
      unfold tv at c1
      rw [hNB] at c1
      have d1 : (i : Int) < (n : Int) := by omega
      have d2 : i < n := hin
      have hmem := hi'.out _ (List.mem_of_getElem? hpp)
      have c37 := kind37 pk wr hmem.1.1 hmem.1.2
      have lK : (kindL pk).length ≤ 9 := by
        unfold kindL
        split
        · rename_i hk
          have : ∀ j : Fin 11, (kindsL.getD j.val []).length ≤ 9 := by decide
          exact this ⟨pk.toNat, by omega⟩
        · decide
      obtain ⟨KB, hKB⟩ : ∃ B, bsOf (kindL pk) = B := ⟨_, rfl⟩
      unfold tv at c37
      rw [hKB] at c37
      have sK : KB.size ≤ 9 := by rw [← hKB, size_bsOf]; exact lK
      have c37' := Hid.mk' c37
      have sB : B.size ≤ 1620 := by
        rw [hB.out, size_bsOf]
        refine probsLen' word (ps.take i) (by rw [List.length_take]; omega) hsz1.2 fun p hp => hi'.out p (List.mem_of_mem_take hp)
      have u20 := fun w' => number20 pu hmem.2.2.1 hmem.2.2.2 w'
      have lU := itoa_le pu hmem.2.2.1 hmem.2.2.2
      obtain ⟨UB, hUB⟩ : ∃ B, bsOf (Lib.itoa pu) = B := ⟨_, rfl⟩
      have sU : UB.size ≤ 20 := by rw [← hUB, size_bsOf]; exact lU
      unfold tv at u20
      rw [hUB] at u20
      have c20' := Hid.mk' u20
      have sN : NB.size ≤ 30 := by rw [← hNB, size_bsOf]; exact hmem.2.1
      have n1 : IntKind.i64.wrap ((i : Int) + 1) = (i : Int) + 1 := by rw [IntKind.wrap_i64]; omega
      have hst : probsL word (ps.take (i + 1)) = probsL word (ps.take i) ++ (probL word (pk, pn, pu) ++ [10]) := by
        unfold probsL
        rw [List.take_add_one, hpp]
        simp
      by_cases hpn : pn = []
      · have z1 : NB.toList.isEmpty = true := by rw [← hNB, hpn]; exact nil_bsOf
        by_cases hpu : pu = 0
        · have z2 : (pu != 0) = false := by rw [hpu]; rfl
          have z3 : (pu == 0) = true := by rw [hpu]; rfl
          have hs : Hid (B ++ WB ++ (⟨#[32]⟩ : ByteArray) ++ KB ++ (⟨#[10]⟩ : ByteArray) = bsOf (probsL word (ps.take (i + 1)))) := by
            show _ = _
            rw [hst, hB.out, ← hWB'.out, ← hKB, show (⟨#[32]⟩ : ByteArray) = bsOf [32] from rfl, show (⟨#[10]⟩ : ByteArray) = bsOf [10] from rfl]
            unfold probL
            simp only [if_pos hpn, if_pos hpu]
            simp [bsOf_add]
          clear c37 u20 lK lU hKB hUB hNB hst hpp hc hmem kwr hpn hpu hn2 hsz1 hin
          go_wp2_with (first
            | (go_at_call 37; refine c37'.out.mono ?_; rintro e w2 ⟨rfl, k2⟩; have c1b : w2.cell? ⟨gp, o + i * 3 + 1, none⟩ = some (.string NB) := k2.cell (fun h => h) c1; have c2b : w2.cell? ⟨gp, o + i * 3 + 2, none⟩ = some (.int .i64 pu) := k2.cell (fun h => h) c2; replace k2 := Hid.mk' k2))
          go_roundg (n - (i + 1))
          case measure => omega
          case rel => exact ⟨i + 1, _, by omega, rfl, hs, by simp, kwr'.out.trans k2.out⟩
        · have z2 : (pu != 0) = true := by simp [hpu]
          have z3 : (pu == 0) = false := by simp [hpu]
          have hs : Hid (B ++ WB ++ (⟨#[32]⟩ : ByteArray) ++ KB ++ (⟨#[32]⟩ : ByteArray) ++ UB ++ (⟨#[10]⟩ : ByteArray) = bsOf (probsL word (ps.take (i + 1)))) := by
            show _ = _
            rw [hst, hB.out, ← hWB'.out, ← hKB, ← hUB, show (⟨#[32]⟩ : ByteArray) = bsOf [32] from rfl, show (⟨#[10]⟩ : ByteArray) = bsOf [10] from rfl]
            unfold probL
            simp only [if_pos hpn, if_neg hpu]
            simp [bsOf_add]
          clear c37 u20 lK lU hKB hUB hNB hst hpp hc hmem kwr hpn hpu hn2 hsz1 hin
          go_wp2_with (first
            | (go_at_call 37; refine c37'.out.mono ?_; rintro e w2 ⟨rfl, k2⟩; have c1b : w2.cell? ⟨gp, o + i * 3 + 1, none⟩ = some (.string NB) := k2.cell (fun h => h) c1; have c2b : w2.cell? ⟨gp, o + i * 3 + 2, none⟩ = some (.int .i64 pu) := k2.cell (fun h => h) c2; replace k2 := Hid.mk' k2)
            | (go_at_call 20; refine (c20'.out _).mono ?_; rintro e w3 ⟨rfl, k3⟩; replace k3 := Hid.mk' k3))
          go_roundg (n - (i + 1))
          case measure => omega
          case rel => exact ⟨i + 1, _, by omega, rfl, hs, by simp, (kwr'.out.trans k2.out).trans k3.out⟩
      · have z1 : NB.toList.isEmpty = false := by rw [← hNB]; exact full_bsOf pn hpn
        by_cases hpu : pu = 0
        · have z2 : (pu != 0) = false := by rw [hpu]; rfl
          have z3 : (pu == 0) = true := by rw [hpu]; rfl
          have hs : Hid (B ++ WB ++ (⟨#[32]⟩ : ByteArray) ++ KB ++ (⟨#[32]⟩ : ByteArray) ++ NB ++ (⟨#[10]⟩ : ByteArray) = bsOf (probsL word (ps.take (i + 1)))) := by
            show _ = _
            rw [hst, hB.out, ← hWB'.out, ← hKB, ← hNB, show (⟨#[32]⟩ : ByteArray) = bsOf [32] from rfl, show (⟨#[10]⟩ : ByteArray) = bsOf [10] from rfl]
            unfold probL
            simp only [if_neg hpn, if_pos hpu]
            simp [bsOf_add]
          clear c37 u20 lK lU hKB hUB hNB hst hpp hc hmem kwr hpn hpu hn2 hsz1 hin
          go_wp2_with (first
            | (go_at_call 37; refine c37'.out.mono ?_; rintro e w2 ⟨rfl, k2⟩; have c1b : w2.cell? ⟨gp, o + i * 3 + 1, none⟩ = some (.string NB) := k2.cell (fun h => h) c1; have c2b : w2.cell? ⟨gp, o + i * 3 + 2, none⟩ = some (.int .i64 pu) := k2.cell (fun h => h) c2; replace k2 := Hid.mk' k2))
          go_roundg (n - (i + 1))
          case measure => omega
          case rel => exact ⟨i + 1, _, by omega, rfl, hs, by simp, kwr'.out.trans k2.out⟩
        · have z2 : (pu != 0) = true := by simp [hpu]
          have z3 : (pu == 0) = false := by simp [hpu]
          have hs : Hid (B ++ WB ++ (⟨#[32]⟩ : ByteArray) ++ KB ++ (⟨#[32]⟩ : ByteArray) ++ NB ++ (⟨#[32]⟩ : ByteArray) ++ UB ++ (⟨#[10]⟩ : ByteArray) = bsOf (probsL word (ps.take (i + 1)))) := by
            show _ = _
            rw [hst, hB.out, ← hWB'.out, ← hKB, ← hNB, ← hUB, show (⟨#[32]⟩ : ByteArray) = bsOf [32] from rfl, show (⟨#[10]⟩ : ByteArray) = bsOf [10] from rfl]
            unfold probL
            simp only [if_neg hpn, if_neg hpu]
            simp [bsOf_add]
          clear c37 u20 lK lU hKB hUB hNB hst hpp hc hmem kwr hpn hpu hn2 hsz1 hin
          go_wp2_with (first
            | (go_at_call 37; refine c37'.out.mono ?_; rintro e w2 ⟨rfl, k2⟩; have c1b : w2.cell? ⟨gp, o + i * 3 + 1, none⟩ = some (.string NB) := k2.cell (fun h => h) c1; have c2b : w2.cell? ⟨gp, o + i * 3 + 2, none⟩ = some (.int .i64 pu) := k2.cell (fun h => h) c2; replace k2 := Hid.mk' k2)
            | (go_at_call 20; refine (c20'.out _).mono ?_; rintro e w3 ⟨rfl, k3⟩; replace k3 := Hid.mk' k3))
          go_roundg (n - (i + 1))
          case measure => omega
          case rel => exact ⟨i + 1, _, by omega, rfl, hs, by simp, (kwr'.out.trans k2.out).trans k3.out⟩
    · obtain rfl : i = n := by omega
      have d1 : ¬ ((i : Int) < (i : Int)) := by omega
      have hfin : Hid (B = bsOf (probsL word ps)) := by
        show _ = _
        rw [hB.out, List.take_of_length_le (by omega)]
      clear kwr hin hn2 hsz1
      go_wp2_with fail
      go_ret
      exact ⟨by rw [hfin.out]; rfl, kwr'.out⟩
end Go.Proofs.YtgnnjkmlnfdngaaDoor
