/- What Audit of the reference returns. Conditions: at most 20 problems of each kind, 12 lost files, texts of at most 30 bytes. -/
import Derived.Test.YtgnnjkmlnfdngaaDoorAa
import Derived.Test.YtgnnjkmlnfdngaaDoorU
set_option linter.unusedVariables false
set_option linter.unusedSimpArgs false
namespace Go.Proofs.YtgnnjkmlnfdngaaDoor
open Go Go.RowKit Go.Sort

set_option maxHeartbeats 8000000 in
set_option maxRecDepth 100000 in
theorem Audit15 (c m l : Value) (cs ms : List Prob) (ls : List (List UInt8)) (mg : Int) (w : World) (hc : SlP w c cs) (hm : SlP w m ms) (hl : Sl w l (ls.map tv))
    (nc : cs.length ≤ 20) (nm : ms.length ≤ 20) (nl : ls.length ≤ 12) (ic : ∀ p ∈ cs, InI p.1 ∧ p.2.1.length ≤ 30 ∧ InI p.2.2) (im : ∀ p ∈ ms, InI p.1 ∧ p.2.1.length ≤ 30 ∧ InI p.2.2) (il : ∀ s ∈ ls, s.length ≤ 30) (ig : InI mg) :
    Calls Tryd.prog 15 #[.agg #[c, m, l, .int .i64 mg]] w fun e w' => e = .returned (tv (auditL cs ms ls mg)) ∧ Chg NoB w w' := by
  obtain ⟨ca, cn, cc, rfl, hcn⟩ := hc.form'
  obtain ⟨ma, mn, mc, rfl, hmn⟩ := hm.form'
  obtain ⟨la, ln, lc, rfl, hln⟩ := hl.form'
  have hln2 : Hid (ln = ls.length) := by show _ = _; have := hln.out; simpa using this
  obtain ⟨bx, hbx⟩ : ∃ bx : Array Value, #[.slice ca cn cc, .slice ma mn mc, .slice la ln lc, .int .i64 mg] = bx := ⟨_, rfl⟩
  obtain ⟨wA, hwA⟩ : ∃ wA, w.alloc (.cells bx 35) = wA := ⟨_, rfl⟩
  have kA : Chg NoB w wA := by rw [← hwA]; exact (Chg.refl _ _).alloc _
  have hbA : ∀ w', Chg NoB wA w' → ∀ j x, bx[j]? = some x → w'.cell? ⟨w.heap.size, j, none⟩ = some x := fun w' k j x hx => by
    refine k.cell (fun h => h) ?_
    rw [← hwA, cell_of_row _ _ j _ _ _ (heap_alloc_new w _)]; exact hx
  have c31a := fun w' (k : Chg NoB w w') => (problems31 (.slice ca cn cc) catW cs w' (hc.new k) nc (by decide) ic).mono fun e w'' h => (⟨h.1, h.2⟩ : e = .returned (tv (probsL catW cs)) ∧ Chg NoB w' w'')
  have c31b := fun w' (k : Chg NoB w w') => (problems31 (.slice ma mn mc) mediaW ms w' (hm.new k) nm (by decide) im).mono fun e w'' h => (⟨h.1, h.2⟩ : e = .returned (tv (probsL mediaW ms)) ∧ Chg NoB w' w'')
  have lT1 := probsLen catW cs nc (by decide) ic
  have lT2 := probsLen mediaW ms nm (by decide) im
  obtain ⟨T1, hT1⟩ : ∃ T1, probsL catW cs = T1 := ⟨_, rfl⟩
  obtain ⟨T2, hT2⟩ : ∃ T2, probsL mediaW ms = T2 := ⟨_, rfl⟩
  simp only [hT1] at c31a lT1
  simp only [hT2] at c31b lT2
  obtain ⟨B1, hB1⟩ : ∃ B, bsOf T1 = B := ⟨_, rfl⟩
  obtain ⟨B2, hB2⟩ : ∃ B, bsOf T2 = B := ⟨_, rfl⟩
  have s1 : B1.size ≤ 1620 := by rw [← hB1, size_bsOf]; exact lT1
  have s2 : B2.size ≤ 1620 := by rw [← hB2, size_bsOf]; exact lT2
  have c31a' : Hid (∀ w', Chg NoB w w' → Calls Tryd.prog 31 #[.string ⟨#[99, 97, 116, 97, 108, 111, 103]⟩, .slice ca cn cc] w' fun e w'' => e = .returned (.string B1) ∧ Chg NoB w' w'') := fun w' k => by
    have := c31a w' k; unfold tv at this; rw [hB1] at this; exact this
  have c31b' : Hid (∀ w', Chg NoB w w' → Calls Tryd.prog 31 #[.string ⟨#[109, 101, 100, 105, 97]⟩, .slice ma mn mc] w' fun e w'' => e = .returned (.string B2) ∧ Chg NoB w' w'') := fun w' k => by
    have := c31b w' k; unfold tv at this; rw [hB2] at this; exact this
  have hBB : Hid (B1 ++ B2 = bsOf (T1 ++ T2)) := by show _ = _; rw [← hB1, ← hB2, bsOf_add]
  have lT := Hid.mk' (And.intro lT1 lT2)
  have kA' := Hid.mk' kA
  have hbA' := Hid.mk' hbA
  have hwA' : Hid (w.alloc (.cells #[.slice ca cn cc, .slice ma mn mc, .slice la ln lc, .int .i64 mg] 35) = wA) := by show _ = _; rw [hbx, hwA]
  have hbx' := Hid.mk' hbx
  have hl' := Hid.mk' hl
  have hT2' := Hid.mk' (And.intro hT1 hT2)
  have hN := Hid.mk' (And.intro nc (And.intro nm (And.intro nl (And.intro il ig))))
  have f0 : ¬ 9223372036854775807 < B1.size + B2.size := by omega
  have x0 : wA.cell? ⟨w.heap.size, 0, none⟩ = some (.slice ca cn cc) := hbA _ (Chg.refl _ _) 0 _ (by rw [← hbx]; rfl)
  have x1 : wA.cell? ⟨w.heap.size, 1, none⟩ = some (.slice ma mn mc) := hbA _ (Chg.refl _ _) 1 _ (by rw [← hbx]; rfl)
  clear c31a c31b hbA hwA hbx hl hT1 hT2 lT1 lT2 hc hm nc nm nl ic im il ig kA hln hB1 hB2
  go_enter Tryd.func15, Tryd.ntmps15
  go_wp2_with fail
  rw [hwA'.out]
  go_region_held3 (fun w' => w'.cell? ⟨w.heap.size, 0, none⟩ = some (.slice ca cn cc) ∧ w'.cell? ⟨w.heap.size, 1, none⟩ = some (.slice ma mn mc)) (first | exact ⟨x0, x1⟩ | exact ⟨y0, y1⟩ | exact ⟨z0, z1⟩)
    (first
    | (go_at_call_of 31 (Value.string ⟨#[99, 97, 116, 97, 108, 111, 103]⟩); refine (c31a'.out _ (by first | exact kA'.out | exact kA'.out.drew)).mono ?_; rintro e w1 ⟨rfl, k1⟩; replace k1 : Chg NoB wA w1 := ((Chg.refl NoB wA).drew).trans k1; have y0 : w1.cell? ⟨w.heap.size, 0, none⟩ = some (.slice ca cn cc) := hbA'.out _ k1 0 _ (by rw [← hbx'.out]; rfl); have y1 : w1.cell? ⟨w.heap.size, 1, none⟩ = some (.slice ma mn mc) := hbA'.out _ k1 1 _ (by rw [← hbx'.out]; rfl); replace k1 := Hid.mk' k1)
    | (go_at_call_of 31 (Value.string ⟨#[109, 101, 100, 105, 97]⟩); refine (c31b'.out _ (kA'.out.trans k1.out)).mono ?_; rintro e w2 ⟨rfl, k2⟩; replace k2 : Chg NoB wA w2 := k1.out.trans k2; have z0 : w2.cell? ⟨w.heap.size, 0, none⟩ = some (.slice ca cn cc) := hbA'.out _ k2 0 _ (by rw [← hbx'.out]; rfl); have z1 : w2.cell? ⟨w.heap.size, 1, none⟩ = some (.slice ma mn mc) := hbA'.out _ k2 1 _ (by rw [← hbx'.out]; rfl); replace k2 := Hid.mk' k2))
  have x2 : w2.cell? ⟨w.heap.size, 2, none⟩ = some (.slice la ln lc) := hbA'.out _ k2.out 2 _ (by rw [← hbx'.out]; rfl)
  have x3 : w2.cell? ⟨w.heap.size, 3, none⟩ = some (.int .i64 mg) := hbA'.out _ k2.out 3 _ (by rw [← hbx'.out]; rfl)
  have hl2 : Hid (Sl w2 (.slice la ln lc) (ls.map tv)) := hl'.out.new (kA'.out.trans k2.out)
  clear x0 x1 y0 y1
  go_wp2_with fail
  go_loopg [3, 4] ln (fun gq s3 s4 w' => ∃ i B, i + gq = ln ∧ s3 = .string B ∧ Hid (B = bsOf (T1 ++ T2 ++ lostL (ls.take i))) ∧ s4 = .int .i64 (i : Int) ∧ w' = w2)
  case atStart => exact ⟨0, _, by omega, rfl, Hid.mk' (by rw [hBB.out, List.take_zero]; unfold lostL; simp), rfl, rfl⟩
  case round =>
    obtain ⟨i, B, hg, rfl, hB, rfl, rfl⟩ := hrel
    have hn2 := hln2.out
    have hN2 := hN.out
    have sB : B.size ≤ 4000 := by
      rw [hB.out, size_bsOf, List.length_append, List.length_append]
      have h1 := lost_le (ls.take i) fun s h => hN2.2.2.2.1 s (List.mem_of_mem_take h)
      rw [List.length_take] at h1
      have h3 : min i ls.length * 36 ≤ 12 * 36 := Nat.mul_le_mul_right _ (by omega)
      have := lT.out
      omega
    by_cases hin : i < ln
    · obtain ⟨s, hs⟩ : ∃ s, ls[i]? = some s := ⟨_, List.getElem?_eq_getElem (by omega)⟩
      obtain ⟨gp, o, rfl, hc, -⟩ := hl2.out.at (by simp; omega)
      have c1 := hc i (tv s) (by rw [List.getElem?_map, hs]; rfl)
      obtain ⟨SB, hSB⟩ : ∃ B, bsOf s = B := ⟨_, rfl⟩
      unfold tv at c1
      rw [hSB] at c1
      have ls30 : s.length ≤ 30 := hN2.2.2.2.1 s (List.mem_of_getElem? hs)
      have sS : SB.size ≤ 30 := by rw [← hSB, size_bsOf]; exact ls30
      have hres : Hid (B ++ (⟨#[108, 111, 115, 116, 32]⟩ : ByteArray) ++ SB ++ (⟨#[10]⟩ : ByteArray) = bsOf (T1 ++ T2 ++ lostL (ls.take (i + 1)))) := by
        show _ = _
        rw [hB.out, ← hSB, show (⟨#[108, 111, 115, 116, 32]⟩ : ByteArray) = bsOf lostW from rfl, show (⟨#[10]⟩ : ByteArray) = bsOf [10] from rfl, bsOf_add, bsOf_add, bsOf_add, List.take_add_one, hs]
        unfold lostL
        simp
      have n1 : IntKind.i64.wrap ((i : Int) + 1) = (i : Int) + 1 := by rw [IntKind.wrap_i64]; omega
      have d1 : (i : Int) < (ln : Int) := by omega
      have d2 : i < ln := hin
      clear hc hs hSB hn2 hN2 hin ls30
      go_wp2_with fail
      go_roundg (ln - (i + 1))
      case measure => omega
      case rel => exact ⟨i + 1, _, by omega, rfl, hres, by simp, rfl⟩
    · obtain rfl : i = ln := by omega
      have d1 : ¬ ((i : Int) < (i : Int)) := by omega
      have hB3 := hB.out
      rw [List.take_of_length_le (by omega)] at hB3
      have ecm := hcn.out
      have emn := hmn.out
      obtain ⟨N, hNN⟩ : ∃ N : Int, (cn : Int) + (mn : Int) + (i : Int) = N := ⟨_, rfl⟩
      have iN : InI N := by unfold InI; omega
      have lN := itoa_le N iN.1 iN.2
      have c20 : ∀ w', Calls Tryd.prog 20 #[.int .i64 N] w' fun e w'' => e = .returned (tv (Lib.itoa N)) ∧ Chg NoB w' w'' := fun w' => number20 N iN.1 iN.2 w'
      obtain ⟨NL, hNL⟩ : ∃ L, Lib.itoa N = L := ⟨_, rfl⟩
      rw [hNL] at c20 lN
      obtain ⟨NB, hNB⟩ : ∃ B, bsOf NL = B := ⟨_, rfl⟩
      unfold tv at c20
      rw [hNB] at c20
      have sN : NB.size ≤ 20 := by rw [← hNB, size_bsOf]; exact lN
      have hfin : Hid (bsOf (auditL cs ms ls mg) = bsOf (T1 ++ T2 ++ lostL ls ++ endL N mg ++ [10])) := by
        show _ = _
        unfold auditL
        rw [hT2'.out.1, hT2'.out.2, ← ecm, ← emn, ← hn2, hNN]
      have n1 : IntKind.i64.wrap ((cn : Int) + (mn : Int)) = (cn : Int) + (mn : Int) := by rw [IntKind.wrap_i64]; omega
      have n2 : IntKind.i64.wrap ((cn : Int) + (mn : Int) + (i : Int)) = N := by rw [IntKind.wrap_i64]; omega
      have n3 : (cn : Int) + (mn : Int) + (i : Int) = N := hNN
      have n4 : wrap64 N = N := by unfold wrap64; omega
      have x0 : wr.cell? ⟨w.heap.size, 0, none⟩ = some (.slice ca cn cc) := z0
      have x1 : wr.cell? ⟨w.heap.size, 1, none⟩ = some (.slice ma mn mc) := z1
      have ig := hN2.2.2.2.2
      have c20' := Hid.mk' c20
      by_cases hmg : 0 ≤ mg
      · have cM : ∀ w', Calls Tryd.prog 20 #[.int .i64 mg] w' fun e w'' => e = .returned (tv (marL mg)) ∧ Chg NoB w' w'' := fun w' => by
          have e : marL mg = Lib.itoa mg := by unfold marL; rw [if_pos hmg]
          rw [e]
          exact number20 mg ig.1 ig.2 w'
        have lM : (marL mg).length ≤ 20 := by unfold marL; rw [if_pos hmg]; exact itoa_le mg ig.1 ig.2
        obtain ⟨MB, hMB⟩ : ∃ B, bsOf (marL mg) = B := ⟨_, rfl⟩
        have sM : MB.size ≤ 20 := by rw [← hMB, size_bsOf]; exact lM
        unfold tv at cM
        rw [hMB] at cM
        have cM' := Hid.mk' cM
        have hres : Hid (B ++ (⟨#[112, 114, 111, 98, 108, 101, 109, 115, 32]⟩ : ByteArray) ++ NB ++ (⟨#[44, 32, 109, 97, 114, 103, 105, 110, 32]⟩ : ByteArray) ++ MB ++ (⟨#[10]⟩ : ByteArray) = bsOf (auditL cs ms ls mg)) := by
          show _ = _
          rw [hfin.out, hB3, ← hMB, ← hNB, show (⟨#[112, 114, 111, 98, 108, 101, 109, 115, 32]⟩ : ByteArray) = bsOf probW from rfl, show (⟨#[44, 32, 109, 97, 114, 103, 105, 110, 32]⟩ : ByteArray) = bsOf marW from rfl, show (⟨#[10]⟩ : ByteArray) = bsOf [10] from rfl, bsOf_add, bsOf_add, bsOf_add, bsOf_add, bsOf_add]
          unfold endL
          rw [hNL]
          simp only [List.append_assoc]
        clear c20 hNN hNL hNB cM lM hn2 hN2 hin ecm emn iN ig hB3 hMB lN
        go_wp2_with (first
          | (go_at_call_of 20 (Value.int .i64 mg); refine (cM'.out _).mono ?_; rintro e w3 ⟨rfl, k3⟩; have y0 : w3.cell? ⟨w.heap.size, 0, none⟩ = some (.slice ca cn cc) := k3.cell (fun h => h) x0; have y1 : w3.cell? ⟨w.heap.size, 1, none⟩ = some (.slice ma mn mc) := k3.cell (fun h => h) x1; have y2 : w3.cell? ⟨w.heap.size, 2, none⟩ = some (.slice la i lc) := k3.cell (fun h => h) x2; replace k3 := Hid.mk' k3)
          | (go_at_call_of 20 (Value.int .i64 N); refine (c20'.out _).mono ?_; rintro e w4 ⟨rfl, k4⟩; replace k4 := Hid.mk' k4))
        go_ret
        exact ⟨congrArg (fun s => Ending.returned (Value.string s)) hres.out, ((kA'.out.trans k2.out).trans k3.out).trans k4.out⟩
      · have hMB : bsOf (marL mg) = ⟨#[110, 111, 110, 101]⟩ := by unfold marL; rw [if_neg hmg]; rfl
        have hmg2 : mg < 0 := by omega
        have hres : Hid (B ++ (⟨#[112, 114, 111, 98, 108, 101, 109, 115, 32]⟩ : ByteArray) ++ NB ++ (⟨#[44, 32, 109, 97, 114, 103, 105, 110, 32]⟩ : ByteArray) ++ (⟨#[110, 111, 110, 101]⟩ : ByteArray) ++ (⟨#[10]⟩ : ByteArray) = bsOf (auditL cs ms ls mg)) := by
          show _ = _
          rw [hfin.out, hB3, ← hMB, ← hNB, show (⟨#[112, 114, 111, 98, 108, 101, 109, 115, 32]⟩ : ByteArray) = bsOf probW from rfl, show (⟨#[44, 32, 109, 97, 114, 103, 105, 110, 32]⟩ : ByteArray) = bsOf marW from rfl, show (⟨#[10]⟩ : ByteArray) = bsOf [10] from rfl, bsOf_add, bsOf_add, bsOf_add, bsOf_add, bsOf_add]
          unfold endL
          rw [hNL]
          simp only [List.append_assoc]
        clear c20 hNN hNL hNB hn2 hN2 hin ecm emn iN ig hB3 hMB lN
        go_wp2_with (first
          | (go_at_call_of 20 (Value.int .i64 N); refine (c20'.out _).mono ?_; rintro e w4 ⟨rfl, k4⟩; replace k4 := Hid.mk' k4))
        go_ret
        exact ⟨congrArg (fun s => Ending.returned (Value.string s)) hres.out, (kA'.out.trans k2.out).trans k4.out⟩
end Go.Proofs.YtgnnjkmlnfdngaaDoor
