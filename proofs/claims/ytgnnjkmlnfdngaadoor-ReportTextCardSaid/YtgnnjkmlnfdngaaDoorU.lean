/- What Audit returns. Conditions: at most 20 problems of each kind, 12 lost files, texts of at most 30 bytes. -/
import Derived.Test.YtgnnjkmlnfdngaaDoorT
import Derived.Deep.RegionHeld3
set_option linter.unusedVariables false
set_option linter.unusedSimpArgs false
namespace Go.Proofs.YtgnnjkmlnfdngaaDoor
open Go Go.RowKit Go.Sort

def catW : List UInt8 := [99, 97, 116, 97, 108, 111, 103]
def mediaW : List UInt8 := [109, 101, 100, 105, 97]
def lostW : List UInt8 := [108, 111, 115, 116, 32]
def probW : List UInt8 := [112, 114, 111, 98, 108, 101, 109, 115, 32]
def marW : List UInt8 := [44, 32, 109, 97, 114, 103, 105, 110, 32]
def noneW : List UInt8 := [110, 111, 110, 101]
def lostL (ls : List (List UInt8)) : List UInt8 := (ls.map fun s => lostW ++ s ++ [10]).flatten
def marL (m : Int) : List UInt8 := if 0 ≤ m then Lib.itoa m else noneW
def endL (n m : Int) : List UInt8 := probW ++ Lib.itoa n ++ marW ++ marL m
/-- The lines of an audit. -/
def auditL (cs ms : List Prob) (ls : List (List UInt8)) (mg : Int) : List UInt8 :=
  probsL catW cs ++ probsL mediaW ms ++ lostL ls ++ endL ((cs.length : Int) + (ms.length : Int) + (ls.length : Int)) mg ++ [10]

theorem PH.cell {wr : World} {g : Nat} {v : Value} {t : List UInt8} {w : World} (h : PH wr g v t w) {a : Addr} {x : Value} (hc : wr.cell? a = some x) (hd : ¬ (a.block = g ∨ own v a.block)) : w.cell? a = some x := by
  obtain ⟨_, _, _, h3⟩ := h
  exact h3.cell hd hc
theorem lost_le (ls : List (List UInt8)) (h : ∀ s ∈ ls, s.length ≤ 30) : (lostL ls).length ≤ ls.length * 36 := by
  unfold lostL
  induction ls with
  | nil => simp
  | cons s ls ih =>
    have := ih fun q hq => h q (List.mem_cons_of_mem _ hq)
    have h2 := h s (List.mem_cons_self ..)
    simp only [List.map_cons, List.flatten_cons, List.length_append, List.length_cons, List.length_nil]
    have h3 : lostW.length = 5 := rfl
    omega
theorem probsLen (word : List UInt8) (ps : List Prob) (hn : ps.length ≤ 20) (hw : word.length ≤ 10) (h : ∀ p ∈ ps, InI p.1 ∧ p.2.1.length ≤ 30 ∧ InI p.2.2) : (probsL word ps).length ≤ 1620 := by
  have := probs_le word ps hw h
  have h2 : ps.length * 81 ≤ 20 * 81 := Nat.mul_le_mul_right _ hn
  omega

set_option maxHeartbeats 8000000 in
set_option maxRecDepth 100000 in
theorem Audit14 (c m l : Value) (cs ms : List Prob) (ls : List (List UInt8)) (mg : Int) (w : World) (hc : SlP w c cs) (hm : SlP w m ms) (hl : Sl w l (ls.map tv)) (hL : Lay w)
    (nc : cs.length ≤ 20) (nm : ms.length ≤ 20) (nl : ls.length ≤ 12) (ic : ∀ p ∈ cs, InI p.1 ∧ p.2.1.length ≤ 30 ∧ InI p.2.2) (im : ∀ p ∈ ms, InI p.1 ∧ p.2.1.length ≤ 30 ∧ InI p.2.2) (il : ∀ s ∈ ls, s.length ≤ 30) (ig : InI mg) :
    Calls Tryd.prog 14 #[.agg #[c, m, l, .int .i64 mg]] w fun e w' => e = .returned (tv (auditL cs ms ls mg)) ∧ Chg NoB w w' := by
  obtain ⟨ca, cn, cc, rfl, hcn⟩ := hc.form'
  obtain ⟨ma, mn, mc, rfl, hmn⟩ := hm.form'
  obtain ⟨la, ln, lc, rfl, hln⟩ := hl.form'
  have hln2 : Hid (ln = ls.length) := by show _ = _; have := hln.out; simpa using this
  obtain ⟨bx, hbx⟩ : ∃ bx : Array Value, #[.slice ca cn cc, .slice ma mn mc, .slice la ln lc, .int .i64 mg] = bx := ⟨_, rfl⟩
  obtain ⟨wA, hwA⟩ : ∃ wA, w.alloc (.cells bx 31) = wA := ⟨_, rfl⟩
  have sA : wA.heap.size = w.heap.size + 1 := by rw [← hwA]; simp
  have kA : Chg NoB w wA := by rw [← hwA]; exact (Chg.refl _ _).alloc _
  obtain ⟨wB, hwB⟩ : ∃ wB, wA.alloc (.cells #[.pointer none, .slice none 0 0] 55) = wB := ⟨_, rfl⟩
  have kB : Chg NoB w wB := by rw [← hwB]; exact kA.alloc _
  have hbA : ∀ j x, bx[j]? = some x → wA.cell? ⟨w.heap.size, j, none⟩ = some x := fun j x hx => by
    rw [← hwA, cell_of_row _ _ j _ _ _ (heap_alloc_new w _)]; exact hx
  have hbB : ∀ j x, bx[j]? = some x → wB.cell? ⟨w.heap.size, j, none⟩ = some x := fun j x hx => by
    have := hbA j x hx
    rw [← hwB]; exact ((Chg.refl NoB wA).alloc _).cell (fun h => h) this
  have ph0 : PH wB (w.heap.size + 1) (.slice none 0 0) [] wB := PH.start (by rw [← hwB, ← sA]; exact sheet_new wA)
  have hv0 : ∀ k, own (.slice none 0 0) k → w.heap.size ≤ k := fun k hk => (own_none 0 0 k hk).elim
  have base : ∀ t w', PH wB (w.heap.size + 1) (.slice none 0 0) t w' → Chg NoB w w' := fun t w' h => h.base kB (by omega) hv0
  have hbP : ∀ t w', PH wB (w.heap.size + 1) (.slice none 0 0) t w' → ∀ j x, bx[j]? = some x → w'.cell? ⟨w.heap.size, j, none⟩ = some x := fun t w' h j x hx =>
    h.cell (hbB j x hx) (fun hd => hd.elim (fun h => by simp at h) fun h => own_none 0 0 _ h)
  have c29a := fun w' (h : PH wB (w.heap.size + 1) (.slice none 0 0) [] w') => problems29 (w.heap.size + 1) (.slice none 0 0) (.slice ca cn cc) [] catW cs w wB w' h hc hL kB (by omega) hv0 nc (by decide) ic (by simp)
  obtain ⟨T1, hT1⟩ : ∃ T1, probsL catW cs = T1 := ⟨_, rfl⟩
  have lT1 : T1.length ≤ 1620 := by rw [← hT1]; exact probsLen catW cs nc (by decide) ic
  simp only [List.nil_append, hT1] at c29a
  have c29b := fun w' (h : PH wB (w.heap.size + 1) (.slice none 0 0) T1 w') => problems29 (w.heap.size + 1) (.slice none 0 0) (.slice ma mn mc) T1 mediaW ms w wB w' h hm hL kB (by omega) hv0 nm (by decide) im (by omega)
  obtain ⟨T2, hT2⟩ : ∃ T2, T1 ++ probsL mediaW ms = T2 := ⟨_, rfl⟩
  have lT2 : T2.length ≤ 3240 := by rw [← hT2, List.length_append]; have := probsLen mediaW ms nm (by decide) im; omega
  simp only [hT2] at c29b
  obtain ⟨g, hg⟩ : ∃ g, w.heap.size + 1 = g := ⟨_, rfl⟩
  have c29a' : Hid (∀ w', PH wB (w.heap.size + 1) (.slice none 0 0) [] w' → Calls Tryd.prog 29 #[.iface 49 (.pointer (some ⟨w.heap.size + 1, 0, none⟩)), .string ⟨#[99, 97, 116, 97, 108, 111, 103]⟩, .slice ca cn cc] w' fun e w' => e = .returned (.tuple #[]) ∧ PH wB (w.heap.size + 1) (.slice none 0 0) T1 w') := c29a
  have c29b' : Hid (∀ w', PH wB (w.heap.size + 1) (.slice none 0 0) T1 w' → Calls Tryd.prog 29 #[.iface 49 (.pointer (some ⟨w.heap.size + 1, 0, none⟩)), .string ⟨#[109, 101, 100, 105, 97]⟩, .slice ma mn mc] w' fun e w' => e = .returned (.tuple #[]) ∧ PH wB (w.heap.size + 1) (.slice none 0 0) T2 w') := c29b
  have ph0' := Hid.mk' ph0
  have hbP' := Hid.mk' hbP
  have base' := Hid.mk' base
  have hwB' : Hid ((w.alloc (.cells #[.slice ca cn cc, .slice ma mn mc, .slice la ln lc, .int .i64 mg] 31)).alloc (.cells #[.pointer none, .slice none 0 0] 55) = wB) := by show _ = _; rw [hbx, hwA, hwB]
  have hbx' := Hid.mk' hbx
  have hl' := Hid.mk' hl
  have hL' := Hid.mk' hL
  have hT2' := Hid.mk' (And.intro hT1 hT2)
  have lT2' := Hid.mk' lT2
  have hN := Hid.mk' (And.intro nc (And.intro nm (And.intro nl (And.intro il ig))))
  clear c29a c29b ph0 hbA hbB hbP base hwA hwB hbx hl hL hT1 hT2 lT1 lT2 hc hm nc nm nl ic im il ig sA kA kB hv0 hln hg
  go_enter Tryd.func14, Tryd.ntmps14
  go_wp2_with fail
  rw [hwB'.out]
  refine (c29a'.out _ ph0'.out).mono ?_
  rintro e w1 ⟨rfl, p1⟩
  have x1 : w1.cell? ⟨w.heap.size, 1, none⟩ = some (.slice ma mn mc) := hbP'.out _ _ p1 1 _ (by rw [← hbx'.out]; rfl)
  replace p1 := Hid.mk' p1
  go_wp2_with fail
  refine (c29b'.out _ p1.out).mono ?_
  rintro e w2 ⟨rfl, p2⟩
  have x2 : w2.cell? ⟨w.heap.size, 2, none⟩ = some (.slice la ln lc) := hbP'.out _ _ p2 2 _ (by rw [← hbx'.out]; rfl)
  replace p2 := Hid.mk' p2
  go_wp2_with fail
  go_loopg [21] ln (fun gq s21 w' => ∃ i, i + gq = ln ∧ s21 = .int .i64 (i : Int) ∧ PH wB (w.heap.size + 1) (.slice none 0 0) (T2 ++ lostL (ls.take i)) w')
  case atStart => exact ⟨0, by omega, rfl, by rw [List.take_zero]; unfold lostL; simpa using p2.out⟩
  case round =>
    obtain ⟨i, hg, rfl, hph⟩ := hrel
    have hn2 := hln2.out
    have hN2 := hN.out
    by_cases hin : i < ln
    · obtain ⟨s, hs⟩ : ∃ s, ls[i]? = some s := ⟨_, List.getElem?_eq_getElem (by omega)⟩
      obtain ⟨gp, o, rfl, hc, -⟩ := (hl'.out.new (base'.out _ _ hph)).at (by simp; omega)
      have c1 := hc i (tv s) (by rw [List.getElem?_map, hs]; rfl)
      obtain ⟨SB, hSB⟩ : ∃ B, bsOf s = B := ⟨_, rfl⟩
      unfold tv at c1
      rw [hSB] at c1
      have ls30 : s.length ≤ 30 := hN2.2.2.2.1 s (List.mem_of_getElem? hs)
      have sS : SB.size ≤ 30 := by rw [← hSB, size_bsOf]; exact ls30
      have b1 : 5 + SB.size ≤ 9223372036854775807 := by omega
      have lt : (T2 ++ lostL (ls.take i)).length ≤ 4000 := by
        have h1 := lost_le (ls.take i) fun s h => hN2.2.2.2.1 s (List.mem_of_mem_take h)
        have h2 := lT2'.out
        rw [List.length_take] at h1
        have h3 : min i ls.length * 36 ≤ 12 * 36 := Nat.mul_le_mul_right _ (by omega)
        rw [List.length_append]
        omega
      have c98 : Hid (∀ w', PH wB (w.heap.size + 1) (.slice none 0 0) (T2 ++ lostL (ls.take i)) w' → Calls Tryd.prog 98 #[.pointer (some ⟨w.heap.size + 1, 0, none⟩), .string ((⟨#[108, 111, 115, 116, 32]⟩ : ByteArray) ++ SB)] w' fun e w'' => e = .returned (.tuple #[]) ∧ PH wB (w.heap.size + 1) (.slice none 0 0) (T2 ++ lostL (ls.take (i + 1))) w'') := fun w' h => by
        have := h.line (lostW ++ s) (by have h3 : (lostW ++ s).length = 5 + s.length := (by rw [List.length_append]; rfl); omega)
        have e1 : tv (lostW ++ s) = .string ((⟨#[108, 111, 115, 116, 32]⟩ : ByteArray) ++ SB) := by
          rw [← hSB, show (⟨#[108, 111, 115, 116, 32]⟩ : ByteArray) = bsOf lostW from rfl, bsOf_add]; rfl
        have e2 : T2 ++ lostL (ls.take i) ++ (lostW ++ s) ++ [10] = T2 ++ lostL (ls.take (i + 1)) := by
          rw [List.take_add_one, hs]; unfold lostL; simp
        rw [e1, e2] at this
        exact this
      have n1 : IntKind.i64.wrap ((i : Int) + 1) = (i : Int) + 1 := by rw [IntKind.wrap_i64]; omega
      have d1 : (i : Int) < (ln : Int) := by omega
      have d2 : i < ln := hin
      have ph' := Hid.mk' hph
      have ml := method_line
      clear hph hc hs hSB hn2 hN2 hin ls30 lt
      go_wp2_with (go_at_call 98; refine (c98.out _ ph'.out).mono ?_; rintro e w4 ⟨rfl, p4⟩; replace p4 := Hid.mk' p4)
      go_roundg (ln - (i + 1))
      case measure => omega
      case rel => exact ⟨i + 1, by omega, by simp, p4.out⟩
    · obtain rfl : i = ln := by omega
      have d1 : ¬ ((i : Int) < (i : Int)) := by omega
      rw [List.take_of_length_le (by omega)] at hph
      have lt : (T2 ++ lostL ls).length ≤ 4000 := by
        have h1 := lost_le ls hN2.2.2.2.1
        have h2 := lT2'.out
        have h3 : ls.length * 36 ≤ 12 * 36 := Nat.mul_le_mul_right _ (by omega)
        rw [List.length_append]
        omega
      obtain ⟨T3, hT3⟩ : ∃ T, T2 ++ lostL ls = T := ⟨_, rfl⟩
      rw [hT3] at hph lt
      have ecm := hcn.out
      have emn := hmn.out
      obtain ⟨N, hNN⟩ : ∃ N : Int, (cn : Int) + (mn : Int) + (i : Int) = N := ⟨_, rfl⟩
      have hfin : Hid (auditL cs ms ls mg = T3 ++ endL N mg ++ [10]) := by
        show _ = _
        unfold auditL
        rw [hT2'.out.1, hT2'.out.2, hT3, ← ecm, ← emn, ← hn2, hNN]
      have iN : InI N := by unfold InI; omega
      have lN := itoa_le N iN.1 iN.2
      have c30 : ∀ w', PH wB (w.heap.size + 1) (.slice none 0 0) T3 w' → Calls Tryd.prog 30 #[.int .i64 N] w' fun e w'' => e = .returned (tv (Lib.itoa N)) ∧ PH wB (w.heap.size + 1) (.slice none 0 0) T3 w'' := fun w' h =>
        (number30 N iN.1 iN.2 w' (hL'.out.new (base'.out _ _ h))).mono fun e w'' k => ⟨k.1, h.new k.2⟩
      obtain ⟨NL, hNL⟩ : ∃ L, Lib.itoa N = L := ⟨_, rfl⟩
      rw [hNL] at c30 lN
      obtain ⟨NB, hNB⟩ : ∃ B, bsOf NL = B := ⟨_, rfl⟩
      unfold tv at c30
      rw [hNB] at c30
      have sN : NB.size ≤ 20 := by rw [← hNB, size_bsOf]; exact lN
      have n1 : IntKind.i64.wrap ((cn : Int) + (mn : Int)) = (cn : Int) + (mn : Int) := by rw [IntKind.wrap_i64]; omega
      have n2 : IntKind.i64.wrap ((cn : Int) + (mn : Int) + (i : Int)) = N := by rw [IntKind.wrap_i64]; omega
      have b1 : 9 + NB.size ≤ 9223372036854775807 := by omega
      have b2 : 9 + NB.size + 9 ≤ 9223372036854775807 := by omega
      have f1 : ¬ 9223372036854775807 < 9 + NB.size := by omega
      have f2 : ¬ 9223372036854775807 < 9 + NB.size + 9 := by omega
      have hx := hbP'.out _ _ hph
      have x0 : wr.cell? ⟨w.heap.size, 0, none⟩ = some (.slice ca cn cc) := hx 0 _ (by rw [← hbx'.out]; rfl)
      have x1 : wr.cell? ⟨w.heap.size, 1, none⟩ = some (.slice ma mn mc) := hx 1 _ (by rw [← hbx'.out]; rfl)
      have x2 : wr.cell? ⟨w.heap.size, 2, none⟩ = some (.slice la i lc) := hx 2 _ (by rw [← hbx'.out]; rfl)
      have x3 : wr.cell? ⟨w.heap.size, 3, none⟩ = some (.int .i64 mg) := hx 3 _ (by rw [← hbx'.out]; rfl)
      have ph' := Hid.mk' hph
      have c30' := Hid.mk' c30
      have ig := hN2.2.2.2.2
      have hT30 : Hid (∀ m, T3 ++ endL N m ++ [10] ≠ []) := fun m h => by simp at h
      have lfin : Hid (∀ m, InI m → (endL N m).length ≤ 60) := fun m im => by
        have h1 := itoa_le m im.1 im.2
        have h2 : probW.length = 9 := rfl
        have h3 : marW.length = 9 := rfl
        unfold endL marL
        rw [hNL]
        split
        · simp; omega
        · have h4 : noneW.length = 4 := rfl
          simp; omega
      have c98 : ∀ MB, InI mg → bsOf (marL mg) = MB → ∀ w', PH wB (w.heap.size + 1) (.slice none 0 0) T3 w' → Calls Tryd.prog 98 #[.pointer (some ⟨w.heap.size + 1, 0, none⟩), .string ((⟨#[112, 114, 111, 98, 108, 101, 109, 115, 32]⟩ : ByteArray) ++ NB ++ (⟨#[44, 32, 109, 97, 114, 103, 105, 110, 32]⟩ : ByteArray) ++ MB)] w' fun e w'' => e = .returned (.tuple #[]) ∧ PH wB (w.heap.size + 1) (.slice none 0 0) (T3 ++ endL N mg ++ [10]) w'' := fun MB im hMB w' h => by
        have := h.line (endL N mg) (by have := lfin.out mg im; omega)
        have e1 : tv (endL N mg) = .string ((⟨#[112, 114, 111, 98, 108, 101, 109, 115, 32]⟩ : ByteArray) ++ NB ++ (⟨#[44, 32, 109, 97, 114, 103, 105, 110, 32]⟩ : ByteArray) ++ MB) := by
          rw [← hMB, ← hNB, show (⟨#[112, 114, 111, 98, 108, 101, 109, 115, 32]⟩ : ByteArray) = bsOf probW from rfl, show (⟨#[44, 32, 109, 97, 114, 103, 105, 110, 32]⟩ : ByteArray) = bsOf marW from rfl, bsOf_add, bsOf_add, bsOf_add]
          unfold endL
          rw [hNL]; rfl
        rw [e1] at this
        exact this
      have nl := nil_line
      have ml := method_line
      have mt := method_text
      by_cases hmg : 0 ≤ mg
      · have cM : ∀ w', PH wB (w.heap.size + 1) (.slice none 0 0) T3 w' → Calls Tryd.prog 30 #[.int .i64 mg] w' fun e w'' => e = .returned (tv (marL mg)) ∧ PH wB (w.heap.size + 1) (.slice none 0 0) T3 w'' := fun w' h => by
          have e : marL mg = Lib.itoa mg := by unfold marL; rw [if_pos hmg]
          rw [e]
          exact (number30 mg ig.1 ig.2 w' (hL'.out.new (base'.out _ _ h))).mono fun e w'' k => ⟨k.1, h.new k.2⟩
        have lM : (marL mg).length ≤ 20 := by unfold marL; rw [if_pos hmg]; exact itoa_le mg ig.1 ig.2
        obtain ⟨MB, hMB⟩ : ∃ B, bsOf (marL mg) = B := ⟨_, rfl⟩
        have sM : MB.size ≤ 20 := by rw [← hMB, size_bsOf]; exact lM
        have c98' := Hid.mk' (c98 MB ig hMB)
        unfold tv at cM
        rw [hMB] at cM
        have cM' := Hid.mk' cM
        obtain ⟨TT, hTT⟩ : ∃ T, T3 ++ endL N mg ++ [10] = T := ⟨_, rfl⟩
        have hTT0 : Hid (TT ≠ []) := by rw [← hTT]; exact hT30.out mg
        rw [hTT] at c98'
        have hTT' : Hid (auditL cs ms ls mg = TT) := by show _ = _; rw [hfin.out, hTT]
        have f3 : ¬ 9223372036854775807 < 9 + NB.size + 9 + MB.size := by omega
        clear hph hx c30 cM c98 hNN hNL hNB hMB hTT hn2 hN2 hin lt lN lM ecm emn hT3 iN ig lfin hT30
        go_wp2_with fail
        refine (cM'.out _ ph'.out).mono ?_
        rintro e w3 ⟨rfl, p3⟩
        have hx := hbP'.out _ _ p3
        have y0 : w3.cell? ⟨w.heap.size, 0, none⟩ = some (.slice ca cn cc) := hx 0 _ (by rw [← hbx'.out]; rfl)
        have y1 : w3.cell? ⟨w.heap.size, 1, none⟩ = some (.slice ma mn mc) := hx 1 _ (by rw [← hbx'.out]; rfl)
        have y2 : w3.cell? ⟨w.heap.size, 2, none⟩ = some (.slice la i lc) := hx 2 _ (by rw [← hbx'.out]; rfl)
        replace p3 := Hid.mk' p3
        clear hx
        go_wp2_with fail
        go_region_held3 (fun w' => w'.cell? ⟨w.heap.size, 0, none⟩ = some (.slice ca cn cc) ∧ w'.cell? ⟨w.heap.size, 1, none⟩ = some (.slice ma mn mc) ∧ w'.cell? ⟨w.heap.size, 2, none⟩ = some (.slice la i lc)) (first | exact ⟨y0, y1, y2⟩ | exact ⟨z0, z1, z2⟩ | exact ⟨q0, q1, q2⟩)
          (first
          | (go_at_call 30; refine (c30'.out _ (by first | exact p3.out | exact p3.out.drew)).mono ?_; rintro e w5 ⟨rfl, p5⟩; have z0 : w5.cell? ⟨w.heap.size, 0, none⟩ = some (.slice ca cn cc) := hbP'.out _ _ p5 0 _ (by rw [← hbx'.out]; rfl); have z1 : w5.cell? ⟨w.heap.size, 1, none⟩ = some (.slice ma mn mc) := hbP'.out _ _ p5 1 _ (by rw [← hbx'.out]; rfl); have z2 : w5.cell? ⟨w.heap.size, 2, none⟩ = some (.slice la i lc) := hbP'.out _ _ p5 2 _ (by rw [← hbx'.out]; rfl); replace p5 := Hid.mk' p5)
          | (go_at_call 98; refine (c98'.out _ (by first | exact p5.out | exact p5.out.drew)).mono ?_; rintro e w6 ⟨rfl, p6⟩; have q0 : w6.cell? ⟨w.heap.size, 0, none⟩ = some (.slice ca cn cc) := hbP'.out _ _ p6 0 _ (by rw [← hbx'.out]; rfl); have q1 : w6.cell? ⟨w.heap.size, 1, none⟩ = some (.slice ma mn mc) := hbP'.out _ _ p6 1 _ (by rw [← hbx'.out]; rfl); have q2 : w6.cell? ⟨w.heap.size, 2, none⟩ = some (.slice la i lc) := hbP'.out _ _ p6 2 _ (by rw [← hbx'.out]; rfl); replace p6 := Hid.mk' p6))
        all_goals
          go_wp2_with (go_at_call 99; obtain ⟨v7, s7, ov7, -⟩ := p6.out; refine (text99 _ _ _ _ s7 hTT0.out).mono ?_; rintro e w7 ⟨rfl, k7⟩; replace k7 := Hid.mk' k7)
          go_ret
          refine ⟨by rw [hTT'.out]; rfl, (base'.out _ _ p6.out).trans' k7.out fun k hk => .inr ?_⟩
          rcases ov7 k hk with h | h
          · exact (own_none 0 0 k h).elim
          · exact Nat.le_trans (base'.out _ _ ph0'.out).size h
      · have hMB : bsOf (marL mg) = ⟨#[110, 111, 110, 101]⟩ := by unfold marL; rw [if_neg hmg]; rfl
        have c98' := Hid.mk' (c98 _ ig hMB)
        have hmg2 : mg < 0 := by omega
        obtain ⟨TT, hTT⟩ : ∃ T, T3 ++ endL N mg ++ [10] = T := ⟨_, rfl⟩
        have hTT0 : Hid (TT ≠ []) := by rw [← hTT]; exact hT30.out mg
        rw [hTT] at c98'
        have hTT' : Hid (auditL cs ms ls mg = TT) := by show _ = _; rw [hfin.out, hTT]
        have f3 : ¬ 9223372036854775807 < 9 + NB.size + 9 + 4 := by omega
        have b3 : 9 + NB.size + 9 + 4 ≤ 9223372036854775807 := by omega
        clear hph hx c30 c98 hNN hNL hNB hMB hTT hn2 hN2 hin lt lN ecm emn hT3 iN ig lfin hT30
        go_wp2_with fail
        go_region_held3 (fun w' => w'.cell? ⟨w.heap.size, 0, none⟩ = some (.slice ca cn cc) ∧ w'.cell? ⟨w.heap.size, 1, none⟩ = some (.slice ma mn mc) ∧ w'.cell? ⟨w.heap.size, 2, none⟩ = some (.slice la i lc)) (first | exact ⟨x0, x1, x2⟩ | exact ⟨z0, z1, z2⟩ | exact ⟨q0, q1, q2⟩)
          (first
          | (go_at_call 30; refine (c30'.out _ (by first | exact ph'.out | exact ph'.out.drew)).mono ?_; rintro e w5 ⟨rfl, p5⟩; have z0 : w5.cell? ⟨w.heap.size, 0, none⟩ = some (.slice ca cn cc) := hbP'.out _ _ p5 0 _ (by rw [← hbx'.out]; rfl); have z1 : w5.cell? ⟨w.heap.size, 1, none⟩ = some (.slice ma mn mc) := hbP'.out _ _ p5 1 _ (by rw [← hbx'.out]; rfl); have z2 : w5.cell? ⟨w.heap.size, 2, none⟩ = some (.slice la i lc) := hbP'.out _ _ p5 2 _ (by rw [← hbx'.out]; rfl); replace p5 := Hid.mk' p5)
          | (go_at_call 98; refine (c98'.out _ (by first | exact p5.out | exact p5.out.drew)).mono ?_; rintro e w6 ⟨rfl, p6⟩; have q0 : w6.cell? ⟨w.heap.size, 0, none⟩ = some (.slice ca cn cc) := hbP'.out _ _ p6 0 _ (by rw [← hbx'.out]; rfl); have q1 : w6.cell? ⟨w.heap.size, 1, none⟩ = some (.slice ma mn mc) := hbP'.out _ _ p6 1 _ (by rw [← hbx'.out]; rfl); have q2 : w6.cell? ⟨w.heap.size, 2, none⟩ = some (.slice la i lc) := hbP'.out _ _ p6 2 _ (by rw [← hbx'.out]; rfl); replace p6 := Hid.mk' p6))
        all_goals
          go_wp2_with (go_at_call 99; obtain ⟨v7, s7, ov7, -⟩ := p6.out; refine (text99 _ _ _ _ s7 hTT0.out).mono ?_; rintro e w7 ⟨rfl, k7⟩; replace k7 := Hid.mk' k7)
          go_ret
          refine ⟨by rw [hTT'.out]; rfl, (base'.out _ _ p6.out).trans' k7.out fun k hk => .inr ?_⟩
          rcases ov7 k hk with h | h
          · exact (own_none 0 0 k h).elim
          · exact Nat.le_trans (base'.out _ _ ph0'.out).size h
end Go.Proofs.YtgnnjkmlnfdngaaDoor
