/- What line of the reference returns. Conditions: at most 1000 columns, widths of at most 1000 that no cell passes. -/
import Derived.Test.YtgnnjkmlnfdngaaDoorL
set_option linter.unusedVariables false
set_option linter.unusedSimpArgs false
namespace Go.Proofs.YtgnnjkmlnfdngaaDoor
open Go Go.RowKit

theorem join_snoc (sep x : List UInt8) (xs : List (List UInt8)) : Lib.join (xs ++ [x]) sep = if xs = [] then x else Lib.join xs sep ++ sep ++ x := by
  cases xs with
  | nil => simp [Lib.join_one]
  | cons y ys =>
    rw [if_neg (by simp), List.cons_append, Lib.join_cons, Lib.join_cons]
    simp [Lib.joinTail]
def joinP (ws : List Nat) (row : List (List UInt8)) (i : Nat) : List UInt8 := Lib.join ((List.range i).map (wordL ws row)) [32, 32]
theorem joinP_succ (ws : List Nat) (row : List (List UInt8)) (i : Nat) : joinP ws row (i + 1) = (if i = 0 then [] else joinP ws row i ++ [32, 32]) ++ wordL ws row i := by
  unfold joinP
  rw [List.range_succ, List.map_append, List.map_singleton, join_snoc]
  cases i with
  | zero => simp
  | succ i => rw [if_neg (by simp [List.range_succ]), if_neg (by omega)]
theorem trim_nil : Lib.trimRightB [] 32 = [] := rfl
theorem trim_sp (l : List UInt8) : Lib.trimRightB (l ++ [32]) 32 = Lib.trimRightB l 32 := by
  unfold Lib.trimRightB; simp
theorem trim_ne (l : List UInt8) (x : UInt8) (h : x ≠ 32) : Lib.trimRightB (l ++ [x]) 32 = l ++ [x] := by
  unfold Lib.trimRightB; simp [h]

set_option maxHeartbeats 8000000 in
set_option maxRecDepth 100000 in
theorem line28 (wv rv : Value) (ws : List Nat) (row : List (List UInt8)) (w : World) (hw : Sl w wv (ws.map nv)) (hr : Sl w rv (row.map tv)) (hn : ws.length ≤ 1000) (hb : ∀ k x, ws[k]? = some x → (cellL row k).length ≤ x ∧ x ≤ 1000) :
    Calls Tryd.prog 28 #[rv, wv] w fun e w' => e = .returned (tv (lineL ws row)) ∧ w = w' := by
  obtain ⟨wa, wn, wc, rfl, hwn⟩ := hw.form'
  have hwn2 : wn = ws.length := by have := hwn.out; simpa using this
  have hw' := Hid.mk' hw
  have hr' := Hid.mk' hr
  have hb' := Hid.mk' hb
  have hn' := Hid.mk' hn
  have hwn' := Hid.mk' hwn2
  clear hw hr hb hwn hn hwn2
  go_enter Tryd.func28, Tryd.ntmps28
  go_wp2_with fail
  go_loopg [5, 6] wn (fun gq s5 s6 wr => ∃ i B, i + gq = wn ∧ s5 = .string B ∧ Hid (B = bsOf (joinP ws row i)) ∧ s6 = .int .i64 (i : Int) ∧ wr = w)
  case atStart => exact ⟨0, _, by omega, rfl, Hid.mk' rfl, rfl, rfl⟩
  case round =>
    obtain ⟨i, B, hg, rfl, hB, rfl, rfl⟩ := hrel
    by_cases hi : i < wn
    · have hnn := hn'.out
      have h12 := hwn'.out
      have hx : (ws.map nv)[i]? = some (nv (ws[i]?.getD 0)) := by simp [List.getElem?_eq_getElem (by omega : i < ws.length)]
      obtain ⟨g, o, rfl, hc, -⟩ := hw'.out.at (by simp; omega)
      have c1 := hc i _ hx
      obtain ⟨x, hxx⟩ : ∃ x, ws[i]?.getD 0 = x := ⟨_, rfl⟩
      rw [hxx] at c1
      have hbi := hb'.out i x (by rw [← hxx]; simp [List.getElem?_eq_getElem (by omega : i < ws.length)])
      have c26 := Hid.mk' (cell26 rv row i wr hr'.out)
      obtain ⟨L, hL⟩ : ∃ L, cellL row i = L := ⟨_, rfl⟩
      rw [hL] at c26 hbi
      have hwl : wordL ws row i = L ++ List.replicate (x - L.length) 32 := by unfold wordL padL; rw [hxx, hL]
      have b1 : (i : Int) < (wn : Int) := by omega
      have b2 : i < wn := hi
      have n1 : IntKind.i64.wrap ((i : Int) + 1) = (i : Int) + 1 := by rw [IntKind.wrap_i64]; omega
      have sz : (bsOf L).size = L.length := size_bsOf L
      have n2 : IntKind.i64.wrap ((x : Int) - (L.length : Int)) = ((x - L.length : Nat) : Int) := by rw [IntKind.wrap_i64]; omega
      have c27 := Hid.mk' (times27 32 (x - L.length) wr (by omega))
      have sR : (bsOf (List.replicate (x - L.length) (32 : UInt8))).size = x - L.length := by rw [size_bsOf, List.length_replicate]
      obtain ⟨m, hm⟩ : ∃ m, x - L.length = m := ⟨_, rfl⟩
      rw [hm] at sR n2 c27 hwl
      have hj : (joinP ws row i).length ≤ 2000000 := by
        have := join_le [32, 32] 1000 ((List.range i).map (wordL ws row)) (fun y hy => by
          obtain ⟨k, hk, rfl⟩ := List.mem_map.1 hy
          have hk := List.mem_range.1 hk
          have hy : ws[k]? = some (ws[k]'(by omega)) := by simp [List.getElem?_eq_getElem (by omega : k < ws.length)]
          have := hb'.out k _ hy
          unfold wordL padL
          rw [hy]
          simp; omega)
        unfold joinP
        simp at *; omega
      have sB : B.size = (joinP ws row i).length := by rw [hB.out, size_bsOf]
      have hsucc := joinP_succ ws row i
      rw [hwl] at hsucc
      obtain ⟨J, hJ⟩ : ∃ J, joinP ws row i = J := ⟨_, rfl⟩
      rw [hJ] at hj sB hsucc
      have hBJ : B = bsOf J := by rw [← hJ]; exact hB.out
      obtain ⟨BL, hBL⟩ : ∃ B, bsOf L = B := ⟨_, rfl⟩
      obtain ⟨R, hR⟩ : ∃ R, bsOf (List.replicate m (32 : UInt8)) = R := ⟨_, rfl⟩
      unfold tv at c26 c27
      rw [hBL] at c26 sz
      rw [hR] at c27 sR
      unfold nv at c1
      have ml : L.length + m ≤ 1000 := by omega
      rcases Nat.eq_zero_or_pos i with rfl | hp
      · have hJ0 : J = [] := by rw [← hJ]; rfl
        have hres : Hid (B ++ BL ++ R = bsOf (joinP ws row (0 + 1))) := by
          show _ = _
          rw [hsucc, if_pos rfl, hBJ, hJ0, ← hBL, ← hR, bsOf_add, bsOf_add]; simp
        have e0 : J.length = 0 := by rw [hJ0]; rfl
        rw [e0] at sB
        rw [Nat.add_zero] at c1
        have b2z : 0 < wn := b2
        have q1 : L.length ≤ 9223372036854775807 := by omega
        have q2 : L.length + m ≤ 9223372036854775807 := by omega
        have s4 : (B ++ BL).size = L.length := by rw [ByteArray.size_append, sB, sz, Nat.zero_add]
        clear hnn h12 hx hc hxx hbi hL hwl hm hj hsucc hJ hBJ hBL hR ml hJ0 e0 hB
        go_wp2_with (first
          | (go_at_call 26; refine c26.out.mono ?_; rintro e w' ⟨rfl, rfl⟩)
          | (go_at_call 27; refine c27.out.mono ?_; rintro e w' ⟨rfl, rfl⟩))
        go_roundg (wn - 1)
        case measure => omega
        case rel => exact ⟨1, _, by omega, rfl, hres, by simp, rfl⟩
      · have hres : Hid (B ++ (⟨#[32, 32]⟩ : ByteArray) ++ BL ++ R = bsOf (joinP ws row (i + 1))) := by
          show _ = _
          rw [hsucc, if_neg (by omega), hBJ, show (⟨#[32, 32]⟩ : ByteArray) = bsOf [32, 32] from rfl, ← hBL, ← hR, bsOf_add, bsOf_add, bsOf_add]; simp
        have b3 : (0 : Int) < (i : Int) := by omega
        have b4 : 0 < i := hp
        have s5 : (B ++ (⟨#[32, 32]⟩ : ByteArray)).size = J.length + 2 := by rw [ByteArray.size_append, sB]; rfl
        have s4 : (B ++ (⟨#[32, 32]⟩ : ByteArray) ++ BL).size = J.length + 2 + L.length := by rw [ByteArray.size_append, s5, sz]
        have q0 : J.length + 2 ≤ 9223372036854775807 := by omega
        have q1 : J.length + 2 + L.length ≤ 9223372036854775807 := by omega
        have q2 : J.length + 2 + L.length + m ≤ 9223372036854775807 := by omega
        clear hnn h12 hx hc hxx hbi hL hwl hm hj hsucc hJ hBJ hBL hR ml hB
        go_wp2_with (first
          | (go_at_call 26; refine c26.out.mono ?_; rintro e w' ⟨rfl, rfl⟩)
          | (go_at_call 27; refine c27.out.mono ?_; rintro e w' ⟨rfl, rfl⟩))
        go_roundg (wn - (i + 1))
        case measure => omega
        case rel => exact ⟨i + 1, _, by omega, rfl, hres, by simp, rfl⟩
    · obtain rfl : i = wn := by omega
      have hnn := hwn'.out
      have hlen := hn'.out
      have hj : (joinP ws row i).length ≤ 2000000 := by
        have := join_le [32, 32] 1000 ((List.range i).map (wordL ws row)) (fun y hy => by
          obtain ⟨k, hk, rfl⟩ := List.mem_map.1 hy
          have hk := List.mem_range.1 hk
          have hy : ws[k]? = some (ws[k]'(by omega)) := by simp [List.getElem?_eq_getElem (by omega : k < ws.length)]
          have := hb'.out k _ hy
          unfold wordL padL
          rw [hy]
          simp; omega)
        unfold joinP
        simp at *; omega
      obtain ⟨R, hR⟩ : ∃ R, Lib.trimRightB (joinP ws row i) 32 = R := ⟨_, rfl⟩
      have hfin : Hid (lineL ws row = R ++ [10]) := by show _ = _; unfold lineL laidL; rw [← hR, hnn]; rfl
      obtain ⟨J, hJ⟩ : ∃ J, joinP ws row i = J := ⟨_, rfl⟩
      rw [hJ] at hj hR hB
      have hR' := Hid.mk' hR
      have hj' := Hid.mk' hj
      have b1 : ¬ ((i : Int) < (i : Int)) := by omega
      clear hi hnn hlen hj hR hJ
      go_wp2_with fail
      go_loopg [5] (J.length + 1) (fun gq s5 wq => ∃ T B, T.length + 1 = gq ∧ s5 = .string B ∧ Hid (B = bsOf T) ∧ Hid (Lib.trimRightB T 32 = R) ∧ T.length ≤ 2000000 ∧ wq = wr)
      case atStart => exact ⟨J, B, by omega, rfl, hB, hR', hj'.out, rfl⟩
      case round =>
        obtain ⟨T, B, hT, rfl, hB, hTR, hTl, rfl⟩ := hrel
        have sB : B.size = T.length := by rw [hB.out, size_bsOf]
        rcases List.eq_nil_or_concat T with rfl | ⟨S, x, hS⟩
        · have hB0 : B = ⟨#[]⟩ := hB.out
          subst hB0
          obtain rfl : [] = R := hTR.out
          clear hTR sB hTl hT
          go_wp2_with fail
          go_ret
          exact ⟨by rw [hfin.out]; rfl, rfl⟩
        · rw [List.concat_eq_append] at hS
          subst hS
          rw [List.length_append, List.length_singleton] at sB hTl hT
          have w1 : IntKind.i64.wrap (((S.length + 1 : Nat) : Int) - 1) = (S.length : Int) := by rw [IntKind.wrap_i64]; omega
          have b2 : (0 : Int) < ((S.length + 1 : Nat) : Int) := by omega
          have hbx : ∀ h : S.length < B.size, B[S.length]'h = x := by
            rw [hB.out]
            intro h
            simp [bsOf, ByteArray.getElem_eq_getElem_data]
          have b3 : S.length + 1 ≤ 9223372036854775807 := by omega
          by_cases hx : x = 32
          · subst hx
            have hxe : (((32 : UInt8).toNat : Int) == 32) = true := rfl
            have hcut : Hid (B.extract 0 S.length = bsOf S) := by
              show _ = _
              rw [hB.out]
              apply ByteArray.ext
              simp [bsOf, ByteArray.data_extract]
            have hTR2 : Hid (Lib.trimRightB S 32 = R) := by show _ = _; rw [← hTR.out, trim_sp]
            go_wp2_with fail
            go_roundg (S.length + 1)
            case measure => omega
            case rel => exact ⟨S, _, rfl, rfl, hcut, hTR2, by omega, rfl⟩
          · have hxe : ((x.toNat : Int) == 32) = false := by
              rw [beq_eq_false_iff_ne]
              intro h
              exact hx (UInt8.toNat_inj.1 (by show x.toNat = 32; omega))
            have hr : Hid (R = S ++ [x]) := by show _ = _; rw [← hTR.out, trim_ne S x hx]
            go_wp2_with fail
            go_ret
            exact ⟨by rw [hfin.out, hr.out, hB.out, show (⟨#[10]⟩ : ByteArray) = bsOf [10] from rfl, bsOf_add]; rfl, rfl⟩
end Go.Proofs.YtgnnjkmlnfdngaaDoor
