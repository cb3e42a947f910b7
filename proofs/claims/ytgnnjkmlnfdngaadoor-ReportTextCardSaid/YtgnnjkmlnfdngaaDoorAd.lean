/- What words of the laws returns. Conditions: at most 1000000 bytes. -/
import Derived.Test.YtgnnjkmlnfdngaaDoorX
set_option linter.unusedVariables false
set_option linter.unusedSimpArgs false
namespace Go.Proofs.YtgnnjkmlnfdngaaDoor
open Go Go.RowKit

def isSep (b : UInt8) : Bool := b == 32 || b == 10
def flushL (cur : List UInt8) : List (List UInt8) := if cur = [] then [] else [cur]
def wgo : List UInt8 → List UInt8 → List (List UInt8)
  | [], cur => flushL cur
  | b :: r, cur => if isSep b then flushL cur ++ wgo r [] else wgo r (cur ++ [b])
/-- The parts of a text between spaces and line feeds. -/
def wordsL (s : List UInt8) : List (List UInt8) := wgo s []
def curL (s : List UInt8) (f i : Nat) : List UInt8 := (s.drop f).take (i - f)
def WI (s : List UInt8) (i f : Nat) (W : List (List UInt8)) : Prop :=
  (i ≤ s.length ∧ f ≤ i ∧ W ++ wgo (s.drop i) (curL s f i) = wordsL s) ∨ (i = s.length + 1 ∧ W = wordsL s)
theorem curL_succ (s : List UInt8) (f i : Nat) (b : UInt8) (hf : f ≤ i) (h : s[i]? = some b) : curL s f (i + 1) = curL s f i ++ [b] := by
  unfold curL
  rw [show i + 1 - f = (i - f) + 1 by omega, List.take_add_one, List.getElem?_drop, show f + (i - f) = i by omega, h]
  rfl
theorem curL_same (s : List UInt8) (i : Nat) : curL s i i = [] := by unfold curL; simp
theorem curL_ne (s : List UInt8) (f i : Nat) (hf : f < i) (hi : i ≤ s.length) : curL s f i ≠ [] := by
  unfold curL
  intro h
  have := congrArg List.length h
  simp at this
  omega
theorem drop_at (s : List UInt8) (i : Nat) (b : UInt8) (h : s[i]? = some b) : s.drop i = b :: s.drop (i + 1) := by
  obtain ⟨hlt, rfl⟩ := List.getElem?_eq_some_iff.1 h
  exact List.drop_eq_getElem_cons hlt
theorem WI.sep_yes {s : List UInt8} {i f : Nat} {W : List (List UInt8)} {b : UInt8} (h : WI s i f W) (hb : s[i]? = some b) (hs : isSep b = true) (hf : f < i) : WI s (i + 1) (i + 1) (W ++ [curL s f i]) := by
  have hi := (List.getElem?_eq_some_iff.1 hb).1
  rcases h with ⟨h1, h2, h3⟩ | ⟨h1, -⟩
  · refine .inl ⟨hi, Nat.le_refl _, ?_⟩
    rw [drop_at s i b hb] at h3
    unfold wgo at h3
    rw [if_pos hs] at h3
    unfold flushL at h3
    rw [if_neg (curL_ne s f i hf h1)] at h3
    rw [curL_same, List.append_assoc]
    exact h3
  · omega
theorem WI.sep_no {s : List UInt8} {i f : Nat} {W : List (List UInt8)} {b : UInt8} (h : WI s i f W) (hb : s[i]? = some b) (hs : isSep b = true) (hf : ¬ f < i) : WI s (i + 1) (i + 1) W := by
  have hi := (List.getElem?_eq_some_iff.1 hb).1
  rcases h with ⟨h1, h2, h3⟩ | ⟨h1, -⟩
  · obtain rfl : f = i := by omega
    refine .inl ⟨hi, Nat.le_refl _, ?_⟩
    rw [drop_at s f b hb] at h3
    unfold wgo at h3
    rw [if_pos hs, curL_same] at h3
    rw [curL_same]
    exact h3
  · omega
theorem WI.other {s : List UInt8} {i f : Nat} {W : List (List UInt8)} {b : UInt8} (h : WI s i f W) (hb : s[i]? = some b) (hs : isSep b = false) : WI s (i + 1) f W := by
  have hi := (List.getElem?_eq_some_iff.1 hb).1
  rcases h with ⟨h1, h2, h3⟩ | ⟨h1, -⟩
  · refine .inl ⟨hi, by omega, ?_⟩
    rw [drop_at s i b hb] at h3
    unfold wgo at h3
    rw [if_neg (by rw [hs]; decide)] at h3
    rw [curL_succ s f i b h2 hb]
    exact h3
  · omega
theorem WI.end_yes {s : List UInt8} {f : Nat} {W : List (List UInt8)} (h : WI s s.length f W) (hf : f < s.length) (g : Nat) : WI s (s.length + 1) g (W ++ [curL s f s.length]) := by
  rcases h with ⟨h1, h2, h3⟩ | ⟨h1, -⟩
  · refine .inr ⟨rfl, ?_⟩
    rw [List.drop_length] at h3
    unfold wgo flushL at h3
    rwa [if_neg (curL_ne s f _ hf (Nat.le_refl _))] at h3
  · omega
theorem WI.end_no {s : List UInt8} {f : Nat} {W : List (List UInt8)} (h : WI s s.length f W) (hf : ¬ f < s.length) (g : Nat) : WI s (s.length + 1) g W := by
  rcases h with ⟨h1, h2, h3⟩ | ⟨h1, -⟩
  · refine .inr ⟨rfl, ?_⟩
    obtain rfl : f = s.length := by omega
    rw [List.drop_length, curL_same] at h3
    unfold wgo flushL at h3
    simpa using h3
  · omega
theorem extract_cur (s : List UInt8) (f i : Nat) : (bsOf s).extract f i = bsOf (curL s f i) := by
  apply ByteArray.ext
  unfold curL
  simp [bsOf, ByteArray.data_extract]
theorem getB (s : List UInt8) (i : Nat) (b : UInt8) (hb : s[i]? = some b) (h : i < (bsOf s).size) : (bsOf s)[i]'h = b := by
  have e : ∀ (a : Array UInt8) (h : i < a.size), a = s.toArray → a[i]'h = b := by
    rintro a h rfl
    obtain ⟨hlt, rfl⟩ := List.getElem?_eq_some_iff.1 hb
    simp
  exact e (bsOf s).data h rfl

set_option maxHeartbeats 8000000 in
set_option maxRecDepth 100000 in
theorem words21 (s : List UInt8) (w : World) (hs : s.length ≤ 1000000) :
    Calls Tryd.prog 21 #[tv s] w fun e w' => ∃ v, e = .returned v ∧ Row w' 9 v ((wordsL s).map tv) ∧ (∀ k, own v k → w.heap.size ≤ k) ∧ Chg NoB w w' := by
  obtain ⟨B, hB⟩ : ∃ B, bsOf s = B := ⟨_, rfl⟩
  have sB : B.size = s.length := by rw [← hB, size_bsOf]
  obtain ⟨n, hn⟩ : ∃ n, s.length = n := ⟨_, rfl⟩
  have hB' := Hid.mk' hB
  have hn' := Hid.mk' hn
  have hs' := Hid.mk' hs
  rw [hn] at sB
  unfold tv
  rw [hB]
  clear hB hn hs
  go_enter Tryd.func21, Tryd.ntmps21
  go_wp2_with fail
  go_loopg [3, 4, 5] (n + 1) (fun gq s3 s4 s5 wr => ∃ (i f : Nat) (W : List (List UInt8)) (v : Value), i + gq = n + 1 ∧ s3 = v ∧ s4 = .int .i64 (f : Int) ∧ s5 = .int .i64 (i : Int) ∧ Row wr 9 v (W.map tv) ∧ (∀ k, own v k → w.heap.size ≤ k) ∧ Chg NoB w wr ∧ Hid (WI s i f W ∧ f ≤ n + 1 ∧ W.length ≤ i))
  case atStart => exact ⟨0, 0, [], _, by omega, rfl, rfl, rfl, Row.nil _ 9, fun k hk => (own_none 0 0 k hk).elim, Chg.refl _ _, ⟨.inl ⟨Nat.zero_le _, Nat.le_refl _, by rw [curL_same]; rfl⟩, by omega, Nat.le_refl _⟩⟩
  case round =>
    obtain ⟨i, f, W, v, hg, rfl, rfl, rfl, hrow, hown, kwr, hwi⟩ := hrel
    obtain ⟨av, nv', cv, rfl, lv⟩ := hrow.form'
    have hrow' := Hid.mk' hrow
    have hown' := Hid.mk' hown
    have kwr' := Hid.mk' kwr
    have hs2 := hs'.out
    have hn2 := hn'.out
    have hf := hwi.out.2.1
    have hW := hwi.out.2.2
    have n1 : IntKind.i64.wrap ((i : Int) + 1) = (i : Int) + 1 := by rw [IntKind.wrap_i64]; omega
    have ln : Hid (W.length ≤ 1000001) := by show _ ≤ _; omega
    clear hrow hown kwr lv
    by_cases hin : i ≤ n
    · have li := Hid.mk' hin
      have a1 : (i : Int) ≤ (n : Int) := by omega
      by_cases hie : i = n
      · have a3 : ((i : Int) == (n : Int)) = true := by rw [beq_iff_eq]; omega
        have a4 : (i == n) = true := by rw [beq_iff_eq]; exact hie
        by_cases hfi : f < i
        · have hnew : Hid (WI s (i + 1) (i + 1) (W ++ [curL s f i])) := by
            have h := hwi.out.1
            rw [hie, ← hn2] at h ⊢
            exact h.end_yes (by omega) _
          have a5 : (f : Int) < (i : Int) := by omega
          have a6 : f < i := hfi
          have a7 : (f : Int) ≤ (i : Int) := by omega
          have a8 : f ≤ i := by omega
          have hcur : Hid (tv (curL s f i) = .string (B.extract f i)) := by show _ = _; rw [← hB'.out, extract_cur]; rfl
          have hfin : Hid (i + 1 ≤ n + 1 ∧ W.length + 1 ≤ i + 1) := ⟨by omega, by omega⟩
          clear hs2 hn2 hf hW hin hie hfi
          go_wp2_with
              (at_builtin; refine wpList_append_one _ rfl _ _ 22 9 (.string ⟨#[]⟩) 16 rfl Tryd.underlying22 info9 rfl (.slice av nv' cv) (W.map tv) (.string (B.extract f i)) rfl rfl hrow'.out rfl (by have := ln.out; simp at this ⊢; omega) (by have := ln.out; simp at this ⊢; omega) ?_
               intro v5 w5 r5 o5 k5
               obtain ⟨bv, mv, dv, rfl, lv5⟩ := r5.form'
               have q5 : Hid (Chg NoB w w5) := kwr'.out.trans' k5 (fun j b => .inr (hown'.out j b))
               have x5 : Hid (∀ j, own (.slice bv mv dv) j → w.heap.size ≤ j) := fun j hj => (o5 j hj).elim (hown'.out j) fun h => Nat.le_trans kwr'.out.size h
               replace r5 := Hid.mk' r5; clear o5 k5 lv5)
          go_roundg (n + 1 - (i + 1))
          case measure => have := li.out; omega
          case rel =>
            refine ⟨i + 1, i + 1, W ++ [curL s f i], _, by have := li.out; omega, rfl, by simp, by simp, ?_, x5.out, q5.out, ⟨hnew.out, by have := hfin.out.1; omega, by rw [List.length_append]; have := hfin.out.2; simpa using this⟩⟩
            rw [List.map_append, List.map_singleton, hcur.out]
            exact r5.out
        · have hnew : Hid (WI s (i + 1) (i + 1) W) := by
            have h := hwi.out.1
            rw [hie, ← hn2] at h ⊢
            exact h.end_no (by omega) _
          have a5 : ¬ (f : Int) < (i : Int) := by omega
          have a6 : ¬ f < i := hfi
          have hfin : Hid (i + 1 ≤ n + 1 ∧ W.length + 1 ≤ i + 1) := ⟨by omega, by omega⟩
          clear hs2 hn2 hf hW hin hie hfi
          go_wp2_with fail
          go_roundg (n + 1 - (i + 1))
          case measure => have := li.out; omega
          case rel =>
            exact ⟨i + 1, i + 1, W, _, by have := li.out; omega, rfl, by simp, by simp, hrow'.out, hown'.out, kwr'.out, ⟨hnew.out, hfin.out.1, by have := hfin.out.2; omega⟩⟩
      · have a3 : ((i : Int) == (n : Int)) = false := by rw [beq_eq_false_iff_ne]; omega
        have a4 : (i == n) = false := by rw [beq_eq_false_iff_ne]; exact hie
        have a2 : (i : Int) < (n : Int) := by omega
        have a9 : i < n := by omega
        obtain ⟨b, hb⟩ : ∃ b, s[i]? = some b := ⟨_, List.getElem?_eq_getElem (by omega)⟩
        have hb0 : ∀ h : i < (bsOf s).size, (bsOf s)[i]'h = b := getB s i b hb
        have hb2 : ∀ h : i < B.size, B[i]'h = b := by
          have h0 := hb0
          rw [hB'.out] at h0
          exact h0
        by_cases h32 : b = 32
        · have hsep : isSep b = true := by rw [h32]; rfl
          subst h32
          by_cases hfi : f < i
          · have hnew : Hid (WI s (i + 1) (i + 1) (W ++ [curL s f i])) := hwi.out.1.sep_yes hb hsep (by omega)
            have a5 : (f : Int) < (i : Int) := by omega
            have a6 : f < i := hfi
            have a7 : (f : Int) ≤ (i : Int) := by omega
            have a8 : f ≤ i := by omega
            have hcur : Hid (tv (curL s f i) = .string (B.extract f i)) := by show _ = _; rw [← hB'.out, extract_cur]; rfl
            have hfin : Hid (i + 1 ≤ n + 1 ∧ W.length + 1 ≤ i + 1) := ⟨by omega, by omega⟩
            clear hs2 hn2 hf hW hin hie hb hsep hb0 hfi
            go_wp2_with
                (at_builtin; refine wpList_append_one _ rfl _ _ 22 9 (.string ⟨#[]⟩) 16 rfl Tryd.underlying22 info9 rfl (.slice av nv' cv) (W.map tv) (.string (B.extract f i)) rfl rfl hrow'.out rfl (by have := ln.out; simp at this ⊢; omega) (by have := ln.out; simp at this ⊢; omega) ?_
                 intro v5 w5 r5 o5 k5
                 obtain ⟨bv, mv, dv, rfl, lv5⟩ := r5.form'
                 have q5 : Hid (Chg NoB w w5) := kwr'.out.trans' k5 (fun j b => .inr (hown'.out j b))
                 have x5 : Hid (∀ j, own (.slice bv mv dv) j → w.heap.size ≤ j) := fun j hj => (o5 j hj).elim (hown'.out j) fun h => Nat.le_trans kwr'.out.size h
                 replace r5 := Hid.mk' r5; clear o5 k5 lv5)
            go_roundg (n + 1 - (i + 1))
            case measure => have := li.out; omega
            case rel =>
              refine ⟨i + 1, i + 1, W ++ [curL s f i], _, by have := li.out; omega, rfl, by simp, by simp, ?_, x5.out, q5.out, ⟨hnew.out, by have := hfin.out.1; omega, by rw [List.length_append]; have := hfin.out.2; simpa using this⟩⟩
              rw [List.map_append, List.map_singleton, hcur.out]
              exact r5.out
          · have hnew : Hid (WI s (i + 1) (i + 1) W) := hwi.out.1.sep_no hb hsep (by omega)
            have a5 : ¬ (f : Int) < (i : Int) := by omega
            have a6 : ¬ f < i := hfi
            have hfin : Hid (i + 1 ≤ n + 1 ∧ W.length + 1 ≤ i + 1) := ⟨by omega, by omega⟩
            clear hs2 hn2 hf hW hin hie hb hsep hb0 hfi
            go_wp2_with fail
            go_roundg (n + 1 - (i + 1))
            case measure => have := li.out; omega
            case rel =>
              exact ⟨i + 1, i + 1, W, _, by have := li.out; omega, rfl, by simp, by simp, hrow'.out, hown'.out, kwr'.out, ⟨hnew.out, hfin.out.1, by have := hfin.out.2; omega⟩⟩
        · have x32 : ((b.toNat : Int) == 32) = false := by rw [beq_eq_false_iff_ne]; intro h; exact h32 (UInt8.toNat_inj.1 (by show b.toNat = 32; omega))
          by_cases h10 : b = 10
          · have hsep : isSep b = true := by rw [h10]; rfl
            have x10 : ((b.toNat : Int) == 10) = true := by rw [h10]; rfl
            by_cases hfi : f < i
            · have hnew : Hid (WI s (i + 1) (i + 1) (W ++ [curL s f i])) := hwi.out.1.sep_yes hb hsep (by omega)
              have a5 : (f : Int) < (i : Int) := by omega
              have a6 : f < i := hfi
              have a7 : (f : Int) ≤ (i : Int) := by omega
              have a8 : f ≤ i := by omega
              have hcur : Hid (tv (curL s f i) = .string (B.extract f i)) := by show _ = _; rw [← hB'.out, extract_cur]; rfl
              have hfin : Hid (i + 1 ≤ n + 1 ∧ W.length + 1 ≤ i + 1) := ⟨by omega, by omega⟩
              clear hs2 hn2 hf hW hin hie hb hsep hb0 hfi
              go_wp2_with
                  (at_builtin; refine wpList_append_one _ rfl _ _ 22 9 (.string ⟨#[]⟩) 16 rfl Tryd.underlying22 info9 rfl (.slice av nv' cv) (W.map tv) (.string (B.extract f i)) rfl rfl hrow'.out rfl (by have := ln.out; simp at this ⊢; omega) (by have := ln.out; simp at this ⊢; omega) ?_
                   intro v5 w5 r5 o5 k5
                   obtain ⟨bv, mv, dv, rfl, lv5⟩ := r5.form'
                   have q5 : Hid (Chg NoB w w5) := kwr'.out.trans' k5 (fun j b => .inr (hown'.out j b))
                   have x5 : Hid (∀ j, own (.slice bv mv dv) j → w.heap.size ≤ j) := fun j hj => (o5 j hj).elim (hown'.out j) fun h => Nat.le_trans kwr'.out.size h
                   replace r5 := Hid.mk' r5; clear o5 k5 lv5)
              go_roundg (n + 1 - (i + 1))
              case measure => have := li.out; omega
              case rel =>
                refine ⟨i + 1, i + 1, W ++ [curL s f i], _, by have := li.out; omega, rfl, by simp, by simp, ?_, x5.out, q5.out, ⟨hnew.out, by have := hfin.out.1; omega, by rw [List.length_append]; have := hfin.out.2; simpa using this⟩⟩
                rw [List.map_append, List.map_singleton, hcur.out]
                exact r5.out
            · have hnew : Hid (WI s (i + 1) (i + 1) W) := hwi.out.1.sep_no hb hsep (by omega)
              have a5 : ¬ (f : Int) < (i : Int) := by omega
              have a6 : ¬ f < i := hfi
              have hfin : Hid (i + 1 ≤ n + 1 ∧ W.length + 1 ≤ i + 1) := ⟨by omega, by omega⟩
              clear hs2 hn2 hf hW hin hie hb hsep hb0 hfi
              go_wp2_with fail
              go_roundg (n + 1 - (i + 1))
              case measure => have := li.out; omega
              case rel =>
                exact ⟨i + 1, i + 1, W, _, by have := li.out; omega, rfl, by simp, by simp, hrow'.out, hown'.out, kwr'.out, ⟨hnew.out, hfin.out.1, by have := hfin.out.2; omega⟩⟩
          · have x10 : ((b.toNat : Int) == 10) = false := by rw [beq_eq_false_iff_ne]; intro h; exact h10 (UInt8.toNat_inj.1 (by show b.toNat = 10; omega))
            have hsep : isSep b = false := by unfold isSep; rw [Bool.or_eq_false_iff, beq_eq_false_iff_ne, beq_eq_false_iff_ne]; exact ⟨h32, h10⟩
            have hnew : Hid (WI s (i + 1) f W) := hwi.out.1.other hb hsep
            have hfin : Hid (i + 1 ≤ n + 1 ∧ W.length + 1 ≤ i + 1) := ⟨by omega, by omega⟩
            clear hs2 hn2 hf hW hin hie hb hsep hb0
            go_wp2_with fail
            go_roundg (n + 1 - (i + 1))
            case measure => have := li.out; omega
            case rel =>
              exact ⟨i + 1, f, W, _, by have := li.out; omega, rfl, rfl, by simp, hrow'.out, hown'.out, kwr'.out, ⟨hnew.out, hwi.out.2.1, by have := hfin.out.2; omega⟩⟩
    · have a1 : ¬ (i : Int) ≤ (n : Int) := by omega
      have hfin : Hid (W = wordsL s) := by
        rcases hwi.out.1 with ⟨h1, -⟩ | ⟨-, h2⟩
        · omega
        · exact h2
      clear hs2 hn2 hf hW hin
      go_wp2_with fail
      go_ret
      exact ⟨_, rfl, by rw [← hfin.out]; exact hrow'.out, hown'.out, kwr'.out⟩
end Go.Proofs.YtgnnjkmlnfdngaaDoor
