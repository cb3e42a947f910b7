/- What (*node).sorted returns at a tree of the form whose list ascends. Conditions: degree at most 32. -/
import Derived.Test.YtamnmoejjjaegaaR
import Derived.BigQuiet
import Derived.Deep.LoopGhost
import Derived.Laws.Cover1
set_option linter.unusedVariables false
set_option linter.unusedSimpArgs false
namespace Go.Proofs.Ytamnmoejjjaegaa
open Go Go.RowKit

/-- The last key so far, and whether there is one. -/
def st (l : List E) (s : ByteArray × Bool) : ByteArray × Bool := l.foldl (fun _ e => (e.1, true)) s
theorem st_append (a b : List E) (s : ByteArray × Bool) : st (a ++ b) s = st b (st a s) := List.foldl_append ..
/-- Each key behind the one before it. -/
def SF : ByteArray × Bool → List E → Prop
  | _, [] => True
  | s, e :: l => (s.2 = true → kl s.1 e.1 = true) ∧ SF (e.1, true) l
theorem SF_append : ∀ (a b : List E) (s : ByteArray × Bool), SF s (a ++ b) → SF s a ∧ SF (st a s) b
  | [], b, s, h => ⟨trivial, h⟩
  | e :: a, b, s, h => ⟨⟨h.1, (SF_append a b _ h.2).1⟩, (SF_append a b _ h.2).2⟩
theorem SF_asc : ∀ (l : List E) (s : ByteArray × Bool), Asc l → (s.2 = true → ∀ e ∈ l, kl s.1 e.1 = true) → SF s l
  | [], _, _, _ => trivial
  | e :: l, s, h, hs => ⟨fun h2 => hs h2 e (by simp), SF_asc l _ (List.pairwise_cons.1 h).2 fun _ x hx => (List.pairwise_cons.1 h).1 x hx⟩

def SortSays (d : Nat) (h : Nat) : Prop := ∀ (b : Nat) (t : BT) (S : Nat → Prop) (s : ByteArray × Bool) (w : World), Tree w h b t S → Shape d h t → SF s (flat h t) →
    Calls Try.prog 30 #[.pointer (some ⟨b, 0, none⟩), .string s.1, .bool s.2] w fun e w' => e = .returned (.tuple #[.string (st (flat h t) s).1, .bool (st (flat h t) s).2, .bool true]) ∧ w = w'

set_option maxHeartbeats 8000000 in
set_option maxRecDepth 100000 in
theorem sort_leaf (b n : Nat) (ak : Option Addr) (ck : Nat) (a2 : Option Addr) (c2' : Nat) (L : Nat → ByteArray) (F : Nat → Bool) (w : World) (hn : n ≤ 64) (c0 : w.cell? ⟨b, 0, none⟩ = some (.slice ak n ck)) (c2 : w.cell? ⟨b, 2, none⟩ = some (.slice a2 0 c2'))
    (hk : ∀ i, i < n → ∃ g x, ak = some ⟨g, 0, none⟩ ∧ w.cell? ⟨g, i, none⟩ = some (.string x) ∧ (F i = true → kl (L i) x = true) ∧ L (i + 1) = x ∧ F (i + 1) = true) :
    Calls Try.prog 30 #[.pointer (some ⟨b, 0, none⟩), .string (L 0), .bool (F 0)] w fun e w' => e = .returned (.tuple #[.string (L n), .bool (F n), .bool true]) ∧ w = w' := by
  have hk' := Hid.mk' hk
  have m5 : IntKind.i64.wrap ((n : Int) + 1) = (n : Int) + 1 := by rw [IntKind.wrap_i64]; omega
  clear hk
  go_enter Try.func30, Try.ntmps30
  go_wp2
  go_loopg [1, 2, 19] (n + 1) (fun gq s1 s2 s19 wr => ∃ i, i + gq = n + 1 ∧ 1 ≤ gq ∧ s1 = .string (L i) ∧ s2 = .bool (F i) ∧ s19 = .int .i64 (i : Int) ∧ wr = w)
  case atStart => exact ⟨0, by omega, by omega, rfl, rfl, rfl, rfl⟩
  case round =>
    obtain ⟨i, hgi, hg1, rfl, rfl, rfl, rfl⟩ := hrel
    have b3 : (i : Int) < ((n : Int) + 1) := by omega
    have n3 : IntKind.i64.wrap ((i : Int) + 1) = (i : Int) + 1 := by rw [IntKind.wrap_i64]; omega
    obtain ⟨g', rfl⟩ : ∃ g', gk = g' + 1 := ⟨gk - 1, by omega⟩
    by_cases hi : i < n
    · obtain ⟨g, x, rfl, hx, h1, h2, h3⟩ := hk'.out i hi
      have b1 : (i : Int) < (n : Int) := by omega
      have e1 : ((i : Int) == (n : Int)) = false := by rw [beq_eq_false_iff_ne]; omega
      have e2 : (i == n) = false := by rw [beq_eq_false_iff_ne]; omega
      have h2' := Hid.mk' h2
      have h3' := Hid.mk' h3
      clear h2 h3
      obtain ⟨Li, hLi⟩ : ∃ Li, L i = Li := ⟨_, rfl⟩
      obtain ⟨Fi, hFi⟩ : ∃ Fi, F i = Fi := ⟨_, rfl⟩
      rw [hLi, hFi] at h1 ⊢
      have hLi' := Hid.mk' hLi
      have hFi' := Hid.mk' hFi
      clear hLi hFi
      cases Fi
      · clear h1
        go_wp2_with (go_at_call 25; refine (leaf_yes b _ _ _ c2).mono ?_; rintro e w' ⟨rfl, rfl⟩)
        go_roundg g'
        case measure => omega
        case rel => exact ⟨i + 1, by omega, by omega, by rw [h2'.out], by rw [h3'.out], by simp, rfl⟩
      · have h1' : Op.bytesLess x.toList Li.toList = false := kl_asymm (h1 rfl)
        have h1'' : (x.toList == Li.toList) = false := by rw [beq_toList, decide_eq_false_iff_not]; exact (kl_ne (h1 rfl)).symm
        clear h1
        go_wp2_with (go_at_call 25; refine (leaf_yes b _ _ _ c2).mono ?_; rintro e w' ⟨rfl, rfl⟩)
        go_roundg g'
        case measure => omega
        case rel => exact ⟨i + 1, by omega, by omega, by rw [h2'.out], by rw [h3'.out], by simp, rfl⟩
    · obtain rfl : i = n := by omega
      clear hk'
      go_wp2_with (go_at_call 25; refine (leaf_yes b _ _ _ c2).mono ?_; rintro e w' ⟨rfl, rfl⟩)
      go_ret3
      exact ⟨rfl, rfl⟩

set_option maxHeartbeats 8000000 in
set_option maxRecDepth 100000 in
theorem sort_inner (b n gc cc : Nat) (ak : Option Addr) (ck : Nat) (L M : Nat → ByteArray) (F N : Nat → Bool) (w : World) (hn : n ≤ 64) (c0 : w.cell? ⟨b, 0, none⟩ = some (.slice ak n ck)) (c2 : w.cell? ⟨b, 2, none⟩ = some (.slice (some ⟨gc, 0, none⟩) (n + 1) cc))
    (hc : ∀ i, i ≤ n → ∃ q, w.cell? ⟨gc, i, none⟩ = some (.pointer (some ⟨q, 0, none⟩)) ∧ Calls Try.prog 30 #[.pointer (some ⟨q, 0, none⟩), .string (L i), .bool (F i)] w fun e w' => e = .returned (.tuple #[.string (M i), .bool (N i), .bool true]) ∧ w = w')
    (hk : ∀ i, i < n → ∃ g x, ak = some ⟨g, 0, none⟩ ∧ w.cell? ⟨g, i, none⟩ = some (.string x) ∧ (N i = true → kl (M i) x = true) ∧ L (i + 1) = x ∧ F (i + 1) = true) :
    Calls Try.prog 30 #[.pointer (some ⟨b, 0, none⟩), .string (L 0), .bool (F 0)] w fun e w' => e = .returned (.tuple #[.string (M n), .bool (N n), .bool true]) ∧ w = w' := by
  have hk' := Hid.mk' hk
  have hc' := Hid.mk' hc
  have m5 : IntKind.i64.wrap ((n : Int) + 1) = (n : Int) + 1 := by rw [IntKind.wrap_i64]; omega
  clear hk hc
  go_enter Try.func30, Try.ntmps30
  go_wp2
  go_loopg [1, 2, 19] (n + 1) (fun gq s1 s2 s19 wr => ∃ i, i + gq = n + 1 ∧ 1 ≤ gq ∧ s1 = .string (L i) ∧ s2 = .bool (F i) ∧ s19 = .int .i64 (i : Int) ∧ wr = w)
  case atStart => exact ⟨0, by omega, by omega, rfl, rfl, rfl, rfl⟩
  case round =>
    obtain ⟨i, hgi, hg1, rfl, rfl, rfl, rfl⟩ := hrel
    have b3 : (i : Int) < ((n : Int) + 1) := by omega
    have n3 : IntKind.i64.wrap ((i : Int) + 1) = (i : Int) + 1 := by rw [IntKind.wrap_i64]; omega
    obtain ⟨g', rfl⟩ : ∃ g', gk = g' + 1 := ⟨gk - 1, by omega⟩
    obtain ⟨q, hq, hcall⟩ := hc'.out i (by omega)
    have hcall' := Hid.mk' hcall
    clear hcall
    by_cases hi : i < n
    · obtain ⟨g, x, rfl, hx, h1, h2, h3⟩ := hk'.out i hi
      have b1 : (i : Int) < (n : Int) := by omega
      have e1 : ((i : Int) == (n : Int)) = false := by rw [beq_eq_false_iff_ne]; omega
      have e2 : (i == n) = false := by rw [beq_eq_false_iff_ne]; omega
      have h2' := Hid.mk' h2
      have h3' := Hid.mk' h3
      clear h2 h3
      obtain ⟨Li, hLi⟩ : ∃ Li, M i = Li := ⟨_, rfl⟩
      obtain ⟨Fi, hFi⟩ : ∃ Fi, N i = Fi := ⟨_, rfl⟩
      rw [hLi, hFi] at h1 hcall'
      clear hLi hFi
      cases Fi
      · clear h1
        go_wp2_with (first | (go_at_call 25; refine (leaf_no b _ _ _ _ c2 (by omega)).mono ?_; rintro e w' ⟨rfl, rfl⟩) | (go_at_call 30; refine hcall'.out.mono ?_; rintro e w' ⟨rfl, rfl⟩))
        go_roundg g'
        case measure => omega
        case rel => exact ⟨i + 1, by omega, by omega, by rw [h2'.out], by rw [h3'.out], by simp, rfl⟩
      · have h1' : Op.bytesLess x.toList Li.toList = false := kl_asymm (h1 rfl)
        have h1'' : (x.toList == Li.toList) = false := by rw [beq_toList, decide_eq_false_iff_not]; exact (kl_ne (h1 rfl)).symm
        clear h1
        go_wp2_with (first | (go_at_call 25; refine (leaf_no b _ _ _ _ c2 (by omega)).mono ?_; rintro e w' ⟨rfl, rfl⟩) | (go_at_call 30; refine hcall'.out.mono ?_; rintro e w' ⟨rfl, rfl⟩))
        go_roundg g'
        case measure => omega
        case rel => exact ⟨i + 1, by omega, by omega, by rw [h2'.out], by rw [h3'.out], by simp, rfl⟩
    · obtain rfl : i = n := by omega
      clear hk'
      go_wp2_with (first | (go_at_call 25; refine (leaf_no b _ _ _ _ c2 (by omega)).mono ?_; rintro e w' ⟨rfl, rfl⟩) | (go_at_call 30; refine hcall'.out.mono ?_; rintro e w' ⟨rfl, rfl⟩))
      go_ret3
      exact ⟨rfl, rfl⟩

theorem sort_zero (d : Nat) (hd2 : d ≤ 32) : SortSays d 0 := by
  intro b t S s w ht hs hf
  obtain ⟨vk, vv, vc, hN, -, hcs⟩ := ht
  obtain ⟨l1, l2, l3, l4⟩ := shape_len hs hd2
  obtain ⟨ak, ck, av, cv, ac, cc, rfl, rfl, rfl⟩ := hN.form
  have hz : (flat 0 t).length = t.ks.length := zip_len _ _ l4
  have := sort_leaf b t.ks.length ak ck ac cc (fun i => (st ((flat 0 t).take i) s).1) (fun i => (st ((flat 0 t).take i) s).2) w (by omega) hN.c0 hN.c2 (fun i hi => ?_)
  · simp only [List.take_of_length_le (show (flat 0 t).length ≤ t.ks.length by omega)] at this
    exact this
  · obtain ⟨g, rfl, -, hc, -, -⟩ := hN.rk.at (by simp; omega)
    have hi2 : i < (flat 0 t).length := by omega
    refine ⟨g, t.ks[i], rfl, hc i _ (by rw [List.getElem?_map, List.getElem?_eq_getElem hi]; rfl), ?_, ?_⟩
    · intro h2
      have h3 := (SF_append ((flat 0 t).take i) ((flat 0 t).drop i) s (by rw [List.take_append_drop]; exact hf)).2
      rw [List.drop_eq_getElem_cons hi2] at h3
      have := h3.1 h2
      simpa [flat] using this
    · rw [List.take_add_one, List.getElem?_eq_getElem hi2, st_append]
      exact ⟨by simp [flat, st], rfl⟩

theorem sort_succ (d h : Nat) (hd2 : d ≤ 32) (ih : SortSays d h) : SortSays d (h + 1) := by
  intro b t S s w ht hs hf
  obtain ⟨vk, vv, vc, bs, S', hN, -, -, -, hF⟩ := id ht
  obtain ⟨l1, l2, l3, l4⟩ := shape_len hs hd2
  obtain ⟨e1, e2, e3, e4⟩ := hs
  have hbl := Forest.length _ _ _ hF
  obtain ⟨ak, ck, av, cv, ac, cc, rfl, rfl, rfl⟩ := hN.form
  obtain ⟨gc, rfl, -, hcc, -, -⟩ := hN.rc.at (by simp; omega)
  have c2 := hN.c2
  rw [hbl, e3] at c2
  -- the list at each child
  obtain ⟨fc, hfc⟩ : ∃ fc : Nat → List E, ∀ i, fc i = flat h ((t.cs[i]?).getD (.node [] [] [])) := ⟨_, fun _ => rfl⟩
  have hat : ∀ i, i ≤ t.ks.length → flat (h + 1) t = Lf h (t.ks.take i) (t.vs.take i) (t.cs.take i) ++ fc i ++ Rt h (t.ks.drop i) (t.vs.drop i) (t.cs.drop (i + 1)) := fun i hi => by
    have hj : i < t.cs.length := by omega
    have := flat_at h (t.ks.take i) (t.ks.drop i) (t.vs.take i) (t.vs.drop i) (t.cs.take i) (t.cs.drop (i + 1)) t.cs[i] (by simp; omega) (by simp; omega)
    rw [List.take_append_drop, List.take_append_drop, ← List.drop_eq_getElem_cons hj, List.take_append_drop, BT.eta] at this
    rw [this, hfc, List.getElem?_eq_getElem hj]; rfl
  have hnext : ∀ i (hi : i < t.ks.length), Lf h (t.ks.take (i + 1)) (t.vs.take (i + 1)) (t.cs.take (i + 1)) = Lf h (t.ks.take i) (t.vs.take i) (t.cs.take i) ++ fc i ++ [(t.ks[i], t.vs[i]'(by omega))] := fun i hi => by
    have hj : i < t.cs.length := by omega
    have hv : i < t.vs.length := by omega
    rw [List.take_add_one, List.take_add_one, List.take_add_one, List.getElem?_eq_getElem hi, List.getElem?_eq_getElem hj, List.getElem?_eq_getElem hv]
    rw [show (some t.ks[i]).toList = [t.ks[i]] from rfl, show (some t.vs[i]).toList = [t.vs[i]] from rfl, show (some t.cs[i]).toList = [t.cs[i]] from rfl, Lf_snoc h _ _ _ _ _ _ (by simp; omega) (by simp; omega), hfc, List.getElem?_eq_getElem hj]
    rfl
  have hend : flat (h + 1) t = Lf h (t.ks.take t.ks.length) (t.vs.take t.ks.length) (t.cs.take t.ks.length) ++ fc t.ks.length := by
    rw [hat _ (Nat.le_refl _), List.drop_of_length_le (Nat.le_refl t.ks.length), List.drop_of_length_le (show t.vs.length ≤ t.ks.length by omega), List.drop_of_length_le (show t.cs.length ≤ t.ks.length + 1 by omega), Rt_nil, List.append_nil]
  have := sort_inner b t.ks.length gc cc ak ck (fun i => (st (Lf h (t.ks.take i) (t.vs.take i) (t.cs.take i)) s).1) (fun i => (st (Lf h (t.ks.take i) (t.vs.take i) (t.cs.take i) ++ fc i) s).1)
    (fun i => (st (Lf h (t.ks.take i) (t.vs.take i) (t.cs.take i)) s).2) (fun i => (st (Lf h (t.ks.take i) (t.vs.take i) (t.cs.take i) ++ fc i) s).2) w (by omega) hN.c0 c2 (fun i hi => ?_) (fun i hi => ?_)
  · rw [hend]
    exact this
  · have hj : i < t.cs.length := by omega
    obtain ⟨hj', -, S2, -, -, -, -, -, -, -, -, hT, -⟩ := Forest.pick i bs t.cs S' hF (by omega)
    refine ⟨bs[i]'(by omega), hcc i _ (by rw [List.getElem?_map, List.getElem?_eq_getElem (by omega)]; rfl), ?_⟩
    have hk := e4 _ (List.getElem_mem hj)
    have hfi : fc i = flat h t.cs[i] := by rw [hfc, List.getElem?_eq_getElem hj]; rfl
    rw [hat i hi, List.append_assoc] at hf
    have h2 := (SF_append _ _ _ (SF_append _ _ _ hf).2).1
    rw [hfi] at h2
    have := ih _ _ S2 _ w hT hk.2 h2
    simp only [hfi, st_append]
    exact this
  · obtain ⟨g, rfl, -, hc, -, -⟩ := hN.rk.at (by simp; omega)
    have hv : i < t.vs.length := by omega
    refine ⟨g, t.ks[i], rfl, hc i _ (by rw [List.getElem?_map, List.getElem?_eq_getElem hi]; rfl), ?_, ?_⟩
    · intro h2
      rw [hat i (by omega)] at hf
      have h3 := (SF_append _ _ _ hf).2
      rw [List.drop_eq_getElem_cons hi, List.drop_eq_getElem_cons hv] at h3
      cases hcd : t.cs.drop (i + 1) with
      | nil => have := congrArg List.length hcd; simp at this; omega
      | cons c cs =>
        rw [hcd, Rt_cons] at h3
        exact h3.1 h2
    · simp only [hnext i hi, st_append]
      exact ⟨rfl, rfl⟩

theorem sort30 (d : Nat) (hd2 : d ≤ 32) : ∀ h : Nat, SortSays d h
  | 0 => sort_zero d hd2
  | h + 1 => sort_succ d h hd2 (sort30 d hd2 h)
end Go.Proofs.Ytamnmoejjjaegaa
