/- What (*node).end returns: the first or the last key below a node, its value. Conditions: there is one; rows of at most 1000 elements. -/
import Derived.Test.YtamnmoejjjaegaaN0
import Derived.Test.YtamnmoejjjaegaaH
import Derived.BigQuiet
import Derived.Deep.LoopGhost
set_option linter.unusedVariables false
set_option linter.unusedSimpArgs false
namespace Go.Proofs.Ytamnmoejjjaegaa
open Go Go.RowKit

/-- The place of the first or of the last element. -/
def edge (last : Bool) (n : Nat) : Nat := if last then n - 1 else 0
/-- The first or the last key below a node of height h, and its value. -/
def endP (last : Bool) : Nat → BT → Option (ByteArray × Int)
  | 0, t => match t.ks[edge last t.ks.length]?, t.vs[edge last t.vs.length]? with
    | some x, some y => some (x, y)
    | _, _ => none
  | h + 1, t => match t.cs[edge last t.cs.length]? with
    | some c => endP last h c
    | none => none
/-- Rows of at most 1000 elements. -/
def Slim : Nat → BT → Prop
  | 0, t => t.ks.length ≤ 1000 ∧ t.vs.length ≤ 1000 ∧ t.cs = []
  | h + 1, t => t.ks.length ≤ 1000 ∧ t.vs.length ≤ 1000 ∧ t.cs.length ≤ 1000 ∧ ∀ c ∈ t.cs, Slim h c

set_option maxHeartbeats 4000000 in
set_option maxRecDepth 100000 in
theorem end41 (b h : Nat) (t : BT) (S : Nat → Prop) (last : Bool) (x : ByteArray) (y : Int) (w : World) (ht : Tree w h b t S) (hs : Slim h t) (he : endP last h t = some (x, y)) :
    Calls Try.prog 41 #[.pointer (some ⟨b, 0, none⟩), .bool last] w fun e w' => e = .returned (.tuple #[.string x, .int .i64 y]) ∧ Chg NoB w w' := by
  have ht' := Hid.mk' ht
  have hs' := Hid.mk' hs
  have he' := Hid.mk' he
  clear ht hs he
  cases last
  · go_enter Try.func41, Try.ntmps41
    go_wp2
    go_loopg [0] h (fun gq s0 wr => ∃ (b' : Nat) (t' : BT) (S' : Nat → Prop), s0 = .pointer (some ⟨b', 0, none⟩) ∧ Tree wr gq b' t' S' ∧ Slim gq t' ∧ endP false gq t' = some (x, y) ∧ Chg NoB w wr)
    case atStart => exact ⟨b, t, S, rfl, ht'.out, hs'.out, he'.out, Chg.refl _ _⟩
    case round =>
      obtain ⟨b', t', S', rfl, h1, h2, h3, h4⟩ := hrel
      have k4 := Hid.mk' h4
      clear ht' hs' he' h4
      cases gk with
      | zero =>
        obtain ⟨vk, vv, vc, hN, -, -⟩ := h1
        obtain ⟨ak, nk, ck, av, nv, cv, ac, nc, cc, rfl, rfl, rfl, lk0, lv0, lc0⟩ := hN.form'
        obtain rfl : nc = 0 := lc0.out
        simp only [endP, edge, Bool.false_eq_true, if_false] at h3
        split at h3
        · rename_i x' y' hx hy
          cases h3
          have px : 0 < t'.ks.length := (List.getElem?_eq_some_iff.1 hx).1
          have py : 0 < t'.vs.length := (List.getElem?_eq_some_iff.1 hy).1
          obtain ⟨hk, rfl, _, hck, _, _⟩ := hN.rk.at (by simp; omega)
          obtain ⟨hv, rfl, _, hcv, _, _⟩ := hN.rv.at (by simp; omega)
          have e0 : wr.cell? ⟨hk, 0, none⟩ = some (.string x) := hck 0 _ (by rw [List.getElem?_map, hx]; rfl)
          have e1 : wr.cell? ⟨hv, 0, none⟩ = some (.int .i64 y) := hcv 0 _ (by rw [List.getElem?_map, hy]; rfl)
          have c0 := hN.c0
          have c1 := hN.c1
          have c2 := hN.c2
          have b0 : (0 : Int) < (nk : Int) := by have := lk0.out; omega
          have b1 : (0 : Int) < (nv : Int) := by have := lv0.out; omega
          have b2 : 0 < nk := by omega
          have b3 : 0 < nv := by omega
          clear hN hx hy hck hcv h2 lk0 lv0 lc0
          go_wp2_with (go_at_call 25; refine (leaf_yes b' _ _ _ c2).mono ?_; rintro e w' ⟨rfl, rfl⟩)
          go_quiet (fail)
          go_wp2_with fail
          go_ret2
          exact ⟨rfl, k4.out.drewN _⟩
        · cases h3
      | succ g =>
        obtain ⟨vk, vv, vc, bs, S2, hN, -, -, -, hF⟩ := h1
        have hlen := Forest.length _ _ _ hF
        obtain ⟨ak, nk, ck, av, nv, cv, ac, nc, cc, rfl, rfl, rfl, lk0, lv0, lc0⟩ := hN.form'
        simp only [endP, edge, Bool.false_eq_true, if_false] at h3
        split at h3
        · rename_i c hcx
          have px : 0 < t'.cs.length := (List.getElem?_eq_some_iff.1 hcx).1
          obtain ⟨hj, S3, S4, S5, -, -, -, -, -, -, -, hT, -⟩ := Forest.pick 0 bs t'.cs S2 hF (by omega)
          have hce : t'.cs[0] = c := by rw [List.getElem?_eq_getElem hj] at hcx; exact Option.some.inj hcx
          have hsl := h2.2.2.2 _ (List.getElem_mem hj)
          rw [hce] at hsl hT
          obtain ⟨gc, rfl, _, hcc, _, _⟩ := hN.rc.at (by simp; omega)
          obtain ⟨q, hq⟩ : ∃ q, bs[0]'(by omega) = q := ⟨_, rfl⟩
          rw [hq] at hT
          have e0 : wr.cell? ⟨gc, 0, none⟩ = some (.pointer (some ⟨q, 0, none⟩)) := hcc 0 _ (by rw [List.getElem?_map, List.getElem?_eq_getElem (by omega), hq]; rfl)
          have c2 := hN.c2
          have b1 : (0 : Int) < (nc : Int) := by have := lc0.out; omega
          have b2 : 0 < nc := by omega
          have hT' := Hid.mk' hT
          have h3' := Hid.mk' h3
          have hsl' := Hid.mk' hsl
          clear hN hcc h2 lk0 lv0 lc0 hT h3 hF hq hcx hsl hlen px hce hj
          go_wp2_with (go_at_call 25; refine (leaf_no b' _ _ _ _ c2 b2).mono ?_; rintro e w' ⟨rfl, rfl⟩)
          go_roundg g
          case measure => omega
          case rel => exact ⟨q, _, _, rfl, hT'.out, hsl'.out, h3'.out, k4.out⟩
        · cases h3
  · go_enter Try.func41, Try.ntmps41
    go_wp2
    go_loopg [0] h (fun gq s0 wr => ∃ (b' : Nat) (t' : BT) (S' : Nat → Prop), s0 = .pointer (some ⟨b', 0, none⟩) ∧ Tree wr gq b' t' S' ∧ Slim gq t' ∧ endP true gq t' = some (x, y) ∧ Chg NoB w wr)
    case atStart => exact ⟨b, t, S, rfl, ht'.out, hs'.out, he'.out, Chg.refl _ _⟩
    case round =>
      obtain ⟨b', t', S', rfl, h1, h2, h3, h4⟩ := hrel
      have k4 := Hid.mk' h4
      clear ht' hs' he' h4
      cases gk with
      | zero =>
        obtain ⟨vk, vv, vc, hN, -, -⟩ := h1
        obtain ⟨ak, nk, ck, av, nv, cv, ac, nc, cc, rfl, rfl, rfl, lk0, lv0, lc0⟩ := hN.form'
        obtain rfl : nc = 0 := lc0.out
        simp only [endP, edge, if_true] at h3
        split at h3
        · rename_i x' y' hx hy
          cases h3
          have px : t'.ks.length - 1 < t'.ks.length := (List.getElem?_eq_some_iff.1 hx).1
          have py : t'.vs.length - 1 < t'.vs.length := (List.getElem?_eq_some_iff.1 hy).1
          obtain ⟨hk, rfl, _, hck, _, _⟩ := hN.rk.at (by simp; omega)
          obtain ⟨hv, rfl, _, hcv, _, _⟩ := hN.rv.at (by simp; omega)
          obtain ⟨lk, rfl⟩ : ∃ l, nk = l + 1 := ⟨nk - 1, by have := lk0.out; omega⟩
          obtain ⟨lv, rfl⟩ : ∃ l, nv = l + 1 := ⟨nv - 1, by have := lv0.out; omega⟩
          have e0 : wr.cell? ⟨hk, lk, none⟩ = some (.string x) := hck lk _ (by rw [List.getElem?_map, show lk = t'.ks.length - 1 by have := lk0.out; omega, hx]; rfl)
          have e1 : wr.cell? ⟨hv, lv, none⟩ = some (.int .i64 y) := hcv lv _ (by rw [List.getElem?_map, show lv = t'.vs.length - 1 by have := lv0.out; omega, hy]; rfl)
          have c0 := hN.c0
          have c1 := hN.c1
          have c2 := hN.c2
          have b0 : lk ≤ 1000 := by have := lk0.out; have := h2.1; omega
          have b1 : lv ≤ 1000 := by have := lv0.out; have := h2.2.1; omega
          have m1 : (lk : Int) + 1 - 1 = (lk : Int) := by omega
          have m2 : (lv : Int) + 1 - 1 = (lv : Int) := by omega
          have m3 : IntKind.i64.wrap (lk : Int) = lk := by rw [IntKind.wrap_i64]; omega
          have m4 : IntKind.i64.wrap (lv : Int) = lv := by rw [IntKind.wrap_i64]; omega
          have m5 : (lk : Int) < (lk : Int) + 1 := by omega
          have m6 : (lv : Int) < (lv : Int) + 1 := by omega
          clear hN hx hy hck hcv h2 lk0 lv0 lc0 px py
          go_wp2_with (go_at_call 25; refine (leaf_yes b' _ _ _ c2).mono ?_; rintro e w' ⟨rfl, rfl⟩)
          go_quiet (fail)
          go_wp2_with fail
          go_ret2
          exact ⟨rfl, k4.out.drewN _⟩
        · cases h3
      | succ g =>
        obtain ⟨vk, vv, vc, bs, S2, hN, -, -, -, hF⟩ := h1
        have hlen := Forest.length _ _ _ hF
        obtain ⟨ak, nk, ck, av, nv, cv, ac, nc, cc, rfl, rfl, rfl, lk0, lv0, lc0⟩ := hN.form'
        simp only [endP, edge, if_true] at h3
        split at h3
        · rename_i c hcx
          have px : t'.cs.length - 1 < t'.cs.length := (List.getElem?_eq_some_iff.1 hcx).1
          obtain ⟨l, rfl⟩ : ∃ l, nc = l + 1 := ⟨nc - 1, by have := lc0.out; omega⟩
          have hll : t'.cs.length - 1 = l := by have := lc0.out; omega
          rw [hll] at hcx
          obtain ⟨hj, S3, S4, S5, -, -, -, -, -, -, -, hT, -⟩ := Forest.pick l bs t'.cs S2 hF (by omega)
          have hce : t'.cs[l] = c := by rw [List.getElem?_eq_getElem hj] at hcx; exact Option.some.inj hcx
          have hsl := h2.2.2.2 _ (List.getElem_mem hj)
          rw [hce] at hsl hT
          obtain ⟨gc, rfl, _, hcc, _, _⟩ := hN.rc.at (by simp; omega)
          obtain ⟨q, hq⟩ : ∃ q, bs[l]'(by omega) = q := ⟨_, rfl⟩
          rw [hq] at hT
          have e0 : wr.cell? ⟨gc, l, none⟩ = some (.pointer (some ⟨q, 0, none⟩)) := hcc l _ (by rw [List.getElem?_map, List.getElem?_eq_getElem (by omega), hq]; rfl)
          have c2 := hN.c2
          have b2 : 0 < l + 1 := by omega
          have b0 : l ≤ 1000 := by have := h2.2.2.1; omega
          have m1 : (l : Int) + 1 - 1 = (l : Int) := by omega
          have m3 : IntKind.i64.wrap (l : Int) = l := by rw [IntKind.wrap_i64]; omega
          have m5 : (l : Int) < (l : Int) + 1 := by omega
          have hT' := Hid.mk' hT
          have h3' := Hid.mk' h3
          have hsl' := Hid.mk' hsl
          clear hN hcc h2 lk0 lv0 lc0 hT h3 hF hq hcx hsl hlen px hce hj hll
          go_wp2_with (go_at_call 25; refine (leaf_no b' _ _ _ _ c2 b2).mono ?_; rintro e w' ⟨rfl, rfl⟩)
          go_quiet (fail)
          go_wp2_with fail
          go_roundg g
          case measure => omega
          case rel => exact ⟨q, _, _, rfl, hT'.out.chg ((Chg.refl NoB _).drewN _) _ _ _ _ (fun _ _ h => h), hsl'.out, h3'.out, k4.out.drewN _⟩
        · cases h3
end Go.Proofs.Ytamnmoejjjaegaa
