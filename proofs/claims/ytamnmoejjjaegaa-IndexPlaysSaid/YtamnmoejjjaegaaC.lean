/- What (*node).counted and (*node).sorted return at a tree of the form. Conditions: degree from 2 to 32, at most 1000000 keys. -/
import Derived.Test.YtamnmoejjjaegaaR
import Derived.BigQuiet
import Derived.Deep.LoopGhost
set_option linter.unusedVariables false
set_option linter.unusedSimpArgs false
namespace Go.Proofs.Ytamnmoejjjaegaa
open Go Go.RowKit

theorem tl_len : ∀ (X : List E) (C : List (List E)), X.length = C.length → (tl X C).length = X.length + (C.map List.length).sum
  | [], [], _ => rfl
  | [], _ :: _, h => by simp at h
  | _ :: _, [], h => by simp at h
  | x :: X, c :: C, h => by simp [tl, tl_len X C (by simpa using h)]; omega
/-- How many keys lie below the children. -/
def lens (h : Nat) (cs : List BT) : Nat := (cs.map fun c => (flat h c).length).sum
theorem flat_len {d h : Nat} {t : BT} (hs : Shape d (h + 1) t) : (flat (h + 1) t).length = t.ks.length + lens h t.cs := by
  obtain ⟨h1, h2, h3, -⟩ := hs
  obtain ⟨ks, vs, cs⟩ := t
  simp only [BT.ks_node, BT.vs_node, BT.cs_node] at *
  rcases cs with _ | ⟨c, cs⟩
  · simp at h3
  · simp only [flat, BT.ks_node, BT.vs_node, BT.cs_node, List.map_cons, weave, List.length_append]
    rw [tl_len _ _ (by rw [zip_len _ _ h1, List.length_map]; simp at h3; omega), zip_len _ _ h1]
    simp [lens, Function.comp_def]; omega
theorem lens_take (h : Nat) (cs : List BT) (i : Nat) (hi : i < cs.length) : lens h (cs.take (i + 1)) = lens h (cs.take i) + (flat h cs[i]).length := by
  unfold lens
  rw [List.take_add_one, List.getElem?_eq_getElem hi, List.map_append, List.sum_append]; simp
theorem lens_le (h : Nat) (cs : List BT) (i : Nat) : lens h (cs.take i) ≤ lens h cs := by
  have : lens h cs = lens h (cs.take i) + lens h (cs.drop i) := by
    unfold lens
    rw [← List.sum_append, ← List.map_append, List.take_append_drop]
  omega

def CountSays (d : Nat) (vd : Int) (h : Nat) : Prop := ∀ (b : Nat) (t : BT) (S : Nat → Prop) (root : Bool) (w : World), Tree w h b t S → Shape d h t → ((root = true ∧ (0 < h → 1 ≤ t.ks.length)) ∨ (d ≤ t.ks.length + 1)) → (flat h t).length ≤ 1000000 → h ≤ 1000000 →
    Calls Try.prog 29 #[.pointer (some ⟨b, 0, none⟩), .int .i64 vd, .bool root] w fun e w' => e = .returned (.tuple #[.int .i64 ((flat h t).length : Int), .int .i64 (h : Int), .bool true]) ∧ w = w'

set_option maxHeartbeats 4000000 in
set_option maxRecDepth 100000 in
theorem count_zero (d : Nat) (vd : Int) (hd : 2 ≤ d) (hd2 : d ≤ 32) (hvd : vd = d) : CountSays d vd 0 := by
  subst hvd
  intro b t S root w ht hs hr hbig _
  obtain ⟨vk, vv, vc, hN, -, hcs⟩ := ht
  obtain ⟨e1, e2, -⟩ := hs
  have hlen : (flat 0 t).length = t.ks.length := zip_len _ _ e1
  rw [hlen]
  obtain ⟨ak, nk, ck, av, nv, cv, ac, nc, cc, rfl, rfl, rfl, lk0, lv0, lc0⟩ := hN.form'
  obtain rfl : nc = 0 := lc0.out
  obtain rfl : nv = nk := by rw [lv0.out, lk0.out, e1]
  have c0 := hN.c0
  have c1 := hN.c1
  have c2 := hN.c2
  have hnk : nv = t.ks.length := lk0.out
  rw [← hnk]
  have i64 : nv ≤ 64 := by omega
  have m2 : IntKind.i64.wrap (2 * (d : Int)) = 2 * (d : Int) := by rw [IntKind.wrap_i64]; omega
  have m3 : IntKind.i64.wrap (2 * (d : Int) - 1) = 2 * (d : Int) - 1 := by rw [IntKind.wrap_i64]; omega
  have m4 : IntKind.i64.wrap ((d : Int) - 1) = (d : Int) - 1 := by rw [IntKind.wrap_i64]; omega
  have m5 : IntKind.i64.wrap ((nv : Int) + 1) = (nv : Int) + 1 := by rw [IntKind.wrap_i64]; omega
  have p1 : decide (2 * (d : Int) - 1 < (nv : Int)) = false := by simp; omega
  rcases hr with ⟨rfl, -⟩ | hr
  · clear hN lk0 lv0 lc0 hbig hcs e1 e2 hnk hlen
    go_enter Try.func29, Try.ntmps29
    go_wp2_with (go_at_call 25; refine (leaf_yes b _ _ _ c2).mono ?_; rintro e w' ⟨rfl, rfl⟩)
    go_loopg [10, 11, 71] 0 (fun gq s10 s11 s71 wr => s10 = .int .i64 nv ∧ s11 = .int .i64 0 ∧ s71 = .int .i64 0 ∧ wr = w)
    case atStart => exact ⟨rfl, rfl, rfl, rfl⟩
    case round =>
      obtain ⟨rfl, rfl, rfl, rfl⟩ := hrel
      go_wp2_with fail
      go_ret3
      exact ⟨rfl, rfl⟩
  · have p2 : decide ((nv : Int) < (d : Int) - 1) = false := by simp; omega
    clear hN lk0 lv0 lc0 hbig hcs e1 e2 hnk hlen hr
    cases root
    · go_enter Try.func29, Try.ntmps29
      go_wp2_with (go_at_call 25; refine (leaf_yes b _ _ _ c2).mono ?_; rintro e w' ⟨rfl, rfl⟩)
      go_loopg [10, 11, 71] 0 (fun gq s10 s11 s71 wr => s10 = .int .i64 nv ∧ s11 = .int .i64 0 ∧ s71 = .int .i64 0 ∧ wr = w)
      case atStart => exact ⟨rfl, rfl, rfl, rfl⟩
      case round =>
        obtain ⟨rfl, rfl, rfl, rfl⟩ := hrel
        go_wp2_with fail
        go_ret3
        exact ⟨rfl, rfl⟩
    · go_enter Try.func29, Try.ntmps29
      go_wp2_with (go_at_call 25; refine (leaf_yes b _ _ _ c2).mono ?_; rintro e w' ⟨rfl, rfl⟩)
      go_loopg [10, 11, 71] 0 (fun gq s10 s11 s71 wr => s10 = .int .i64 nv ∧ s11 = .int .i64 0 ∧ s71 = .int .i64 0 ∧ wr = w)
      case atStart => exact ⟨rfl, rfl, rfl, rfl⟩
      case round =>
        obtain ⟨rfl, rfl, rfl, rfl⟩ := hrel
        go_wp2_with fail
        go_ret3
        exact ⟨rfl, rfl⟩

set_option maxHeartbeats 8000000 in
set_option maxRecDepth 100000 in
theorem count_succ (d h : Nat) (vd : Int) (hd : 2 ≤ d) (hd2 : d ≤ 32) (hvd : vd = d) (ih : CountSays d vd h) : CountSays d vd (h + 1) := by
  subst hvd
  intro b t S root w ht hs hr hbig hh
  have hlen := flat_len hs
  obtain ⟨vk, vv, vc, bs, S', hN, -, -, -, hF⟩ := id ht
  obtain ⟨e1, e2, e3, e4⟩ := hs
  have hbl := Forest.length _ _ _ hF
  rw [hlen]
  rw [hlen] at hbig
  have hk1 : 1 ≤ t.ks.length := by rcases hr with ⟨-, h⟩ | h <;> omega
  obtain ⟨ak, nk, ck, av, nv, cv, ac, nc, cc, rfl, rfl, rfl, lk0, lv0, lc0⟩ := hN.form'
  obtain rfl : nv = nk := by rw [lv0.out, lk0.out, e1]
  obtain rfl : nc = nv + 1 := by rw [lc0.out, lk0.out]; omega
  obtain ⟨gc, rfl, _, hcell, _, _⟩ := hN.rc.at (by simp; omega)
  have c0 := hN.c0
  have c1 := hN.c1
  have c2 := hN.c2
  have hnk : nv = t.ks.length := lk0.out
  rw [← hnk] at hbig hk1 ⊢
  have i64 : nv ≤ 64 := by omega
  have m2 : IntKind.i64.wrap (2 * (d : Int)) = 2 * (d : Int) := by rw [IntKind.wrap_i64]; omega
  have m3 : IntKind.i64.wrap (2 * (d : Int) - 1) = 2 * (d : Int) - 1 := by rw [IntKind.wrap_i64]; omega
  have m4 : IntKind.i64.wrap ((d : Int) - 1) = (d : Int) - 1 := by rw [IntKind.wrap_i64]; omega
  have m5 : IntKind.i64.wrap ((nv : Int) + 1) = (nv : Int) + 1 := by rw [IntKind.wrap_i64]; omega
  have p1 : decide (2 * (d : Int) - 1 < (nv : Int)) = false := by simp; omega
  have p3 : ((nv : Int) == 0) = false := by rw [beq_eq_false_iff_ne]; omega
  have kid : ∀ i, i < nv + 1 → ∃ q len, w.cell? ⟨gc, i, none⟩ = some (.pointer (some ⟨q, 0, none⟩)) ∧ lens h (t.cs.take (i + 1)) = lens h (t.cs.take i) + len ∧
      Calls Try.prog 29 #[.pointer (some ⟨q, 0, none⟩), .int .i64 d, .bool false] w fun e w' => e = .returned (.tuple #[.int .i64 (len : Int), .int .i64 (h : Int), .bool true]) ∧ w = w' := by
    intro i hi
    obtain ⟨hj', -, S2, -, -, -, -, -, -, -, -, hT, -⟩ := Forest.pick i bs t.cs S' hF (by omega)
    have hk := e4 _ (List.getElem_mem hj')
    have h1 := lens_take h t.cs i hj'
    have h2 := lens_le h t.cs (i + 1)
    exact ⟨bs[i]'(by omega), (flat h t.cs[i]).length, hcell i _ (by rw [List.getElem?_map, List.getElem?_eq_getElem (by omega)]; rfl), h1, ih _ _ S2 false w hT hk.2 (.inr hk.1) (by omega) (by omega)⟩
  have mono : ∀ i, lens h (t.cs.take i) ≤ lens h t.cs := fun i => lens_le h t.cs i
  have full : lens h (t.cs.take (nv + 1)) = lens h t.cs := by rw [List.take_of_length_le (by omega)]
  obtain ⟨sm, hsm⟩ : ∃ sm : Nat → Nat, ∀ i, sm i = lens h (t.cs.take i) := ⟨_, fun _ => rfl⟩
  obtain ⟨tot, htot⟩ : ∃ tot, tot = lens h t.cs := ⟨_, rfl⟩
  simp only [← hsm, ← htot] at kid mono full hbig ⊢
  have sm0 : sm 0 = 0 := by rw [hsm]; rfl
  have kid' := Hid.mk' kid
  have mono' := Hid.mk' mono
  have full' := Hid.mk' full
  have hb4 : nv + tot ≤ 1000000 := hbig
  have hh4 : h + 1 ≤ 1000000 := hh
  have go : ∀ root : Bool, (root = true ∨ decide ((nv : Int) < (d : Int) - 1) = false) → Calls Try.prog 29 #[.pointer (some ⟨b, 0, none⟩), .int .i64 d, .bool root] w fun e w' => e = .returned (.tuple #[.int .i64 ((nv + tot : Nat) : Int), .int .i64 ((h + 1 : Nat) : Int), .bool true]) ∧ w = w' := by
    clear hr hN ht hF lk0 lv0 lc0 hbig hcell e1 e2 e3 e4 hnk hlen kid mono full hsm htot hbl hk1 ih hh
    intro root hr
    cases root
    · have p2 : decide ((nv : Int) < (d : Int) - 1) = false := hr.resolve_left (by simp)
      clear hr
      go_enter Try.func29, Try.ntmps29
      go_wp2_with (go_at_call 25; refine (leaf_no b _ _ _ _ c2 (by omega)).mono ?_; rintro e w' ⟨rfl, rfl⟩)
      go_loopg [10, 11, 71] (nv + 1) (fun gq s10 s11 s71 wr => ∃ i, i + gq = nv + 1 ∧ s10 = .int .i64 ((nv + sm i : Nat) : Int) ∧ s11 = .int .i64 (if i = 0 then 0 else ((h + 1 : Nat) : Int)) ∧ s71 = .int .i64 (i : Int) ∧ wr = w)
      case atStart => exact ⟨0, by omega, by rw [sm0]; rfl, rfl, rfl, rfl⟩
      case round =>
        obtain ⟨i, hgi, rfl, rfl, rfl, rfl⟩ := hrel
        by_cases hi : i < nv + 1
        · obtain ⟨q, len, eq, hsum, hcall⟩ := kid'.out i hi
          have hcall' := Hid.mk' hcall
          have hm := mono'.out (i + 1)
          have b1 : (i : Int) < (nv : Int) + 1 := by omega
          have b2 : nv + sm i + len ≤ 1000000 := by omega
          have b3 : (i : Int) < ((nv : Int) + 1) := by omega
          have n1 : IntKind.i64.wrap ((nv : Int) + (sm i : Int) + (len : Int)) = (nv : Int) + (sm i : Int) + (len : Int) := by rw [IntKind.wrap_i64]; omega
          have n2 : IntKind.i64.wrap ((h : Int) + 1) = (h : Int) + 1 := by rw [IntKind.wrap_i64]; omega
          have n3 : IntKind.i64.wrap ((i : Int) + 1) = (i : Int) + 1 := by rw [IntKind.wrap_i64]; omega
          have hsum' := Hid.mk' hsum
          clear hcall hm hsum
          obtain ⟨g', rfl⟩ : ∃ g', gk = g' + 1 := ⟨gk - 1, by omega⟩
          by_cases h0 : i = 0
          · subst h0
            rw [if_pos rfl]
            go_wp2_with (go_at_call 29; refine hcall'.out.mono ?_; rintro e w' ⟨rfl, rfl⟩)
            go_roundg g'
            case measure => omega
            case rel => exact ⟨1, by omega, by have := hsum'.out; rw [sm0] at this; rw [show sm 1 = 0 + len from this]; simp, by simp, rfl, rfl⟩
          · rw [if_neg h0]
            have p5 : decide (0 < i) = true := by simp; omega
            have p6 : decide (0 < (i : Int)) = true := by simp; omega
            have p7 : ((((h + 1 : Nat) : Int)) == ((h + 1 : Nat) : Int)) = true := by simp
            go_wp2_with (go_at_call 29; refine hcall'.out.mono ?_; rintro e w' ⟨rfl, rfl⟩)
            go_roundg g'
            case measure => omega
            case rel => exact ⟨i + 1, by omega, by have := hsum'.out; rw [this]; simp; omega, by rw [if_neg (by omega)]; simp, by simp, rfl⟩
        · obtain rfl : i = nv + 1 := by omega
          have hfull := full'.out
          rw [hfull, if_neg (by omega)]
          clear kid' mono' full' hfull
          go_wp2_with fail
          go_ret3
          exact ⟨rfl, rfl⟩
    · skip
      clear hr
      go_enter Try.func29, Try.ntmps29
      go_wp2_with (go_at_call 25; refine (leaf_no b _ _ _ _ c2 (by omega)).mono ?_; rintro e w' ⟨rfl, rfl⟩)
      go_loopg [10, 11, 71] (nv + 1) (fun gq s10 s11 s71 wr => ∃ i, i + gq = nv + 1 ∧ s10 = .int .i64 ((nv + sm i : Nat) : Int) ∧ s11 = .int .i64 (if i = 0 then 0 else ((h + 1 : Nat) : Int)) ∧ s71 = .int .i64 (i : Int) ∧ wr = w)
      case atStart => exact ⟨0, by omega, by rw [sm0]; rfl, rfl, rfl, rfl⟩
      case round =>
        obtain ⟨i, hgi, rfl, rfl, rfl, rfl⟩ := hrel
        by_cases hi : i < nv + 1
        · obtain ⟨q, len, eq, hsum, hcall⟩ := kid'.out i hi
          have hcall' := Hid.mk' hcall
          have hm := mono'.out (i + 1)
          have b1 : (i : Int) < (nv : Int) + 1 := by omega
          have b2 : nv + sm i + len ≤ 1000000 := by omega
          have b3 : (i : Int) < ((nv : Int) + 1) := by omega
          have n1 : IntKind.i64.wrap ((nv : Int) + (sm i : Int) + (len : Int)) = (nv : Int) + (sm i : Int) + (len : Int) := by rw [IntKind.wrap_i64]; omega
          have n2 : IntKind.i64.wrap ((h : Int) + 1) = (h : Int) + 1 := by rw [IntKind.wrap_i64]; omega
          have n3 : IntKind.i64.wrap ((i : Int) + 1) = (i : Int) + 1 := by rw [IntKind.wrap_i64]; omega
          have hsum' := Hid.mk' hsum
          clear hcall hm hsum
          obtain ⟨g', rfl⟩ : ∃ g', gk = g' + 1 := ⟨gk - 1, by omega⟩
          by_cases h0 : i = 0
          · subst h0
            rw [if_pos rfl]
            go_wp2_with (go_at_call 29; refine hcall'.out.mono ?_; rintro e w' ⟨rfl, rfl⟩)
            go_roundg g'
            case measure => omega
            case rel => exact ⟨1, by omega, by have := hsum'.out; rw [sm0] at this; rw [show sm 1 = 0 + len from this]; simp, by simp, rfl, rfl⟩
          · rw [if_neg h0]
            have p5 : decide (0 < i) = true := by simp; omega
            have p6 : decide (0 < (i : Int)) = true := by simp; omega
            have p7 : ((((h + 1 : Nat) : Int)) == ((h + 1 : Nat) : Int)) = true := by simp
            go_wp2_with (go_at_call 29; refine hcall'.out.mono ?_; rintro e w' ⟨rfl, rfl⟩)
            go_roundg g'
            case measure => omega
            case rel => exact ⟨i + 1, by omega, by have := hsum'.out; rw [this]; simp; omega, by rw [if_neg (by omega)]; simp, by simp, rfl⟩
        · obtain rfl : i = nv + 1 := by omega
          have hfull := full'.out
          rw [hfull, if_neg (by omega)]
          clear kid' mono' full' hfull
          go_wp2_with fail
          go_ret3
          exact ⟨rfl, rfl⟩
  rcases hr with ⟨rfl, -⟩ | hr
  · exact go true (.inl rfl)
  · exact go root (.inr (by simp; omega))

theorem count29 (d : Nat) (vd : Int) (hd : 2 ≤ d) (hd2 : d ≤ 32) (hvd : vd = d) : ∀ h : Nat, CountSays d vd h
  | 0 => count_zero d vd hd hd2 hvd
  | h + 1 => count_succ d h vd hd hd2 hvd (count29 d vd hd hd2 hvd h)
end Go.Proofs.Ytamnmoejjjaegaa
