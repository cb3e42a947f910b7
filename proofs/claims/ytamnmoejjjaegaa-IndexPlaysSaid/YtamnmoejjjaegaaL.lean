/- What Next returns. Conditions: the form of a tree of a degree of at most 32. -/
import Derived.Test.YtamnmoejjjaegaaV
import Derived.BigQuiet
set_option linter.unusedVariables false
set_option linter.unusedSimpArgs false
namespace Go.Proofs.Ytamnmoejjjaegaa
open Go Go.RowKit

theorem next_bare (v : Value) (k : ByteArray) (eq : Bool) (w : World) (h : Bare w v) : Calls Try.prog 16 #[v, .string k, .bool eq] w fun e w' => e = .returned (.tuple #[.string ⟨#[]⟩, .int .i64 0, .bool false]) ∧ w = w' := by
  have h' := Hid.mk' (none_bare v w h)
  clear h
  go_enter Try.func16, Try.ntmps16
  go_wp2_with (go_at_call 23; refine h'.out.mono ?_; rintro e w' ⟨rfl, rfl⟩)
  go_ret3
  exact ⟨rfl, rfl⟩

/-- The first key behind a key, or the key itself. -/
def nextM (k : ByteArray) (eq : Bool) (l : List E) : Option E := l.find? fun e => kl k e.1 || (eq && decide (e.1 = k))
theorem nextM_append (k : ByteArray) (eq : Bool) (a b : List E) : nextM k eq (a ++ b) = (nextM k eq a).or (nextM k eq b) := List.find?_append ..
theorem nextM_lt {k : ByteArray} {eq : Bool} {A : List E} (h : ∀ e ∈ A, kl e.1 k = true) : nextM k eq A = none :=
  List.find?_eq_none.2 fun e he => by
    have h1 := kl_asymm (h e he)
    have h2 := kl_ne (h e he)
    simp [h1, h2]
theorem nextM_gt {k : ByteArray} {eq : Bool} {B : List E} (h : ∀ e ∈ B, kl k e.1 = true) : nextM k eq B = B.head? := by
  cases B with
  | nil => rfl
  | cons e B => simp [nextM, h e (by simp)]
theorem nextM_hit {k : ByteArray} (y : Int) (B : List E) : nextM k true ((k, y) :: B) = some (k, y) := by simp [nextM]
theorem nextM_pass {k : ByteArray} (y : Int) (B : List E) : nextM k false ((k, y) :: B) = nextM k false B := by simp [nextM, kl_irrefl]

/-- The key at a place, with its value. -/
def pairAt (ks : List ByteArray) (vs : List Int) (j : Nat) : Option E := match ks[j]?, vs[j]? with
  | some x, some y => some (x, y)
  | _, _ => none

theorem descend2 {d h b : Nat} {t : BT} {S : Nat → Prop} {w : World} {k : ByteArray} {eq : Bool} (hd2 : d ≤ 32) (ht : Tree w h b t S) (hs : Shape d h t) (ha : Asc (flat h t)) :
    ∃ vk vv vc bs i f, Nd w b vk vv vc t.ks t.vs bs ∧ t.ks.length ≤ 63 ∧ t.vs.length = t.ks.length ∧ (h = 0 → bs = []) ∧ (0 < h → bs.length = t.ks.length + 1) ∧ i ≤ t.ks.length ∧
      Calls Try.prog 31 #[vk, .string k] w (fun e w' => e = .returned (.tuple #[.int .i64 (i : Int), .bool f]) ∧ w = w') ∧
      ((f = true ∧ eq = true ∧ ∃ y, t.vs[i]? = some y ∧ nextM k eq (flat h t) = some (k, y)) ∨
       ((f = true → eq = false) ∧ ∃ j nx, j = (if f then i + 1 else i) ∧ j ≤ t.ks.length ∧ nx = pairAt t.ks t.vs j ∧ (h = 0 → nextM k eq (flat h t) = nx) ∧
        ∀ h', h = h' + 1 → ∃ q c S2, bs[j]? = some q ∧ Tree w h' q c S2 ∧ Shape d h' c ∧ Asc (flat h' c) ∧ nextM k eq (flat h t) = (nextM k eq (flat h' c)).or nx)) := by
  obtain ⟨ks, vs, cs⟩ := t
  obtain ⟨K1, K2, hk, g1, g2⟩ := place k ks (keys_asc hs ha)
  obtain ⟨l1, l2, l3, l4⟩ := shape_len hs hd2
  simp only [BT.ks_node, BT.vs_node, BT.cs_node] at l1 l2 l3 l4
  subst hk
  obtain ⟨vk, vv, vc, bs, S', hN, s1, s2, s3, hK⟩ := ht.open
  simp only [BT.ks_node, BT.vs_node, BT.cs_node] at hN hK
  have hbl := hK.length
  have hb0 : h = 0 → bs = [] := fun h0 => by subst h0; exact hK.1
  have hb1 : 0 < h → bs.length = (K1 ++ K2).length + 1 := fun h0 => by
    obtain ⟨h', rfl⟩ : ∃ h', h = h' + 1 := ⟨h - 1, by omega⟩
    have := hs.2.2.1; simp only [BT.cs_node, BT.ks_node] at this; omega
  have kid : ∀ h' j c, h = h' + 1 → cs[j]? = some c → ∃ q S2, bs[j]? = some q ∧ Tree w h' q c S2 := fun h' j c h0 hc => by
    subst h0
    have hj : j < cs.length := (List.getElem?_eq_some_iff.1 hc).1
    obtain ⟨hj', -, S2, -, -, -, -, -, -, -, -, hT, -⟩ := Forest.pick j bs cs S' hK (by omega)
    rw [List.getElem?_eq_getElem hj'] at hc
    cases hc
    exact ⟨bs[j]'(by omega), S2, List.getElem?_eq_getElem (by omega), hT⟩
  rcases g2 with ⟨K3, rfl, g2⟩ | g2
  · obtain ⟨V1, y, V3, rfl, hv⟩ := cut1 vs K1.length (by simp at l4; omega)
    simp only [List.length_append, List.length_cons] at l1 l4
    refine ⟨vk, vv, vc, bs, K1.length, true, hN, by simp; omega, by simp; omega, hb0, hb1, by simp, find_yes hN (by simp; omega) g1 g2, ?_⟩
    obtain ⟨A, B, hf⟩ := flat_hit d h K1 K3 V1 V3 cs k y hs hv
    have ha2 := ha
    rw [hf y] at ha2
    obtain ⟨gA, gB⟩ := asc_hit ha2
    cases eq
    · refine .inr ⟨fun _ => rfl, K1.length + 1, _, rfl, by simp, rfl, fun h0 => ?_, fun h' h0 => ?_⟩
      · subst h0
        have ef : flat 0 (.node (K1 ++ k :: K3) (V1 ++ y :: V3) cs) = K1.zip V1 ++ (k, y) :: K3.zip V3 := zip_app _ _ _ _ hv.symm
        have gL : ∀ e ∈ K1.zip V1, kl e.1 k = true := fun e he => g1 _ (mem_zip_fst e he)
        have gR : ∀ e ∈ K3.zip V3, kl k e.1 = true := fun e he => g2 _ (mem_zip_fst e he)
        rw [ef, nextM_append, nextM_lt gL, Option.none_or, nextM_pass, nextM_gt gR]
        rcases K3 with _ | ⟨x, K3⟩
        · simp [pairAt]
        · rcases V3 with _ | ⟨z, V3⟩
          · simp at l4; omega
          · simp [pairAt, get_at1, hv]
      · subst h0
        obtain ⟨e1, e2, e3, e4⟩ := hs
        simp only [BT.ks_node, BT.vs_node, BT.cs_node, List.length_append, List.length_cons] at e1 e2 e3
        obtain ⟨C1, c, C3, rfl, hc1⟩ := cut1 cs K1.length (by omega)
        rcases C3 with _ | ⟨c', C4⟩
        · simp at e3; omega
        simp only [List.length_append, List.length_cons] at e3
        obtain ⟨q, S2, hq, hT⟩ := kid h' (K1.length + 1) c' rfl (get_at1 hc1)
        have hk := e4 c' (by simp)
        have hfl := flat_two h' K1 K3 V1 V3 C1 C4 c c' k y hv hc1
        rw [hfl] at ha
        obtain ⟨gA, gB⟩ := asc_hit ha
        have ar := (List.pairwise_cons.1 ha.right).2
        refine ⟨q, c', S2, hq, hT, hk.2, Asc.left ar, ?_⟩
        rw [hfl, nextM_append, nextM_lt gA, Option.none_or, nextM_pass, nextM_append]
        congr 1
        rw [nextM_gt fun e he => gB e (by simp [he])]
        rcases K3 with _ | ⟨x, K3⟩
        · obtain rfl : V3 = [] := List.length_eq_zero_iff.1 (by simp at e1; omega)
          obtain rfl : C4 = [] := List.length_eq_zero_iff.1 (by simp at e3; omega)
          simp [pairAt, Rt_nil]
        · rcases V3 with _ | ⟨z, V3⟩
          · simp at e1; omega
          · rcases C4 with _ | ⟨c2, C4⟩
            · simp at e3; omega
            · rw [Rt_cons]; simp [pairAt, get_at1, hv]
    · exact .inl ⟨rfl, rfl, y, get_at hv, by rw [hf y, nextM_append, nextM_lt gA, Option.none_or, nextM_hit]⟩
  · refine ⟨vk, vv, vc, bs, K1.length, false, hN, l1, l4, hb0, hb1, by simp, find_no hN (by omega) g1 g2, .inr ⟨fun h => (by cases h), K1.length, _, rfl, by simp, rfl, fun h0 => ?_, fun h' h0 => ?_⟩⟩
    · subst h0
      obtain ⟨V1, V2, rfl, hv⟩ := cut vs K1.length (by simp at l4; omega)
      have ef : flat 0 (.node (K1 ++ K2) (V1 ++ V2) cs) = K1.zip V1 ++ K2.zip V2 := zip_app _ _ _ _ hv.symm
      have gL : ∀ e ∈ K1.zip V1, kl e.1 k = true := fun e he => g1 _ (mem_zip_fst e he)
      have gR : ∀ e ∈ K2.zip V2, kl k e.1 = true := fun e he => g2 _ (mem_zip_fst e he)
      rw [ef, nextM_append, nextM_lt gL, Option.none_or, nextM_gt gR]
      rcases K2 with _ | ⟨x, K2⟩
      · simp [pairAt]
      · rcases V2 with _ | ⟨z, V2⟩
        · simp at l4; omega
        · simp [pairAt, get_at, hv]
    · subst h0
      obtain ⟨e1, e2, e3, e4⟩ := hs
      simp only [BT.ks_node, BT.vs_node, BT.cs_node, List.length_append] at e1 e2 e3
      obtain ⟨V1, V2, rfl, hv⟩ := cut vs K1.length (by omega)
      obtain ⟨C1, c, C2, rfl, hc1⟩ := cut1 cs K1.length (by omega)
      simp only [List.length_append, List.length_cons] at e1 e3
      have hk := e4 c (by simp)
      obtain ⟨q, S2, hq, hT⟩ := kid h' K1.length c rfl (get_at hc1)
      have hfl := flat_at h' K1 K2 V1 V2 C1 C2 c hv hc1
      rw [hfl] at ha
      refine ⟨q, c, S2, hq, hT, hk.2, ha.left.right, ?_⟩
      rw [hfl, nextM_append, nextM_append, nextM_lt (Lf_lt hv hc1 ha.left.left g1), Option.none_or, nextM_gt (Rt_gt (by omega) (by omega) ha.right g2)]
      congr 1
      rcases K2 with _ | ⟨x, K2⟩
      · obtain rfl : V2 = [] := List.length_eq_zero_iff.1 (by simp at e1; omega)
        obtain rfl : C2 = [] := List.length_eq_zero_iff.1 (by simp at e3; omega)
        simp [pairAt, Rt_nil]
      · rcases V2 with _ | ⟨z, V2⟩
        · simp at e1; omega
        · rcases C2 with _ | ⟨c2, C2⟩
          · simp at e3; omega
          · rw [Rt_cons]; simp [pairAt, get_at, hv]

/-- What Next returns of a pair. -/
def keyO (o : Option E) : ByteArray := match o with | some e => e.1 | none => ⟨#[]⟩
def valO (o : Option E) : Int := match o with | some e => e.2 | none => 0

set_option maxHeartbeats 16000000 in
set_option maxRecDepth 100000 in
theorem next16 (p d : Nat) (l : List E) (k : ByteArray) (eq : Bool) (S : Nat → Prop) (w : World) (hd2 : d ≤ 32) (h : TreeAt w p d l S) :
    Calls Try.prog 16 #[.pointer (some ⟨p, 0, none⟩), .string k, .bool eq] w fun e w' => e = .returned (.tuple #[.string (keyO (nextM k eq l)), .int .i64 (valO (nextM k eq l)), .bool (nextM k eq l).isSome]) ∧ Chg NoB w w' := by
  obtain ⟨b, h, t, S', h1, ht, hs, rfl, ha, -⟩ := h
  obtain ⟨c0, c1, c2, -⟩ := blk_cells h1
  have h' := Hid.mk' (none_not p b w c0)
  obtain ⟨res, hres⟩ : ∃ res, nextM k eq (flat h t) = res := ⟨_, rfl⟩
  rw [hres]
  have start := Hid.mk' (⟨t, S', ht, hs, ha, hres⟩ : ∃ (t' : BT) (S' : Nat → Prop), Tree w h b t' S' ∧ Shape d h t' ∧ Asc (flat h t') ∧ nextM k eq (flat h t') = res)
  clear h1 ht hs ha hres
  go_enter Try.func16, Try.ntmps16
  go_wp2_with (go_at_call 23; refine h'.out.mono ?_; rintro e w' ⟨rfl, rfl⟩)
  go_loopg [9, 10, 11, 12] h (fun gq s9 s10 s11 s12 wr => ∃ (b' : Nat) (t' : BT) (S' : Nat → Prop) (o : Option E), s9 = .string (keyO o) ∧ s10 = .int .i64 (valO o) ∧ s11 = .bool o.isSome ∧ s12 = .pointer (some ⟨b', 0, none⟩) ∧ Tree wr gq b' t' S' ∧ Shape d gq t' ∧ Asc (flat gq t') ∧ (nextM k eq (flat gq t')).or o = res ∧ Chg NoB w wr)
  case atStart =>
    obtain ⟨t, S', z1, z2, z3, z4⟩ := start.out
    exact ⟨b, t, S', none, rfl, rfl, rfl, rfl, z1, z2, z3, by rw [z4, Option.or_none], Chg.refl _ _⟩
  case round =>
    obtain ⟨b', t', S', o, rfl, rfl, rfl, rfl, ht, hs, ha, hres, kw⟩ := hrel
    obtain ⟨vk, vv, vc, bs, i, f, hN, l1, l2, hb0, hb1, i63, hf, hcase⟩ := descend2 (k := k) (eq := eq) hd2 ht hs ha
    obtain ⟨ak, nk, ck, av, nv, cv, ac, nc, cc, rfl, rfl, rfl, lk0, lv0, lc0⟩ := hN.form'
    have e0 := hN.c0
    have e1 := hN.c1
    have e2 := hN.c2
    have i64 : i ≤ 63 := by omega
    have hf' := Hid.mk' hf
    have kw' := Hid.mk' kw
    obtain ⟨ok, hok⟩ : ∃ x, keyO o = x := ⟨_, rfl⟩
    obtain ⟨ov, hov⟩ : ∃ x, valO o = x := ⟨_, rfl⟩
    obtain ⟨os, hos⟩ : ∃ x, o.isSome = x := ⟨_, rfl⟩
    rw [hok, hov, hos]
    have m1 : IntKind.i64.wrap ((i : Int) + 1) = (i : Int) + 1 := by rw [IntKind.wrap_i64]; omega
    rcases hcase with ⟨rfl, rfl, y, hy, hg⟩ | ⟨hfe, j, nx, hj, hjl, hnx, hz, hsucc⟩
    · have hi2 : i < t'.vs.length := (List.getElem?_eq_some_iff.1 hy).1
      obtain ⟨gv, rfl, -, hc, -, -⟩ := hN.rv.at (by simp; omega)
      have ec : wr.cell? ⟨gv, i, none⟩ = some (.int .i64 y) := hc _ _ (by rw [List.getElem?_map, hy]; rfl)
      have b1 : (i : Int) < (nv : Int) := by have := lv0.out; omega
      rw [hg] at hres
      simp only [Option.some_or] at hres
      subst hres
      clear hN ht hs ha hg hf hc hb0 hb1 start kw lk0 lv0 lc0 hok hov hos
      go_wp2_with (go_at_call 31; refine hf'.out.mono ?_; rintro e w' ⟨rfl, rfl⟩)
      go_quiet (fail)
      go_wp2_with fail
      go_ret3
      exact ⟨rfl, kw'.out.drewN _⟩
    · have hj63 : j ≤ 63 := by omega
      cases f
      · obtain rfl : i = j := hj.symm
        clear hj
        clear hfe
        by_cases hlt : i < t'.ks.length
        · obtain ⟨x, hx⟩ : ∃ x, t'.ks[i]? = some x := ⟨_, List.getElem?_eq_getElem hlt⟩
          obtain ⟨y, hy⟩ : ∃ y, t'.vs[i]? = some y := ⟨_, List.getElem?_eq_getElem (by omega)⟩
          obtain rfl : nx = some (x, y) := by rw [hnx, pairAt, hx, hy]
          obtain ⟨hk, rfl, -, hck, -, -⟩ := hN.rk.at (by simp; omega)
          obtain ⟨gv, rfl, -, hc, -, -⟩ := hN.rv.at (by simp; omega)
          have ec0 : wr.cell? ⟨hk, i, none⟩ = some (.string x) := hck _ _ (by rw [List.getElem?_map, hx]; rfl)
          have ec1 : wr.cell? ⟨gv, i, none⟩ = some (.int .i64 y) := hc _ _ (by rw [List.getElem?_map, hy]; rfl)
          have b1 : (i : Int) < (nv : Int) := by have := lv0.out; omega
          have b2 : (i : Int) < (nk : Int) := by have := lk0.out; omega
          have b3 : decide ((i : Int) < (nk : Int)) = true := by simp; omega
          clear hck hc hx hy hnx
          cases gk with
          | zero =>
            have hz := hz rfl
            rw [hz] at hres
            simp only [Option.some_or] at hres
            subst hres
            obtain rfl : nc = 0 := by rw [lc0.out, hb0 rfl]; rfl
            clear hN ht hs ha hf hb0 hb1 start hz hsucc kw lk0 lv0 lc0 hok hov hos hjl hlt
            have e2d : ∀ n, (wr.drewN n).cell? ⟨b', 2, none⟩ = some (.slice ac 0 cc) := fun n => e2
            go_wp2_with (go_at_call 31; refine hf'.out.mono ?_; rintro e w' ⟨rfl, rfl⟩)
            go_quiet (fail)
            go_wp2_with (go_at_call 25; refine (leaf_yes b' _ _ _ (e2d _)).mono ?_; rintro e w' ⟨rfl, rfl⟩)
            go_ret3
            exact ⟨rfl, kw'.out.drewN _⟩
          | succ g =>
            obtain ⟨q, c, S2, hq, hT, hsc, hac, hgc⟩ := hsucc g rfl
            have hbl := hb1 (by omega)
            have hi2 : i < bs.length := (List.getElem?_eq_some_iff.1 hq).1
            obtain ⟨gc, rfl, -, hc, -, -⟩ := hN.rc.at (by simp; omega)
            have ec : wr.cell? ⟨gc, i, none⟩ = some (.pointer (some ⟨q, 0, none⟩)) := hc _ _ (by rw [List.getElem?_map, hq]; rfl)
            have b5 : 0 < nc := by have := lc0.out; omega
            have b6 : (i : Int) < (nc : Int) := by have := lc0.out; omega
            have e2d : ∀ n, (wr.drewN n).cell? ⟨b', 2, none⟩ = some (.slice (some ⟨gc, 0, none⟩) nc cc) := fun n => e2
            rw [hgc, Option.or_assoc] at hres
            simp only [Option.some_or] at hres
            have hT' := Hid.mk' hT
            have hsc' := Hid.mk' hsc
            have hac' := Hid.mk' hac
            have hres' := Hid.mk' hres
            have hok' := Hid.mk' hok
            have hov' := Hid.mk' hov
            have hos' := Hid.mk' hos
            clear hN ht hs ha hf hb0 hb1 start hz hsucc hres hT hsc hac hgc hc hq kw lk0 lv0 lc0 hjl hlt hbl hi2 hok hov hos
            go_wp2_with (go_at_call 31; refine hf'.out.mono ?_; rintro e w' ⟨rfl, rfl⟩)
            go_quiet (fail)
            go_wp2_with (go_at_call 25; refine (leaf_no b' _ _ _ _ (e2d _) b5).mono ?_; rintro e w' ⟨rfl, rfl⟩)
            go_roundg g
            case measure => omega
            case rel => exact ⟨q, c, S2, some (x, y), rfl, rfl, rfl, rfl, hT'.out.chg ((Chg.refl NoB _).drewN _) _ _ _ _ (fun _ _ h => h), hsc'.out, hac'.out, hres'.out, kw'.out.drewN _⟩
        · obtain rfl : nx = none := by rw [hnx, pairAt, List.getElem?_eq_none (by omega)]
          have b3 : decide ((i : Int) < (nk : Int)) = false := by have := lk0.out; simp; omega
          have b4 : ¬ ((i : Int) < (nk : Int)) := by have := lk0.out; omega
          clear hnx
          cases gk with
          | zero =>
            have hz := hz rfl
            rw [hz, Option.none_or] at hres
            subst hres
            obtain rfl : nc = 0 := by rw [lc0.out, hb0 rfl]; rfl
            clear hN ht hs ha hf hb0 hb1 start hz hsucc kw lk0 lv0 lc0 hjl hlt
            go_wp2_with (first | (go_at_call 31; refine hf'.out.mono ?_; rintro e w' ⟨rfl, rfl⟩) | (go_at_call 25; refine (leaf_yes b' _ _ _ e2).mono ?_; rintro e w' ⟨rfl, rfl⟩))
            go_ret3
            subst hok hov hos
            exact ⟨rfl, kw'.out⟩
          | succ g =>
            obtain ⟨q, c, S2, hq, hT, hsc, hac, hgc⟩ := hsucc g rfl
            have hbl := hb1 (by omega)
            have hi2 : i < bs.length := (List.getElem?_eq_some_iff.1 hq).1
            obtain ⟨gc, rfl, -, hc, -, -⟩ := hN.rc.at (by simp; omega)
            have ec : wr.cell? ⟨gc, i, none⟩ = some (.pointer (some ⟨q, 0, none⟩)) := hc _ _ (by rw [List.getElem?_map, hq]; rfl)
            have b5 : 0 < nc := by have := lc0.out; omega
            have b6 : (i : Int) < (nc : Int) := by have := lc0.out; omega
            have e2d : ∀ n, (wr.drewN n).cell? ⟨b', 2, none⟩ = some (.slice (some ⟨gc, 0, none⟩) nc cc) := fun n => e2
            rw [hgc, Option.or_none] at hres
            have hT' := Hid.mk' hT
            have hsc' := Hid.mk' hsc
            have hac' := Hid.mk' hac
            have hres' := Hid.mk' hres
            have hok' := Hid.mk' hok
            have hov' := Hid.mk' hov
            have hos' := Hid.mk' hos
            clear hN ht hs ha hf hb0 hb1 start hz hsucc hres hT hsc hac hgc hc hq kw lk0 lv0 lc0 hjl hlt hbl hi2 hok hov hos
            go_wp2_with (first | (go_at_call 31; refine hf'.out.mono ?_; rintro e w' ⟨rfl, rfl⟩) | (go_at_call 25; refine (leaf_no b' _ _ _ _ e2 b5).mono ?_; rintro e w' ⟨rfl, rfl⟩))
            go_roundg g
            case measure => omega
            case rel => exact ⟨q, c, S2, o, by rw [hok'.out], by rw [hov'.out], by rw [hos'.out], rfl, hT'.out, hsc'.out, hac'.out, hres'.out, kw'.out⟩
      · obtain rfl : j = i + 1 := hj
        obtain rfl := hfe rfl
        clear hfe
        have m0 : (0 : Int) ≤ (i : Int) + 1 := by omega
        have m9 : ((i : Int) + 1).toNat = i + 1 := by omega
        by_cases hlt : i + 1 < t'.ks.length
        · obtain ⟨x, hx⟩ : ∃ x, t'.ks[i + 1]? = some x := ⟨_, List.getElem?_eq_getElem hlt⟩
          obtain ⟨y, hy⟩ : ∃ y, t'.vs[i + 1]? = some y := ⟨_, List.getElem?_eq_getElem (by omega)⟩
          obtain rfl : nx = some (x, y) := by rw [hnx, pairAt, hx, hy]
          obtain ⟨hk, rfl, -, hck, -, -⟩ := hN.rk.at (by simp; omega)
          obtain ⟨gv, rfl, -, hc, -, -⟩ := hN.rv.at (by simp; omega)
          have ec0 : wr.cell? ⟨hk, i + 1, none⟩ = some (.string x) := hck _ _ (by rw [List.getElem?_map, hx]; rfl)
          have ec1 : wr.cell? ⟨gv, i + 1, none⟩ = some (.int .i64 y) := hc _ _ (by rw [List.getElem?_map, hy]; rfl)
          have b1 : (i : Int) + 1 < (nv : Int) := by have := lv0.out; omega
          have b2 : (i : Int) + 1 < (nk : Int) := by have := lk0.out; omega
          have b3 : decide ((i : Int) + 1 < (nk : Int)) = true := by simp; omega
          clear hck hc hx hy hnx
          cases gk with
          | zero =>
            have hz := hz rfl
            rw [hz] at hres
            simp only [Option.some_or] at hres
            subst hres
            obtain rfl : nc = 0 := by rw [lc0.out, hb0 rfl]; rfl
            clear hN ht hs ha hf hb0 hb1 start hz hsucc kw lk0 lv0 lc0 hok hov hos hjl hlt
            have e2d : ∀ n, (wr.drewN n).cell? ⟨b', 2, none⟩ = some (.slice ac 0 cc) := fun n => e2
            go_wp2_with (go_at_call 31; refine hf'.out.mono ?_; rintro e w' ⟨rfl, rfl⟩)
            go_quiet (fail)
            go_wp2_with (go_at_call 25; refine (leaf_yes b' _ _ _ (e2d _)).mono ?_; rintro e w' ⟨rfl, rfl⟩)
            go_ret3
            exact ⟨rfl, kw'.out.drewN _⟩
          | succ g =>
            obtain ⟨q, c, S2, hq, hT, hsc, hac, hgc⟩ := hsucc g rfl
            have hbl := hb1 (by omega)
            have hi2 : i + 1 < bs.length := (List.getElem?_eq_some_iff.1 hq).1
            obtain ⟨gc, rfl, -, hc, -, -⟩ := hN.rc.at (by simp; omega)
            have ec : wr.cell? ⟨gc, i + 1, none⟩ = some (.pointer (some ⟨q, 0, none⟩)) := hc _ _ (by rw [List.getElem?_map, hq]; rfl)
            have b5 : 0 < nc := by have := lc0.out; omega
            have b6 : (i : Int) + 1 < (nc : Int) := by have := lc0.out; omega
            have e2d : ∀ n, (wr.drewN n).cell? ⟨b', 2, none⟩ = some (.slice (some ⟨gc, 0, none⟩) nc cc) := fun n => e2
            rw [hgc, Option.or_assoc] at hres
            simp only [Option.some_or] at hres
            have hT' := Hid.mk' hT
            have hsc' := Hid.mk' hsc
            have hac' := Hid.mk' hac
            have hres' := Hid.mk' hres
            have hok' := Hid.mk' hok
            have hov' := Hid.mk' hov
            have hos' := Hid.mk' hos
            clear hN ht hs ha hf hb0 hb1 start hz hsucc hres hT hsc hac hgc hc hq kw lk0 lv0 lc0 hjl hlt hbl hi2 hok hov hos
            go_wp2_with (go_at_call 31; refine hf'.out.mono ?_; rintro e w' ⟨rfl, rfl⟩)
            go_quiet (fail)
            go_wp2_with (go_at_call 25; refine (leaf_no b' _ _ _ _ (e2d _) b5).mono ?_; rintro e w' ⟨rfl, rfl⟩)
            go_roundg g
            case measure => omega
            case rel => exact ⟨q, c, S2, some (x, y), rfl, rfl, rfl, rfl, hT'.out.chg ((Chg.refl NoB _).drewN _) _ _ _ _ (fun _ _ h => h), hsc'.out, hac'.out, hres'.out, kw'.out.drewN _⟩
        · obtain rfl : nx = none := by rw [hnx, pairAt, List.getElem?_eq_none (by omega)]
          have b3 : decide ((i : Int) + 1 < (nk : Int)) = false := by have := lk0.out; simp; omega
          have b4 : ¬ ((i : Int) + 1 < (nk : Int)) := by have := lk0.out; omega
          clear hnx
          cases gk with
          | zero =>
            have hz := hz rfl
            rw [hz, Option.none_or] at hres
            subst hres
            obtain rfl : nc = 0 := by rw [lc0.out, hb0 rfl]; rfl
            clear hN ht hs ha hf hb0 hb1 start hz hsucc kw lk0 lv0 lc0 hjl hlt
            go_wp2_with (first | (go_at_call 31; refine hf'.out.mono ?_; rintro e w' ⟨rfl, rfl⟩) | (go_at_call 25; refine (leaf_yes b' _ _ _ e2).mono ?_; rintro e w' ⟨rfl, rfl⟩))
            go_ret3
            subst hok hov hos
            exact ⟨rfl, kw'.out⟩
          | succ g =>
            obtain ⟨q, c, S2, hq, hT, hsc, hac, hgc⟩ := hsucc g rfl
            have hbl := hb1 (by omega)
            have hi2 : i + 1 < bs.length := (List.getElem?_eq_some_iff.1 hq).1
            obtain ⟨gc, rfl, -, hc, -, -⟩ := hN.rc.at (by simp; omega)
            have ec : wr.cell? ⟨gc, i + 1, none⟩ = some (.pointer (some ⟨q, 0, none⟩)) := hc _ _ (by rw [List.getElem?_map, hq]; rfl)
            have b5 : 0 < nc := by have := lc0.out; omega
            have b6 : (i : Int) + 1 < (nc : Int) := by have := lc0.out; omega
            have e2d : ∀ n, (wr.drewN n).cell? ⟨b', 2, none⟩ = some (.slice (some ⟨gc, 0, none⟩) nc cc) := fun n => e2
            rw [hgc, Option.or_none] at hres
            have hT' := Hid.mk' hT
            have hsc' := Hid.mk' hsc
            have hac' := Hid.mk' hac
            have hres' := Hid.mk' hres
            have hok' := Hid.mk' hok
            have hov' := Hid.mk' hov
            have hos' := Hid.mk' hos
            clear hN ht hs ha hf hb0 hb1 start hz hsucc hres hT hsc hac hgc hc hq kw lk0 lv0 lc0 hjl hlt hbl hi2 hok hov hos
            go_wp2_with (first | (go_at_call 31; refine hf'.out.mono ?_; rintro e w' ⟨rfl, rfl⟩) | (go_at_call 25; refine (leaf_no b' _ _ _ _ e2 b5).mono ?_; rintro e w' ⟨rfl, rfl⟩))
            go_roundg g
            case measure => omega
            case rel => exact ⟨q, c, S2, o, by rw [hok'.out], by rw [hov'.out], by rw [hos'.out], rfl, hT'.out, hsc'.out, hac'.out, hres'.out, kw'.out⟩
end Go.Proofs.Ytamnmoejjjaegaa
