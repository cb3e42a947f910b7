/- What the law IndexChecks returns: true, for every degree and every slice of calls. No conditions. -/
import Derived.Test.YtamnmoejjjaegaaI
set_option linter.unusedVariables false
set_option linter.unusedSimpArgs false
namespace Go.Proofs.Ytamnmoejjjaegaa
open Go Go.RowKit Go.Proofs.YtamnmoejjjaegaaW.PrintLast Go.Proofs.YtamnmoejjjaegaaW.PrintWords

theorem insM_le (k : ByteArray) (v : Int) (l : List E) : (insM k v l).length ≤ l.length + 1 := by
  induction l with
  | nil => simp [insM]
  | cons e l ih =>
    rw [insM]
    split
    · simp; omega
    · split <;> simp
theorem delM_le (k : ByteArray) (l : List E) : (delM k l).length ≤ l.length := List.length_filter_le _ _

set_option maxHeartbeats 8000000 in
set_option maxRecDepth 100000 in
theorem checks3 (d : Int) (A : Option Addr) (n c : Nat) (l : List St) (w : World) (h : Steps w A n l) :
    Calls Try.prog 3 #[.int .i64 d, .slice A n c] w fun e w' => e = .returned (.bool true) ∧ Chg NoB w w' := by
  have few : ∀ W, Chg NoB w W → Calls Try.prog 9 #[.slice A n c, .int .i64 300] W fun e w' => e = .returned (.bool (fewB 300 l)) ∧ W = w' := fun W hW => few9 A n c 300 l W (h.chg hW) (by omega)
  have few' := Hid.mk' few
  have lv := Hid.mk' (lives8 w)
  obtain ⟨r, hr⟩ : ∃ r, fewB 300 l = r := ⟨_, rfl⟩
  have hr' := Hid.mk' hr
  have h' := Hid.mk' h
  have kw := Hid.mk' (Chg.refl NoB w)
  rw [hr] at few few'
  clear few hr h
  by_cases h1 : r = true ∧ 2 ≤ d ∧ d ≤ 32
  · obtain ⟨rfl, hd, hd2⟩ := h1
    obtain ⟨dd, rfl⟩ := Int.eq_ofNat_of_zero_le (show 0 ≤ d by omega)
    have hd' : 2 ≤ dd := by omega
    have hd2' : dd ≤ 32 := by omega
    have b1 : ¬ ((dd : Int) < 2) := by omega
    have b2 : ¬ (32 < (dd : Int)) := by omega
    have b1' : decide ((dd : Int) < 2) = false := by simp; omega
    have b2' : decide (32 < (dd : Int)) = false := by simp; omega
    have b1'' : decide (dd < 2) = false := by simp; omega
    have b2'' : decide (32 < dd) = false := by simp; omega
    have n300 : n ≤ 300 := by
      have := hr'.out
      simp only [fewB, Bool.and_eq_true, decide_eq_true_eq] at this
      have := h'.out.1
      omega
    go_enter Try.func3, Try.ntmps3
    go_wp2_with fail
    refine lv.out.mono ?_
    rintro e w1 ⟨rfl, k1⟩
    have k1' := Hid.mk' k1
    go_wp2_with fail
    refine (few'.out _ k1).mono ?_
    rintro e w2 ⟨rfl, rfl⟩
    go_wp2_with fail
    refine (TS.new k1 dd dd hd' hd2' rfl).mono ?_
    rintro e w2 ⟨p0, rfl, t0⟩
    have t0' := Hid.mk' t0
    clear t0 k1
    go_wp2_with fail
    go_loopg [5, 6] n (fun gq s5 s6 wr => ∃ i p L, i + gq = n ∧ s5 = .pointer (some ⟨p, 0, none⟩) ∧ s6 = .int .i64 (i : Int) ∧ TS w wr p dd L ∧ L.length ≤ i)
    case atStart => exact ⟨0, p0, [], by omega, rfl, rfl, t0'.out, by simp⟩
    case round =>
      clear t0'
      obtain ⟨i, p, L, hgi, rfl, rfl, ts, hL⟩ := hrel
      have ts' := Hid.mk' ts
      have n3 : IntKind.i64.wrap ((i : Int) + 1) = (i : Int) + 1 := by rw [IntKind.wrap_i64]; omega
      by_cases hi : i < n
      · have hi2 : i < l.length := by have := h'.out.1; omega
        obtain ⟨s, hsi⟩ : ∃ s, l[i]? = some s := ⟨_, List.getElem?_eq_getElem hi2⟩
        obtain ⟨a, rfl, e0, e1, e2, e3⟩ := (h'.out.chg ts.2).2 i s hsi
        obtain ⟨kind, key, val, eq⟩ := s
        simp only at e0 e1 e2 e3
        have b3 : (i : Int) < (n : Int) := by omega
        obtain ⟨g', rfl⟩ : ∃ g', gk = g' + 1 := ⟨gk - 1, by omega⟩
        have hL1 : L.length ≤ 1000000 := by omega
        clear ts hsi hi2
        by_cases hk1 : kind = 1
        · subst hk1
          have hdl := delM_le key L
          go_wp2_with fail
          refine (ts'.out.del key hd' hd2' hL1).mono ?_
          rintro e w3 ⟨rfl, t3⟩
          have t3' := Hid.mk' t3
          clear e0 e1 e2 e3
          go_wp2_with fail
          refine (t3.check hd' hd2' (by omega)).mono ?_
          rintro e w4 ⟨rfl, t4⟩
          have t4' := Hid.mk' t4
          clear t3 t4
          go_wp2_with fail
          go_roundg g'
          case measure => omega
          case rel => exact ⟨i + 1, p, _, by omega, rfl, by simp, t4'.out, by omega⟩
        · have c1 : (kind == 1) = false := by rw [beq_eq_false_iff_ne]; exact hk1
          by_cases hk5 : kind = 5
          · subst hk5
            go_wp2_with fail
            refine (ts'.out.clone hd2').mono ?_
            rintro e w3 ⟨p3, rfl, t3⟩
            have t3' := Hid.mk' t3
            clear e0 e1 e2 e3
            go_wp2_with fail
            refine (t3.check hd' hd2' hL1).mono ?_
            rintro e w4 ⟨rfl, t4⟩
            have t4' := Hid.mk' t4
            clear t3 t4
            go_wp2_with fail
            go_roundg g'
            case measure => omega
            case rel => exact ⟨i + 1, p3, L, by omega, rfl, by simp, t4'.out, by omega⟩
          · have c5 : (kind == 5) = false := by rw [beq_eq_false_iff_ne]; exact hk5
            have hil := insM_le key val L
            have put1 : Hid (Calls Try.prog 13 #[.pointer (some ⟨p, 0, none⟩), .string key, .int .i64 val] wr fun e w' => (∃ o f, e = .returned (.tuple #[.int .i64 o, .bool f])) ∧ TS w w' p dd (insM key val L)) := (ts'.out.put key val hd' hd2' hL1).mono fun e w' ⟨he, h⟩ => ⟨⟨_, _, he⟩, h⟩
            have put2 : Hid (Calls Try.prog 13 #[.pointer (some ⟨p, 0, none⟩), .string key, .int .i64 val] wr.drew fun e w' => (∃ o f, e = .returned (.tuple #[.int .i64 o, .bool f])) ∧ TS w w' p dd (insM key val L)) := ((ts'.out.chg (Chg.refl NoB wr).drew).put key val hd' hd2' hL1).mono fun e w' ⟨he, h⟩ => ⟨⟨_, _, he⟩, h⟩
            go_upto_region 10 with (fail)
            refine start_ (n := 12) (S := fun w' => w'.cell? ⟨(a.add (i * 4)).block, (a.add (i * 4)).off + 1, none⟩ = some (.string key) ∧ w'.cell? ⟨(a.add (i * 4)).block, (a.add (i * 4)).off + 2, none⟩ = some (.int .i64 val)) (ds := [11]) #[false, false, false, false, false, false, false, false, false, false, false, false] (by kernel_rfl) rfl rfl ⟨e1, e2⟩ (fun hHeld => ?_)
            refine pure_ (i := 0) (N := some 33) (v := ?_) (a' := ?_) #[true, false, false, false, false, false, false, false, false, false, false, false] rfl rfl (by kernel_rfl) (fun _ _ _ h => h) (Or.inl ⟨by rfl, ?_⟩) ?_ ?_
            rotate_left
            · intro w'
              go_simp
              with_reducible rfl
            rotate_left
            · simp only [Act.put, List.setIfInBounds_toArray, List.set_cons_zero, List.set_cons_succ, i64_w, i32_w]
              rfl
            refine pure_ (i := 1) (N := some 34) (v := ?_) (a' := ?_) #[true, true, false, false, false, false, false, false, false, false, false, false] rfl rfl (by kernel_rfl) (fun _ _ _ h => h) (Or.inl ⟨by rfl, ?_⟩) ?_ ?_
            rotate_left
            · intro w'
              go_simp
              with_reducible rfl
            rotate_left
            · simp only [Act.put, List.setIfInBounds_toArray, List.set_cons_zero, List.set_cons_succ, i64_w, i32_w]
              rfl
            refine pure_ (i := 2) (N := some 35) (v := ?_) (a' := ?_) #[true, true, true, false, false, false, false, false, false, false, false, false] rfl rfl (by kernel_rfl) (fun _ _ _ h => h) (Or.inl ⟨by rfl, ?_⟩) ?_ ?_
            rotate_left
            · intro w'
              go_simp
              with_reducible rfl
            rotate_left
            · simp only [Act.put, List.setIfInBounds_toArray, List.set_cons_zero, List.set_cons_succ, i64_w, i32_w]
              rfl
            refine pure_ (i := 3) (N := some 36) (v := ?_) (a' := ?_) #[true, true, true, true, false, false, false, false, false, false, false, false] rfl rfl (by kernel_rfl) (fun _ _ _ h => h) (Or.inl ⟨by rfl, ?_⟩) ?_ ?_
            rotate_left
            · intro w'
              go_simp
              with_reducible rfl
            rotate_left
            · simp only [Act.put, List.setIfInBounds_toArray, List.set_cons_zero, List.set_cons_succ, i64_w, i32_w]
              rfl
            refine pure_ (i := 4) (N := some 37) (v := ?_) (a' := ?_) #[true, true, true, true, true, false, false, false, false, false, false, false] rfl rfl (by kernel_rfl) (fun _ _ _ h => h) (Or.inl ⟨by rfl, ?_⟩) ?_ ?_
            rotate_left
            · intro w'
              go_simp
              with_reducible rfl
            rotate_left
            · simp only [Act.put, List.setIfInBounds_toArray, List.set_cons_zero, List.set_cons_succ, i64_w, i32_w]
              rfl
            refine pure_ (i := 6) (N := some 39) (v := ?_) (a' := ?_) #[true, true, true, true, true, false, true, false, false, false, false, false] rfl rfl (by kernel_rfl) (fun _ _ _ h => h) (Or.inl ⟨by rfl, ?_⟩) ?_ ?_
            rotate_left
            · intro w'
              go_simp
              with_reducible rfl
            rotate_left
            · simp only [Act.put, List.setIfInBounds_toArray, List.set_cons_zero, List.set_cons_succ, i64_w, i32_w]
              rfl
            refine pure_ (i := 7) (N := some 40) (v := ?_) (a' := ?_) #[true, true, true, true, true, false, true, true, false, false, false, false] rfl rfl (by kernel_rfl) (fun _ _ _ h => h) (Or.inl ⟨by rfl, ?_⟩) ?_ ?_
            rotate_left
            · intro w'
              go_simp
              with_reducible rfl
            rotate_left
            · simp only [Act.put, List.setIfInBounds_toArray, List.set_cons_zero, List.set_cons_succ, i64_w, i32_w]
              rfl
            refine pure_ (i := 8) (N := some 41) (v := ?_) (a' := ?_) #[true, true, true, true, true, false, true, true, true, false, false, false] rfl rfl (by kernel_rfl) (fun _ _ _ h => h) (Or.inl ⟨by rfl, ?_⟩) ?_ ?_
            rotate_left
            · intro w'
              go_simp
              with_reducible rfl
            rotate_left
            · simp only [Act.put, List.setIfInBounds_toArray, List.set_cons_zero, List.set_cons_succ, i64_w, i32_w]
              rfl
            refine pure_ (i := 9) (N := some 42) (v := ?_) (a' := ?_) #[true, true, true, true, true, false, true, true, true, true, false, false] rfl rfl (by kernel_rfl) (fun _ _ _ h => h) (Or.inl ⟨by rfl, ?_⟩) ?_ ?_
            rotate_left
            · intro w'
              go_simp
              with_reducible rfl
            rotate_left
            · simp only [Act.put, List.setIfInBounds_toArray, List.set_cons_zero, List.set_cons_succ, i64_w, i32_w]
              rfl
            refine take_ (i := 5) (N := some 38) (v := ?_) (a' := ?_) #[true, true, true, true, true, true, true, true, true, true, false, false] rfl rfl (by kernel_rfl) (fun _ _ _ h => h) (Or.inl ⟨by rfl, ?_⟩) hHeld ?_ ?_
            rotate_left
            · rintro w' ⟨s0, s1⟩
              go_simp
              with_reducible rfl
            rotate_left
            · simp only [Act.put, List.setIfInBounds_toArray, List.set_cons_zero, List.set_cons_succ, i64_w, i32_w]
              rfl
            refine take_ (i := 10) (N := some 43) (v := ?_) (a' := ?_) #[true, true, true, true, true, true, true, true, true, true, true, false] rfl rfl (by kernel_rfl) (fun _ _ _ h => h) (Or.inl ⟨by rfl, ?_⟩) hHeld ?_ ?_
            rotate_left
            · rintro w' ⟨s0, s1⟩
              go_simp
              with_reducible rfl
            rotate_left
            · simp only [Act.put, List.setIfInBounds_toArray, List.set_cons_zero, List.set_cons_succ, i64_w, i32_w]
              rfl
            refine last_ (i := 11) (N := some 44) #[true, true, true, true, true, true, true, true, true, true, true, true] rfl rfl (by kernel_rfl) (by decide) (fun K hK => ?_)
            refine goes_ Try.func13 (by kernel_rfl) rfl #[.pointer (some ⟨p, 0, none⟩), .string key, .int .i64 val] (by rfl) rfl rfl (by simp only [List.map_toArray, List.map_cons, List.map_nil]; rfl) ?_
            first | with_reducible refine put1.out.mono ?_ | with_reducible refine put2.out.mono ?_
            rintro e w3 ⟨⟨o3, f3, rfl⟩, t3⟩
            refine ⟨_, rfl, ?_⟩
            replace t3 := Hid.mk' t3
            refine hK.out _ _ ?_
            clear hK K
            refine norm_ (a' := ?_) ?_ ?_
            rotate_left
            · show Act.put _ (some 44) _ = _
              simp only [Act.put, List.setIfInBounds_toArray, List.set_cons_zero, List.set_cons_succ, i64_w, i32_w]
              rfl
            refine done_ (by kernel_rfl) ?_
            clear e0 e1 e2 e3
            go_wp2_with fail
            refine (t3.out.check hd' hd2' (by omega)).mono ?_
            rintro e w4 ⟨rfl, t4⟩
            have t4' := Hid.mk' t4
            clear t4
            go_wp2_with fail
            go_roundg g'
            case measure => omega
            case rel => exact ⟨i + 1, p, _, by omega, rfl, by simp, t4'.out, by omega⟩
      · obtain rfl : i = n := by omega
        have kf := Hid.mk' ts.2
        clear ts
        go_wp2_with fail
        go_ret
        exact ⟨rfl, kf.out⟩
  · cases r
    · go_enter Try.func3, Try.ntmps3
      go_wp2_with fail
      refine lv.out.mono ?_
      rintro e w1 ⟨rfl, k1⟩
      have k1' := Hid.mk' k1
      go_wp2_with fail
      refine (few'.out _ k1).mono ?_
      rintro e w2 ⟨rfl, rfl⟩
      go_wp2_with fail
      go_ret
      exact ⟨rfl, k1'.out⟩
    · have hb : d < 2 ∨ 32 < d := by
        by_cases h2 : 2 ≤ d
        · right
          by_cases h3 : d ≤ 32
          · exact (h1 ⟨rfl, h2, h3⟩).elim
          · omega
        · left; omega
      clear h1
      have hp : (if decide (d < 2) then true else decide (32 < d)) = true := by simp; omega
      have hp2 : (decide (d < 2) || decide (32 < d)) = true := by simp; omega
      rcases hb with hb | hb
      · have b1 : decide (d < 2) = true := by simp; omega
        go_enter Try.func3, Try.ntmps3
        go_wp2_with fail
        refine lv.out.mono ?_
        rintro e w1 ⟨rfl, k1⟩
        have k1' := Hid.mk' k1
        go_wp2_with fail
        refine (few'.out _ k1).mono ?_
        rintro e w2 ⟨rfl, rfl⟩
        go_wp2_with fail
        go_ret
        exact ⟨rfl, k1'.out⟩
      · have b1 : decide (d < 2) = false := by simp; omega
        have b2 : decide (32 < d) = true := by simp; omega
        go_enter Try.func3, Try.ntmps3
        go_wp2_with fail
        refine lv.out.mono ?_
        rintro e w1 ⟨rfl, k1⟩
        have k1' := Hid.mk' k1
        go_wp2_with fail
        refine (few'.out _ k1).mono ?_
        rintro e w2 ⟨rfl, rfl⟩
        go_wp2_with fail
        go_ret
        exact ⟨rfl, k1'.out⟩
end Go.Proofs.Ytamnmoejjjaegaa
