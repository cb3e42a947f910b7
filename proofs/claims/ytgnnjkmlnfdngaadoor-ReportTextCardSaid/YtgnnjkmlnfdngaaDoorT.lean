/- What problems writes. Conditions: at most 20 problems, names of at most 30 bytes. -/
import Derived.Test.YtgnnjkmlnfdngaaDoorR
set_option linter.unusedVariables false
set_option linter.unusedSimpArgs false
namespace Go.Proofs.YtgnnjkmlnfdngaaDoor
open Go Go.RowKit Go.Sort

theorem PH.base {w0 wr : World} {g : Nat} {v : Value} {t : List UInt8} {w : World} (h : PH wr g v t w) (k0 : Chg NoB w0 wr) (hg : w0.heap.size ≤ g) (hv : ∀ k, own v k → w0.heap.size ≤ k) : Chg NoB w0 w := by
  obtain ⟨_, _, _, h⟩ := h
  refine k0.trans' h fun k hk => .inr ?_
  rcases hk with rfl | h
  · exact hg
  · exact hv k h

theorem data_toList (a : ByteArray) : a.toList = a.data.toList := by
  have loop : ∀ (n i : Nat) (r : List UInt8), a.size - i = n → ByteArray.toList.loop a i r = r.reverse ++ a.data.toList.drop i := by
    intro n
    induction n with
    | zero =>
      intro i r h
      rw [ByteArray.toList.loop, if_neg (by omega)]
      have : a.data.toList.drop i = [] := List.drop_of_length_le (by rw [Array.length_toList]; show a.size ≤ i; omega)
      rw [this, List.append_nil]
    | succ n ih =>
      intro i r h
      have hlt : i < a.size := by omega
      have hl2 : i < a.data.toList.length := by rw [Array.length_toList]; exact hlt
      rw [ByteArray.toList.loop, if_pos hlt, ih (i + 1) _ (by omega), List.reverse_cons, List.append_assoc]
      congr 1
      rw [List.drop_eq_getElem_cons hl2, List.singleton_append]
      congr 1
      simp only [ByteArray.get!, Array.getElem_toList]
      exact getElem!_pos a.data i hlt
  exact (loop a.size 0 [] (by omega)).trans (by simp)
theorem nil_bsOf : (bsOf []).toList.isEmpty = true := by decide +kernel
theorem full_bsOf (l : List UInt8) (h : l ≠ []) : (bsOf l).toList.isEmpty = false := by
  have : (bsOf l).toList = l := by rw [data_toList]; rfl
  rw [this]; cases l with
  | nil => exact absurd rfl h
  | cons _ _ => rfl
theorem prob_le (word : List UInt8) (p : Prob) (hw : word.length ≤ 10) (h : InI p.1 ∧ p.2.1.length ≤ 30 ∧ InI p.2.2) : (probL word p).length ≤ 80 := by
  have h1 : (kindL p.1).length ≤ 9 := by
    unfold kindL
    split
    · rename_i hk
      have : ∀ j : Fin 11, (kindsL.getD j.val []).length ≤ 9 := by decide
      exact this ⟨p.1.toNat, by omega⟩
    · decide
  have h2 := itoa_le p.2.2 h.2.2.1 h.2.2.2
  have h3 := h.2.1
  unfold probL
  split <;> split <;> simp <;> omega
theorem probs_le (word : List UInt8) (ps : List Prob) (hw : word.length ≤ 10) (h : ∀ p ∈ ps, InI p.1 ∧ p.2.1.length ≤ 30 ∧ InI p.2.2) : (probsL word ps).length ≤ ps.length * 81 := by
  unfold probsL
  induction ps with
  | nil => simp
  | cons p ps ih =>
    have := ih fun q hq => h q (List.mem_cons_of_mem _ hq)
    have h2 := prob_le word p hw (h p (List.mem_cons_self ..))
    simp only [List.map_cons, List.flatten_cons, List.length_append, List.length_cons, List.length_nil]
    omega

set_option maxHeartbeats 8000000 in
set_option maxRecDepth 100000 in
theorem problems29 (g : Nat) (v u : Value) (t word : List UInt8) (ps : List Prob) (w0 wp w : World) (hp : PH wp g v t w) (hu : SlP w0 u ps) (hL : Lay w0) (k0 : Chg NoB w0 wp) (hg : w0.heap.size ≤ g) (hv : ∀ k, own v k → w0.heap.size ≤ k)
    (hn : ps.length ≤ 20) (hw : word.length ≤ 10) (hi : ∀ p ∈ ps, InI p.1 ∧ p.2.1.length ≤ 30 ∧ InI p.2.2) (hl : t.length ≤ 100000) :
    Calls Tryd.prog 29 #[.iface 49 (.pointer (some ⟨g, 0, none⟩)), tv word, u] w fun e w' => e = .returned (.tuple #[]) ∧ PH wp g v (t ++ probsL word ps) w' := by
  obtain ⟨a, n, c, rfl, hn1⟩ := hu.form'
  have hb := fun t w (h : PH wp g v t w) => h.base k0 hg hv
  have hb' := Hid.mk' hb
  have hu' := Hid.mk' hu
  have hL' := Hid.mk' hL
  have hp' := Hid.mk' hp
  have hsz := Hid.mk' (And.intro hn (And.intro hw hl))
  have hi' := Hid.mk' hi
  obtain ⟨WB, hWB⟩ : ∃ B, bsOf word = B := ⟨_, rfl⟩
  have hWB' := Hid.mk' hWB
  unfold tv
  rw [hWB]
  clear hu hL hp hn hw hi hl hb hWB k0 hg hv
  go_enter Tryd.func29, Tryd.ntmps29
  go_wp2_with fail
  go_loopg [11] n (fun gq s11 w' => ∃ i, i + gq = n ∧ s11 = .int .i64 (i : Int) ∧ PH wp g v (t ++ probsL word (ps.take i)) w')
  case atStart => exact ⟨0, by omega, rfl, by rw [List.take_zero]; unfold probsL; simpa using hp'.out⟩
  case round =>
    obtain ⟨i, hg, rfl, hph⟩ := hrel
    have hn2 := hn1.out
    have hsz1 := hsz.out
    by_cases hin : i < n
    · obtain ⟨p, hpp⟩ : ∃ p, ps[i]? = some p := ⟨_, List.getElem?_eq_getElem (by omega)⟩
      have kb := hb'.out _ _ hph
      obtain ⟨gp, o, rfl, hc⟩ := (hu'.out.new kb).at (by omega)
      obtain ⟨c0, c1, c2⟩ := hc i p hpp
      obtain ⟨pk, pn, pu⟩ := p
      simp only at c0 c1 c2
      obtain ⟨NB, hNB⟩ : ∃ B, bsOf pn = B := ⟨_, rfl⟩
      unfold tv at c1
      rw [hNB] at c1
      have d1 : (i : Int) < (n : Int) := by omega
      have d2 : i < n := hin
      have ph' := Hid.mk' hph
      have hpp' := Hid.mk' hpp
      have hmem := Hid.mk' (hi'.out _ (List.mem_of_getElem? hpp))
      have kb' := Hid.mk' kb
      have sW : WB.size ≤ 10 := by rw [← hWB'.out, size_bsOf]; exact hsz1.2.1
      have bW : WB.size + 6 ≤ 9223372036854775807 := by omega
      have bW1 : WB.size + 1 ≤ 9223372036854775807 := by omega
      have hNB' := Hid.mk' hNB
      clear hph hpp hc hn2 hsz1 kb hin hNB
      have hlen : Hid ((t ++ probsL word (ps.take i)).length ≤ 110000) := by
        show _ ≤ _
        rw [List.length_append]
        have := probs_le word (ps.take i) hsz.out.2.1 fun p hp => hi'.out p (List.mem_of_mem_take hp)
        rw [List.length_take] at this
        have h1 := hsz.out
        have h2 : min i ps.length * 81 ≤ 20 * 81 := Nat.mul_le_mul_right _ (by omega)
        omega
      have hpl := Hid.mk' (prob_le word (pk, pn, pu) hsz.out.2.1 hmem.out)
      have u30 := number30 pu hmem.out.2.2.1 hmem.out.2.2.2
      have lU := itoa_le pu hmem.out.2.2.1 hmem.out.2.2.2
      by_cases hk : 1 ≤ pk ∧ pk < 11
      · obtain ⟨q1, q2⟩ := hk
        obtain ⟨kk, rfl⟩ : ∃ kk : Nat, pk = kk := ⟨pk.toNat, by omega⟩
        have ck := kinds_at wr (hL'.out.new kb'.out) kk (by omega)
        obtain ⟨KL, hKL⟩ : ∃ L, kindsL.getD kk [] = L := ⟨_, rfl⟩
        have hkl : Hid (kindL (kk : Int) = KL) := by show _ = _; unfold kindL; rw [if_pos ⟨q1, q2⟩, ← hKL]; rfl
        have lK : KL.length ≤ 9 := by
          rw [← hKL]
          have : ∀ j : Fin 11, (kindsL.getD j.val []).length ≤ 9 := by decide
          exact this ⟨kk, by omega⟩
        obtain ⟨KB, hKB⟩ : ∃ B, bsOf KL = B := ⟨_, rfl⟩
        unfold tv at ck
        rw [hKL, hKB] at ck
        have sK : KB.size ≤ 9 := by rw [← hKB, size_bsOf]; exact lK
        have hKB' := Hid.mk' hKB
        have b2 : WB.size + 1 + KB.size ≤ 9223372036854775807 := by omega
        have ck2 : (wr.alloc (Obj.cells #[.int .i64 (kk : Int), .string NB, .int .i64 pu] 64)).cell? ⟨0, kk, none⟩ = some (.string KB) := ((Chg.refl NoB wr).alloc _).cell (fun h => h) ck
        clear hKL hKB lK ck
        by_cases hpn : pn = []
        · have z1 : NB.toList.isEmpty = true := by rw [← hNB'.out, hpn]; exact nil_bsOf
          by_cases hpu : pu = 0
          · subst hpu
            have z2 : ((0 : Int) != 0) = false := by rfl
            have hs : Hid (tv (probL word ((kk : Int), pn, (0 : Int))) = .string (WB ++ (⟨#[32]⟩ : ByteArray) ++ KB)) := by
              show _ = _
              unfold probL tv
              simp only [if_pos hpn, if_pos rfl, hkl.out]
              rw [← hWB'.out, ← hKB'.out, show (⟨#[32]⟩ : ByteArray) = bsOf [32] from rfl]
              simp [bsOf_add]
            have c98 := Hid.mk' (fun w' (h : PH wp g v (t ++ probsL word (ps.take i)) w') => h.line (probL word ((kk : Int), pn, (0 : Int))) (by have := hlen.out; have := hpl.out; omega))
            rw [hs.out] at c98
            have ml := method_line
            have hst : Hid (t ++ probsL word (ps.take i) ++ probL word ((kk : Int), pn, (0 : Int)) ++ [10] = t ++ probsL word (ps.take (i + 1))) := by
              show _ = _
              unfold probsL
              rw [List.take_add_one, hpp'.out]
              simp
            have n1 : IntKind.i64.wrap ((i : Int) + 1) = (i : Int) + 1 := by rw [IntKind.wrap_i64]; have := hn1.out; have := hsz.out; omega
            rw [hst.out] at c98
            clear u30 lU hs
            go_wp2_with (go_at_call 98; refine (c98.out _ (ph'.out.new ((Chg.refl NoB wr).alloc _))).mono ?_; rintro e w4 ⟨rfl, p4⟩; replace p4 := Hid.mk' p4)
            go_roundg (n - (i + 1))
            case measure => omega
            case rel => exact ⟨i + 1, by omega, by simp, p4.out⟩
          · have z2 : (pu != 0) = true := by simp [hpu]
            obtain ⟨UL, hUL⟩ : ∃ L, Lib.itoa pu = L := ⟨_, rfl⟩
            rw [hUL] at u30 lU
            obtain ⟨UB, hUB⟩ : ∃ B, bsOf UL = B := ⟨_, rfl⟩
            have hUB' := Hid.mk' hUB
            have hs : Hid (tv (probL word ((kk : Int), pn, pu)) = .string (WB ++ (⟨#[32]⟩ : ByteArray) ++ KB ++ ((⟨#[32]⟩ : ByteArray) ++ UB))) := by
              show _ = _
              unfold probL tv
              simp only [if_pos hpn, if_neg hpu, hkl.out]
              rw [← hWB'.out, ← hKB'.out, ← hUB'.out, show (⟨#[32]⟩ : ByteArray) = bsOf [32] from rfl]
              simp [bsOf_add, hUL]
            have c98 := Hid.mk' (fun w' (h : PH wp g v (t ++ probsL word (ps.take i)) w') => h.line (probL word ((kk : Int), pn, pu)) (by have := hlen.out; have := hpl.out; omega))
            rw [hs.out] at c98
            have c30 : Hid (∀ w', Chg NoB wr w' → Calls Tryd.prog 30 #[.int .i64 pu] w' fun e w'' => e = .returned (.string UB) ∧ Chg NoB wr w'') := fun w' k => by
              have := (u30 w' ((hL'.out.new kb'.out).new k)).mono fun e w'' h => (⟨h.1, k.trans h.2⟩ : e = .returned (tv UL) ∧ Chg NoB wr w'')
              unfold tv at this; rwa [hUB] at this
            have bU : UB.size ≤ 20 := by rw [← hUB, size_bsOf]; exact lU
            have ml := method_line
            have hst : Hid (t ++ probsL word (ps.take i) ++ probL word ((kk : Int), pn, pu) ++ [10] = t ++ probsL word (ps.take (i + 1))) := by
              show _ = _
              unfold probsL
              rw [List.take_add_one, hpp'.out]
              simp
            have n1 : IntKind.i64.wrap ((i : Int) + 1) = (i : Int) + 1 := by rw [IntKind.wrap_i64]; have := hn1.out; have := hsz.out; omega
            rw [hst.out] at c98
            clear u30 lU hs hUL hUB
            go_wp2_with (first
              | (go_at_call 30; refine (c30.out _ ((Chg.refl NoB wr).alloc _)).mono ?_; rintro e w3 ⟨rfl, k3⟩; replace k3 := Hid.mk' k3)
              | (go_at_call 98; refine (c98.out _ (ph'.out.new k3.out)).mono ?_; rintro e w4 ⟨rfl, p4⟩; replace p4 := Hid.mk' p4))
            go_roundg (n - (i + 1))
            case measure => omega
            case rel => exact ⟨i + 1, by omega, by simp, p4.out⟩
        · have z1 : NB.toList.isEmpty = false := by rw [← hNB'.out]; exact full_bsOf pn hpn
          by_cases hpu : pu = 0
          · subst hpu
            have z2 : ((0 : Int) != 0) = false := by rfl
            have hs : Hid (tv (probL word ((kk : Int), pn, (0 : Int))) = .string (WB ++ (⟨#[32]⟩ : ByteArray) ++ KB ++ ((⟨#[32]⟩ : ByteArray) ++ NB))) := by
              show _ = _
              unfold probL tv
              simp only [if_neg hpn, if_pos rfl, hkl.out]
              rw [← hWB'.out, ← hKB'.out, ← hNB'.out, show (⟨#[32]⟩ : ByteArray) = bsOf [32] from rfl]
              simp [bsOf_add]
            have c98 := Hid.mk' (fun w' (h : PH wp g v (t ++ probsL word (ps.take i)) w') => h.line (probL word ((kk : Int), pn, (0 : Int))) (by have := hlen.out; have := hpl.out; omega))
            rw [hs.out] at c98
            have bN : NB.size ≤ 30 := by rw [← hNB'.out, size_bsOf]; exact hmem.out.2.1
            have ml := method_line
            have hst : Hid (t ++ probsL word (ps.take i) ++ probL word ((kk : Int), pn, (0 : Int)) ++ [10] = t ++ probsL word (ps.take (i + 1))) := by
              show _ = _
              unfold probsL
              rw [List.take_add_one, hpp'.out]
              simp
            have n1 : IntKind.i64.wrap ((i : Int) + 1) = (i : Int) + 1 := by rw [IntKind.wrap_i64]; have := hn1.out; have := hsz.out; omega
            rw [hst.out] at c98
            clear u30 lU hs
            go_wp2_with (go_at_call 98; refine (c98.out _ (ph'.out.new ((Chg.refl NoB wr).alloc _))).mono ?_; rintro e w4 ⟨rfl, p4⟩; replace p4 := Hid.mk' p4)
            go_roundg (n - (i + 1))
            case measure => omega
            case rel => exact ⟨i + 1, by omega, by simp, p4.out⟩
          · have z2 : (pu != 0) = true := by simp [hpu]
            obtain ⟨UL, hUL⟩ : ∃ L, Lib.itoa pu = L := ⟨_, rfl⟩
            rw [hUL] at u30 lU
            obtain ⟨UB, hUB⟩ : ∃ B, bsOf UL = B := ⟨_, rfl⟩
            have hUB' := Hid.mk' hUB
            have hs : Hid (tv (probL word ((kk : Int), pn, pu)) = .string (WB ++ (⟨#[32]⟩ : ByteArray) ++ KB ++ ((⟨#[32]⟩ : ByteArray) ++ NB) ++ ((⟨#[32]⟩ : ByteArray) ++ UB))) := by
              show _ = _
              unfold probL tv
              simp only [if_neg hpn, if_neg hpu, hkl.out]
              rw [← hWB'.out, ← hKB'.out, ← hNB'.out, ← hUB'.out, show (⟨#[32]⟩ : ByteArray) = bsOf [32] from rfl]
              simp [bsOf_add, hUL]
            have c98 := Hid.mk' (fun w' (h : PH wp g v (t ++ probsL word (ps.take i)) w') => h.line (probL word ((kk : Int), pn, pu)) (by have := hlen.out; have := hpl.out; omega))
            rw [hs.out] at c98
            have c30 : Hid (∀ w', Chg NoB wr w' → Calls Tryd.prog 30 #[.int .i64 pu] w' fun e w'' => e = .returned (.string UB) ∧ Chg NoB wr w'') := fun w' k => by
              have := (u30 w' ((hL'.out.new kb'.out).new k)).mono fun e w'' h => (⟨h.1, k.trans h.2⟩ : e = .returned (tv UL) ∧ Chg NoB wr w'')
              unfold tv at this; rwa [hUB] at this
            have bU : UB.size ≤ 20 := by rw [← hUB, size_bsOf]; exact lU
            have bN : NB.size ≤ 30 := by rw [← hNB'.out, size_bsOf]; exact hmem.out.2.1
            have ml := method_line
            have hst : Hid (t ++ probsL word (ps.take i) ++ probL word ((kk : Int), pn, pu) ++ [10] = t ++ probsL word (ps.take (i + 1))) := by
              show _ = _
              unfold probsL
              rw [List.take_add_one, hpp'.out]
              simp
            have n1 : IntKind.i64.wrap ((i : Int) + 1) = (i : Int) + 1 := by rw [IntKind.wrap_i64]; have := hn1.out; have := hsz.out; omega
            rw [hst.out] at c98
            clear u30 lU hs hUL hUB
            go_wp2_with (first
              | (go_at_call 30; refine (c30.out _ ((Chg.refl NoB wr).alloc _)).mono ?_; rintro e w3 ⟨rfl, k3⟩; replace k3 := Hid.mk' k3)
              | (go_at_call 98; refine (c98.out _ (ph'.out.new k3.out)).mono ?_; rintro e w4 ⟨rfl, p4⟩; replace p4 := Hid.mk' p4))
            go_roundg (n - (i + 1))
            case measure => omega
            case rel => exact ⟨i + 1, by omega, by simp, p4.out⟩
      · have hkl : Hid (kindL pk = [111, 116, 104, 101, 114]) := by show _ = _; unfold kindL; rw [if_neg hk]
        have hk2 : 1 ≤ pk → ¬ pk < 11 := fun a b => hk ⟨a, b⟩
        by_cases hpn : pn = []
        · have z1 : NB.toList.isEmpty = true := by rw [← hNB'.out, hpn]; exact nil_bsOf
          by_cases hpu : pu = 0
          · subst hpu
            have z2 : ((0 : Int) != 0) = false := by rfl
            have hs : Hid (tv (probL word (pk, pn, (0 : Int))) = .string (WB ++ (⟨#[32, 111, 116, 104, 101, 114]⟩ : ByteArray))) := by
              show _ = _
              unfold probL tv
              simp only [if_pos hpn, if_pos rfl, hkl.out]
              rw [← hWB'.out, show (⟨#[32, 111, 116, 104, 101, 114]⟩ : ByteArray) = bsOf [32, 111, 116, 104, 101, 114] from rfl]
              simp [bsOf_add]
            have c98 := Hid.mk' (fun w' (h : PH wp g v (t ++ probsL word (ps.take i)) w') => h.line (probL word (pk, pn, (0 : Int))) (by have := hlen.out; have := hpl.out; omega))
            rw [hs.out] at c98
            have ml := method_line
            have hst : Hid (t ++ probsL word (ps.take i) ++ probL word (pk, pn, (0 : Int)) ++ [10] = t ++ probsL word (ps.take (i + 1))) := by
              show _ = _
              unfold probsL
              rw [List.take_add_one, hpp'.out]
              simp
            have n1 : IntKind.i64.wrap ((i : Int) + 1) = (i : Int) + 1 := by rw [IntKind.wrap_i64]; have := hn1.out; have := hsz.out; omega
            rw [hst.out] at c98
            clear u30 lU hs
            go_wp2_with (go_at_call 98; refine (c98.out _ (ph'.out.new ((Chg.refl NoB wr).alloc _))).mono ?_; rintro e w4 ⟨rfl, p4⟩; replace p4 := Hid.mk' p4)
            all_goals
              go_roundg (n - (i + 1))
              case measure => omega
              case rel => exact ⟨i + 1, by omega, by simp, p4.out⟩
          · have z2 : (pu != 0) = true := by simp [hpu]
            obtain ⟨UL, hUL⟩ : ∃ L, Lib.itoa pu = L := ⟨_, rfl⟩
            rw [hUL] at u30 lU
            obtain ⟨UB, hUB⟩ : ∃ B, bsOf UL = B := ⟨_, rfl⟩
            have hUB' := Hid.mk' hUB
            have hs : Hid (tv (probL word (pk, pn, pu)) = .string (WB ++ (⟨#[32, 111, 116, 104, 101, 114]⟩ : ByteArray) ++ ((⟨#[32]⟩ : ByteArray) ++ UB))) := by
              show _ = _
              unfold probL tv
              simp only [if_pos hpn, if_neg hpu, hkl.out]
              rw [← hWB'.out, ← hUB'.out, show (⟨#[32]⟩ : ByteArray) = bsOf [32] from rfl, show (⟨#[32, 111, 116, 104, 101, 114]⟩ : ByteArray) = bsOf [32, 111, 116, 104, 101, 114] from rfl]
              simp [bsOf_add, hUL]
            have c98 := Hid.mk' (fun w' (h : PH wp g v (t ++ probsL word (ps.take i)) w') => h.line (probL word (pk, pn, pu)) (by have := hlen.out; have := hpl.out; omega))
            rw [hs.out] at c98
            have c30 : Hid (∀ w', Chg NoB wr w' → Calls Tryd.prog 30 #[.int .i64 pu] w' fun e w'' => e = .returned (.string UB) ∧ Chg NoB wr w'') := fun w' k => by
              have := (u30 w' ((hL'.out.new kb'.out).new k)).mono fun e w'' h => (⟨h.1, k.trans h.2⟩ : e = .returned (tv UL) ∧ Chg NoB wr w'')
              unfold tv at this; rwa [hUB] at this
            have bU : UB.size ≤ 20 := by rw [← hUB, size_bsOf]; exact lU
            have ml := method_line
            have hst : Hid (t ++ probsL word (ps.take i) ++ probL word (pk, pn, pu) ++ [10] = t ++ probsL word (ps.take (i + 1))) := by
              show _ = _
              unfold probsL
              rw [List.take_add_one, hpp'.out]
              simp
            have n1 : IntKind.i64.wrap ((i : Int) + 1) = (i : Int) + 1 := by rw [IntKind.wrap_i64]; have := hn1.out; have := hsz.out; omega
            rw [hst.out] at c98
            clear u30 lU hs hUL hUB
            go_wp2_with (first
              | (go_at_call 30; refine (c30.out _ ((Chg.refl NoB wr).alloc _)).mono ?_; rintro e w3 ⟨rfl, k3⟩; replace k3 := Hid.mk' k3)
              | (go_at_call 98; refine (c98.out _ (ph'.out.new k3.out)).mono ?_; rintro e w4 ⟨rfl, p4⟩; replace p4 := Hid.mk' p4))
            all_goals
              go_roundg (n - (i + 1))
              case measure => omega
              case rel => exact ⟨i + 1, by omega, by simp, p4.out⟩
        · have z1 : NB.toList.isEmpty = false := by rw [← hNB'.out]; exact full_bsOf pn hpn
          by_cases hpu : pu = 0
          · subst hpu
            have z2 : ((0 : Int) != 0) = false := by rfl
            have hs : Hid (tv (probL word (pk, pn, (0 : Int))) = .string (WB ++ (⟨#[32, 111, 116, 104, 101, 114]⟩ : ByteArray) ++ ((⟨#[32]⟩ : ByteArray) ++ NB))) := by
              show _ = _
              unfold probL tv
              simp only [if_neg hpn, if_pos rfl, hkl.out]
              rw [← hWB'.out, ← hNB'.out, show (⟨#[32]⟩ : ByteArray) = bsOf [32] from rfl, show (⟨#[32, 111, 116, 104, 101, 114]⟩ : ByteArray) = bsOf [32, 111, 116, 104, 101, 114] from rfl]
              simp [bsOf_add]
            have c98 := Hid.mk' (fun w' (h : PH wp g v (t ++ probsL word (ps.take i)) w') => h.line (probL word (pk, pn, (0 : Int))) (by have := hlen.out; have := hpl.out; omega))
            rw [hs.out] at c98
            have bN : NB.size ≤ 30 := by rw [← hNB'.out, size_bsOf]; exact hmem.out.2.1
            have ml := method_line
            have hst : Hid (t ++ probsL word (ps.take i) ++ probL word (pk, pn, (0 : Int)) ++ [10] = t ++ probsL word (ps.take (i + 1))) := by
              show _ = _
              unfold probsL
              rw [List.take_add_one, hpp'.out]
              simp
            have n1 : IntKind.i64.wrap ((i : Int) + 1) = (i : Int) + 1 := by rw [IntKind.wrap_i64]; have := hn1.out; have := hsz.out; omega
            rw [hst.out] at c98
            clear u30 lU hs
            go_wp2_with (go_at_call 98; refine (c98.out _ (ph'.out.new ((Chg.refl NoB wr).alloc _))).mono ?_; rintro e w4 ⟨rfl, p4⟩; replace p4 := Hid.mk' p4)
            all_goals
              go_roundg (n - (i + 1))
              case measure => omega
              case rel => exact ⟨i + 1, by omega, by simp, p4.out⟩
          · have z2 : (pu != 0) = true := by simp [hpu]
            obtain ⟨UL, hUL⟩ : ∃ L, Lib.itoa pu = L := ⟨_, rfl⟩
            rw [hUL] at u30 lU
            obtain ⟨UB, hUB⟩ : ∃ B, bsOf UL = B := ⟨_, rfl⟩
            have hUB' := Hid.mk' hUB
            have hs : Hid (tv (probL word (pk, pn, pu)) = .string (WB ++ (⟨#[32, 111, 116, 104, 101, 114]⟩ : ByteArray) ++ ((⟨#[32]⟩ : ByteArray) ++ NB) ++ ((⟨#[32]⟩ : ByteArray) ++ UB))) := by
              show _ = _
              unfold probL tv
              simp only [if_neg hpn, if_neg hpu, hkl.out]
              rw [← hWB'.out, ← hNB'.out, ← hUB'.out, show (⟨#[32]⟩ : ByteArray) = bsOf [32] from rfl, show (⟨#[32, 111, 116, 104, 101, 114]⟩ : ByteArray) = bsOf [32, 111, 116, 104, 101, 114] from rfl]
              simp [bsOf_add, hUL]
            have c98 := Hid.mk' (fun w' (h : PH wp g v (t ++ probsL word (ps.take i)) w') => h.line (probL word (pk, pn, pu)) (by have := hlen.out; have := hpl.out; omega))
            rw [hs.out] at c98
            have c30 : Hid (∀ w', Chg NoB wr w' → Calls Tryd.prog 30 #[.int .i64 pu] w' fun e w'' => e = .returned (.string UB) ∧ Chg NoB wr w'') := fun w' k => by
              have := (u30 w' ((hL'.out.new kb'.out).new k)).mono fun e w'' h => (⟨h.1, k.trans h.2⟩ : e = .returned (tv UL) ∧ Chg NoB wr w'')
              unfold tv at this; rwa [hUB] at this
            have bU : UB.size ≤ 20 := by rw [← hUB, size_bsOf]; exact lU
            have bN : NB.size ≤ 30 := by rw [← hNB'.out, size_bsOf]; exact hmem.out.2.1
            have ml := method_line
            have hst : Hid (t ++ probsL word (ps.take i) ++ probL word (pk, pn, pu) ++ [10] = t ++ probsL word (ps.take (i + 1))) := by
              show _ = _
              unfold probsL
              rw [List.take_add_one, hpp'.out]
              simp
            have n1 : IntKind.i64.wrap ((i : Int) + 1) = (i : Int) + 1 := by rw [IntKind.wrap_i64]; have := hn1.out; have := hsz.out; omega
            rw [hst.out] at c98
            clear u30 lU hs hUL hUB
            go_wp2_with (first
              | (go_at_call 30; refine (c30.out _ ((Chg.refl NoB wr).alloc _)).mono ?_; rintro e w3 ⟨rfl, k3⟩; replace k3 := Hid.mk' k3)
              | (go_at_call 98; refine (c98.out _ (ph'.out.new k3.out)).mono ?_; rintro e w4 ⟨rfl, p4⟩; replace p4 := Hid.mk' p4))
            all_goals
              go_roundg (n - (i + 1))
              case measure => omega
              case rel => exact ⟨i + 1, by omega, by simp, p4.out⟩
    · obtain rfl : i = n := by omega
      have d1 : ¬ ((i : Int) < (i : Int)) := by omega
      rw [List.take_of_length_le (by omega)] at hph
      have ph' := Hid.mk' hph
      clear hph hin hn2 hsz1
      go_wp2_with fail
      go_end0
      exact ⟨rfl, ph'.out⟩
end Go.Proofs.YtgnnjkmlnfdngaaDoor
