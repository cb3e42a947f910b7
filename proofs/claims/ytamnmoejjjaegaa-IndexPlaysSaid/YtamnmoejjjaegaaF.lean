/- What find (slices.BinarySearch at []string) returns for an ascending row of strings. Conditions: at most 1048576 of them. -/
import Derived.Test.YtamnmoejjjaegaaA1
import Derived.Test.YtamnmoejjjaegaaK
import Derived.Test.YtamnmoejjjaegaaProg
import Derived.Deep.LoopGhost
set_option linter.unusedVariables false
set_option linter.unusedSimpArgs false
namespace Go.Proofs.Ytamnmoejjjaegaa
open Go Go.RowKit

set_option maxHeartbeats 1000000 in
theorem isNaN66 (x : ByteArray) (w : World) : Calls Try.prog 66 #[.string x] w fun e w' => e = .returned (.bool false) ∧ w = w' := by
  go_enter Try.func66, Try.ntmps66
  go_wp2
  go_ret
  exact ⟨by simp, rfl⟩

set_option maxHeartbeats 1000000 in
theorem isNaN61 (x : ByteArray) (w : World) : Calls Try.prog 61 #[.string x] w fun e w' => e = .returned (.bool false) ∧ w = w' := by
  go_enter Try.func61, Try.ntmps61
  go_wp2
  go_ret
  exact ⟨by simp, rfl⟩

set_option maxHeartbeats 1000000 in
theorem less60 (x y : ByteArray) (w : World) : Calls Try.prog 60 #[.string x, .string y] w fun e w' => e = .returned (.bool (kl x y)) ∧ w = w' := by
  go_enter Try.func60, Try.ntmps60
  go_wp2_with (go_at_call 66; refine (isNaN66 _ _).mono ?_; rintro e w' ⟨rfl, rfl⟩)
  go_ret
  exact ⟨rfl, rfl⟩

set_option maxHeartbeats 4000000 in
set_option maxRecDepth 1000000 in
theorem search49 (g n c : Nat) (keys : List ByteArray) (x : ByteArray) (p : Nat) (f : Bool) (w : World) (hn : n = keys.length) (hbig : n ≤ 1048576) (hc : ∀ j (h : j < keys.length), w.cell? ⟨g, j, none⟩ = some (.string (keys[j])))
    (hp : p ≤ n) (hlo : ∀ t (h : t < keys.length), t < p → kl keys[t] x = true) (hhi : ∀ t (h : t < keys.length), p ≤ t → kl keys[t] x = false) (hf : f = true ↔ keys[p]? = some x) :
    Calls Try.prog 49 #[.slice (some ⟨g, 0, none⟩) n c, .string x] w fun e w' => e = .returned (.tuple #[.int .i64 p, .bool f]) ∧ w = w' := by
  have hn' := Hid.mk' hn
  clear hn
  go_enter Try.func49, Try.ntmps49
  go_wp2
  go_loopg [7, 8] n (fun gq s7 s8 wr => ∃ lo hi : Nat, s7 = .int .i64 lo ∧ s8 = .int .i64 hi ∧ lo ≤ p ∧ p ≤ hi ∧ hi ≤ n ∧ hi - lo ≤ gq ∧ wr = w)
  case atStart => exact ⟨0, n, rfl, rfl, Nat.zero_le _, hp, Nat.le_refl _, by omega, rfl⟩
  case round =>
    obtain ⟨lo, hi, rfl, rfl, hlp, hph, hin, hg, rfl⟩ := hrel
    have hn := hn'.out
    by_cases hlt : lo < hi
    · obtain ⟨m, hm⟩ : ∃ m, m = (lo + hi) / 2 := ⟨_, rfl⟩
      have hml : lo ≤ m := by omega
      have hmh : m < hi := by omega
      have hmn : m < keys.length := by omega
      have cm : wr.cell? ⟨g, (lo + hi) / 2, none⟩ = some (.string (keys[m])) := by rw [← hm]; exact hc _ hmn
      have h1 := hlo m hmn
      have h2 := hhi m hmn
      have hm' := Hid.mk' hm
      clear hc hlo hhi hf hm
      obtain ⟨y, hy⟩ : ∃ y, keys[m] = y := ⟨_, rfl⟩
      rw [hy] at cm h1 h2
      clear hy hn hmn
      cases hyx : kl y x
      · have hpm : p ≤ m := by
          rcases Nat.lt_or_ge m p with h | h
          · rw [h1 h] at hyx; cases hyx
          · exact h
        clear h1 h2
        go_wp2_with (first | (go_at_call 60; refine (less60 _ _ _).mono ?_; rintro e w' ⟨rfl, rfl⟩) | (go_at_call 61; refine (isNaN61 _ _).mono ?_; rintro e w' ⟨rfl, rfl⟩))
        go_roundg (m - lo)
        case measure => omega
        case rel => exact ⟨lo, m, rfl, by rw [hm'.out, show ((lo : Int) + (hi : Int)) / 2 = (((lo + hi) / 2 : Nat) : Int) by omega], hlp, hpm, by omega, Nat.le_refl _, rfl⟩
      · have hpm : m < p := by
          rcases Nat.lt_or_ge m p with h | h
          · exact h
          · rw [h2 h] at hyx; cases hyx
        clear h1 h2
        go_wp2_with (first | (go_at_call 60; refine (less60 _ _ _).mono ?_; rintro e w' ⟨rfl, rfl⟩) | (go_at_call 61; refine (isNaN61 _ _).mono ?_; rintro e w' ⟨rfl, rfl⟩))
        go_roundg (hi - (m + 1))
        case measure => omega
        case rel => exact ⟨m + 1, hi, by rw [hm'.out, show ((lo : Int) + (hi : Int)) / 2 + 1 = (((lo + hi) / 2 + 1 : Nat) : Int) by omega], rfl, hpm, hph, hin, Nat.le_refl _, rfl⟩
    · have e1 : hi = p := by omega
      have e2 : lo = p := by omega
      subst e1 e2
      by_cases hnn : lo < n
      · have cl : wr.cell? ⟨g, lo, none⟩ = some (.string (keys[lo]'(by omega))) := hc _ (by omega)
        have hkx : keys[lo]? = some (keys[lo]'(by omega)) := List.getElem?_eq_getElem (by omega)
        rw [hkx] at hf
        clear hc hlo hhi hkx
        obtain ⟨y, hy⟩ : ∃ y, keys[lo]'(by omega) = y := ⟨_, rfl⟩
        rw [hy] at cl hf
        clear hy hn
        cases f
        · have hne : (y.toList == x.toList) = false := by
            rw [beq_toList, decide_eq_false_iff_not]
            intro h; subst h; simpa using hf.2 rfl
          clear hf
          go_wp2_with (first | (go_at_call 60; refine (less60 _ _ _).mono ?_; rintro e w' ⟨rfl, rfl⟩) | (go_at_call 61; refine (isNaN61 _ _).mono ?_; rintro e w' ⟨rfl, rfl⟩))
          all_goals go_ret2
          all_goals exact ⟨rfl, rfl⟩
        · obtain rfl : y = x := by simpa using hf.1 rfl
          clear hf
          go_wp2_with (first | (go_at_call 60; refine (less60 _ _ _).mono ?_; rintro e w' ⟨rfl, rfl⟩) | (go_at_call 61; refine (isNaN61 _ _).mono ?_; rintro e w' ⟨rfl, rfl⟩))
          go_ret2
          exact ⟨rfl, rfl⟩
      · have hff : f = false := by
          cases f
          · rfl
          · have := hf.1 rfl
            rw [List.getElem?_eq_none (by omega)] at this
            cases this
        subst hff
        clear hc hlo hhi hf hn
        go_wp2_with (first | (go_at_call 60; refine (less60 _ _ _).mono ?_; rintro e w' ⟨rfl, rfl⟩) | (go_at_call 61; refine (isNaN61 _ _).mono ?_; rintro e w' ⟨rfl, rfl⟩))
        go_ret2
        exact ⟨rfl, rfl⟩

set_option maxHeartbeats 1000000 in
theorem search49e (a : Option Addr) (c : Nat) (x : ByteArray) (w : World) :
    Calls Try.prog 49 #[.slice a 0 c, .string x] w fun e w' => e = .returned (.tuple #[.int .i64 0, .bool false]) ∧ w = w' := by
  go_enter Try.func49, Try.ntmps49
  go_wp2
  go_loop [7, 8] (fun s7 s8 => s7 = .int .i64 0 ∧ s8 = .int .i64 0) (fun _ _ => 0)
  case atStart => exact ⟨rfl, rfl⟩
  case round =>
    obtain ⟨rfl, rfl⟩ := hrel
    go_wp2
    go_ret2
    exact ⟨rfl, rfl⟩

/-- find: the place of a key in an ascending row, and whether it is there. -/
theorem find31 (a : Option Addr) (n c : Nat) (keys : List ByteArray) (x : ByteArray) (p : Nat) (f : Bool) (w : World) (h : Row w 9 (.slice a n c) (keys.map .string)) (hbig : keys.length ≤ 1048576)
    (hp : p ≤ keys.length) (hlo : ∀ t (h : t < keys.length), t < p → kl keys[t] x = true) (hhi : ∀ t (h : t < keys.length), p ≤ t → kl keys[t] x = false) (hf : f = true ↔ keys[p]? = some x) :
    Calls Try.prog 31 #[.slice a n c, .string x] w fun e w' => e = .returned (.tuple #[.int .i64 p, .bool f]) ∧ w = w' := by
  obtain ⟨hn, -, -⟩ := h.cap_le
  rw [List.length_map] at hn
  have hs : Calls Try.prog 49 #[.slice a n c, .string x] w fun e w' => e = .returned (.tuple #[.int .i64 p, .bool f]) ∧ w = w' := by
    by_cases h0 : keys.length = 0
    · obtain rfl : p = 0 := by omega
      obtain rfl : n = 0 := by omega
      have hff : f = false := by
        cases f
        · rfl
        · have := hf.1 rfl
          rw [List.getElem?_eq_none (by omega)] at this
          cases this
      subst hff
      exact search49e a c x w
    · obtain ⟨g, rfl, _, hcell, _⟩ := h.at (by rw [List.length_map]; omega)
      exact search49 g n c keys x p f w hn (by omega) (fun j hj => hcell j _ (by rw [List.getElem?_map, List.getElem?_eq_getElem hj]; rfl)) (by omega) hlo hhi hf
  have hs' := Hid.mk' hs
  clear h hbig hp hlo hhi hf hn hs
  go_enter Try.func31, Try.ntmps31
  go_wp2_with (go_at_call 49; refine (hs'.out).mono ?_; rintro e w' ⟨rfl, rfl⟩)
  go_ret2
  exact ⟨rfl, rfl⟩
end Go.Proofs.Ytamnmoejjjaegaa
