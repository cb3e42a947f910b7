/- Numbers: number, Number, Quantity. No conditions but the laid tables. -/
import Derived.Test.YtgnnjkmlnfdngaaDoorG
set_option linter.unusedVariables false
set_option linter.unusedSimpArgs false
namespace Go.Proofs.YtgnnjkmlnfdngaaDoor
open Go Go.RowKit Go.Sort

/-- What the package variables hold. -/
def kindsL : List (List UInt8) := [[], [110, 97, 109, 101], [99, 108, 97, 115, 115], [102, 114, 97, 103, 109, 101, 110, 116], [99, 111, 110, 116, 97, 105, 110, 101, 114], [115, 101, 116], [99, 111, 112, 121], [118, 111, 108, 117, 109, 101], [113, 117, 111, 116, 97], [104, 111, 108, 100], [100, 97, 116, 97]]
def Lay (w : World) : Prop := Lib.TabIs Tryd.prog w "internal/strconv.uint64pow10" .u64 Lib.pow10Tab ∧ w.var? Tryd.prog "tapearchive/report.kinds" = some (kindsL.map tv).toArray
theorem var_new {w w' : World} {n : String} {cs : Array Value} (h : w.var? Tryd.prog n = some cs) (k : Chg NoB w w') : w'.var? Tryd.prog n = some cs := by
  unfold World.var? at h ⊢
  rcases hg : Tryd.prog.globalNamed n with _ | g
  · rw [hg] at h; cases h
  · rw [hg] at h
    simp only [Option.bind_some] at h ⊢
    rcases hh : w.heap[g]? with _ | o
    · rw [hh] at h; cases h
    · rw [hh] at h
      rw [k.heap (fun h => h) hh]; exact h
theorem Lay.new {w w' : World} (h : Lay w) (k : Chg NoB w w') : Lay w' := ⟨var_new h.1 k, var_new h.2 k⟩

theorem chg_of_grow {w : World} (k : Nat) (os : Array Obj) : Chg NoB w (grow (w.drewN k) os) :=
  ⟨rfl, rfl, rfl, by simp [grow, World.drewN], fun j hj _ => by
    simp only [grow, World.drewN]
    rw [Array.getElem?_append_left hj]⟩

theorem nDigits_le (k u : Nat) (h : u < 10 ^ k) (hk : 1 ≤ k) : Lib.nDigits u ≤ k := by
  induction k generalizing u with
  | zero => omega
  | succ k ih =>
    by_cases hu : u < 10
    · rw [Lib.nDigits_small hu]; omega
    · rw [Lib.nDigits_big hu]
      rcases Nat.eq_zero_or_pos k with rfl | hk
      · simp at h; omega
      · have := ih (u / 10) (by rw [Nat.pow_succ] at h; omega) hk
        omega
theorem itoa_le (n : Int) (h0 : -9223372036854775808 ≤ n) (h1 : n ≤ 9223372036854775807) : (Lib.itoa n).length ≤ 20 := by
  have h : ∀ u : Nat, u ≤ 9223372036854775808 → Lib.nDigits u ≤ 19 := fun u hu => nDigits_le 19 u (by omega) (by omega)
  unfold Lib.itoa
  split
  · rw [List.length_cons, Lib.decDigits_length]
    have := h n.natAbs (by omega)
    omega
  · rw [Lib.decDigits_length]
    have := h n.toNat (by omega)
    omega

set_option maxHeartbeats 4000000 in
set_option maxRecDepth 100000 in
theorem number30 (n : Int) (h0 : -9223372036854775808 ≤ n) (h1 : n ≤ 9223372036854775807) (w : World) (hL : Lay w) :
    Calls Tryd.prog 30 #[.int .i64 n] w fun e w' => e = .returned (tv (Lib.itoa n)) ∧ Chg NoB w w' := by
  have c36 := Hid.mk' (Tryd.strconv_Itoa n h0 h1 w hL.1)
  obtain ⟨L, hLL⟩ : ∃ L, Lib.itoa n = L := ⟨_, rfl⟩
  rw [hLL] at c36 ⊢
  clear h0 h1 hL hLL
  go_enter Tryd.func30, Tryd.ntmps30
  go_wp2_with (go_at_call 36; refine c36.out.mono ?_; rintro e w2 ⟨rfl, k, os, rfl⟩)
  go_ret
  exact ⟨rfl, chg_of_grow _ _⟩

/-- A number with a unit. -/
def quantL (n : Int) : List UInt8 := if n ≠ 0 ∧ n.tmod 1048576 = 0 then Lib.itoa (n.tdiv 1048576) ++ [77] else if n ≠ 0 ∧ n.tmod 1024 = 0 then Lib.itoa (n.tdiv 1024) ++ [75] else Lib.itoa n

theorem tdiv_range (n m : Int) (hm : 1 ≤ m) (h0 : -9223372036854775808 ≤ n) (h1 : n ≤ 9223372036854775807) : -9223372036854775808 ≤ n.tdiv m ∧ n.tdiv m ≤ 9223372036854775807 := by
  have key : ∀ k : Int, 0 ≤ k → 0 ≤ k.tdiv m ∧ k.tdiv m ≤ k := fun k hk => by
    rw [Int.tdiv_eq_ediv_of_nonneg hk]
    exact ⟨Int.ediv_nonneg hk (by omega), Int.ediv_le_self _ hk⟩
  rcases Int.lt_or_le n 0 with hn | hn
  · have h := key (-n) (by omega)
    rw [Int.neg_tdiv] at h
    omega
  · have h := key n hn
    omega
end Go.Proofs.YtgnnjkmlnfdngaaDoor
