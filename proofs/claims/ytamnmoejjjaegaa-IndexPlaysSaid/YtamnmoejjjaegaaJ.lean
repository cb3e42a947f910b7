/- How a slice of calls reads in memory; what few returns. No conditions beyond the lengths. -/
import Derived.Test.YtamnmoejjjaegaaA0
import Derived.Test.YtamnmoejjjaegaaProg
import Derived.Deep.LoopGhost
import Derived.Deep.Slices
import Derived.Lib.SmallJoins
set_option linter.unusedVariables false
set_option linter.unusedSimpArgs false
namespace Go.Proofs.Ytamnmoejjjaegaa
open Go Go.RowKit

/-- A call: kind, key, value, equal. -/
abbrev St := Int × ByteArray × Int × Bool
/-- The four cells of one call. -/
def StepAt (w : World) (a : Addr) (s : St) : Prop :=
  w.cell? a = some (.int .i64 s.1) ∧ w.cell? ⟨a.block, a.off + 1, none⟩ = some (.string s.2.1) ∧ w.cell? ⟨a.block, a.off + 2, none⟩ = some (.int .i64 s.2.2.1) ∧ w.cell? ⟨a.block, a.off + 3, none⟩ = some (.bool s.2.2.2)
/-- A slice of calls. -/
def Steps (w : World) (A : Option Addr) (n : Nat) (l : List St) : Prop :=
  n = l.length ∧ ∀ i s, l[i]? = some s → ∃ a, A = some a ∧ StepAt w (a.add (i * 4)) s
theorem Steps.chg {w w' : World} {A : Option Addr} {n : Nat} {l : List St} (h : Steps w A n l) (k : Chg NoB w w') : Steps w' A n l :=
  ⟨h.1, fun i s hs => by
    obtain ⟨a, ha, h1, h2, h3, h4⟩ := h.2 i s hs
    exact ⟨a, ha, k.cell (fun h => h) h1, k.cell (fun h => h) h2, k.cell (fun h => h) h3, k.cell (fun h => h) h4⟩⟩

/-- Whether calls may be examined. -/
def fewB (most : Nat) (l : List St) : Bool := decide (l.length ≤ most) && l.all fun s => decide (s.2.1.size ≤ 1024)

set_option maxHeartbeats 4000000 in
set_option maxRecDepth 100000 in
theorem few9 (A : Option Addr) (n c most : Nat) (l : List St) (w : World) (h : Steps w A n l) (hm : most ≤ 1000) :
    Calls Try.prog 9 #[.slice A n c, .int .i64 (most : Int)] w fun e w' => e = .returned (.bool (fewB most l)) ∧ w = w' := by
  obtain ⟨hn, hs⟩ := h
  by_cases hlen : l.length ≤ most
  · have b0 : ¬ ((most : Int) < (n : Int)) := by omega
    have b1 : decide ((most : Int) < (n : Int)) = false := by simp; omega
    obtain ⟨r, hr⟩ : ∃ r, fewB most l = r := ⟨_, rfl⟩
    rw [hr]
    have hr' : (l.all fun s => decide (s.2.1.size ≤ 1024)) = r := by rw [← hr]; simp [fewB, hlen]
    have hd := Hid.mk' (show (l.drop 0).all (fun s => decide (s.2.1.size ≤ 1024)) = r from hr')
    have hs' := Hid.mk' hs
    have hn' := Hid.mk' hn
    have n1000 : n ≤ 1000 := by omega
    clear hr hr' hs hn hlen
    go_enter Try.func9, Try.ntmps9
    go_wp2
    go_loopg [5] n (fun gq s5 wr => ∃ i, i + gq = n ∧ s5 = .int .i64 (i : Int) ∧ (l.drop i).all (fun s => decide (s.2.1.size ≤ 1024)) = r ∧ wr = w)
    case atStart => exact ⟨0, by omega, rfl, hd.out, rfl⟩
    case round =>
      obtain ⟨i, hgi, rfl, hall, rfl⟩ := hrel
      have n3 : IntKind.i64.wrap ((i : Int) + 1) = (i : Int) + 1 := by rw [IntKind.wrap_i64]; omega
      by_cases hi : i < n
      · have hi2 : i < l.length := by have := hn'.out; omega
        obtain ⟨s, hsi⟩ : ∃ s, l[i]? = some s := ⟨_, List.getElem?_eq_getElem hi2⟩
        obtain ⟨a, rfl, -, e1, -, -⟩ := hs'.out i s hsi
        have b2 : (i : Int) < (n : Int) := by omega
        have hdr : l.drop i = s :: l.drop (i + 1) := by
          rw [List.drop_eq_getElem_cons hi2]
          rw [List.getElem?_eq_getElem hi2] at hsi
          rw [Option.some.inj hsi]
        rw [hdr, List.all_cons] at hall
        obtain ⟨g', rfl⟩ : ∃ g', gk = g' + 1 := ⟨gk - 1, by omega⟩
        obtain ⟨k, hk⟩ : ∃ k, s.2.1 = k := ⟨_, rfl⟩
        rw [hk] at hall e1
        clear hdr hsi hd hi2
        by_cases hbig : k.size ≤ 1024
        · have c1 : ¬ ((1024 : Int) < (k.size : Int)) := by omega
          have hall' := Hid.mk' hall
          clear hall hk
          go_wp2_with fail
          go_roundg g'
          case measure => omega
          case rel => exact ⟨i + 1, by omega, by simp, by simpa [hbig] using hall'.out, rfl⟩
        · have c1 : (1024 : Int) < (k.size : Int) := by omega
          obtain rfl : r = false := by rw [← hall]; simp [hbig]
          clear hall hk
          go_wp2_with fail
          go_ret
          exact ⟨rfl, rfl⟩
      · obtain rfl : i = n := by omega
        obtain rfl : r = true := by rw [← hall, List.drop_of_length_le (by have := hn'.out; omega)]; rfl
        clear hall hd
        go_wp2_with fail
        go_ret
        exact ⟨rfl, rfl⟩
  · have b0 : (most : Int) < (n : Int) := by omega
    have e : fewB most l = false := by simp [fewB, hlen]
    rw [e]
    clear hs
    go_enter Try.func9, Try.ntmps9
    go_wp2
    go_ret
    exact ⟨rfl, rfl⟩
end Go.Proofs.Ytamnmoejjjaegaa
