import Derived.Test.YtlhmfaelkkiahaaLaw3
import Derived.Deep.RegionHeld3
import Derived.StillTactics
namespace Go.Proofs.Ytlhmfaelkkiahaa
open Go.RowKit
open Cox (Tl)

theorem between_any (a b c : Int) (i j : Int) (hi : 0 ≤ i ∧ i ≤ 2) (hj : 0 ≤ j ∧ j ≤ 2) (w : World) :
    Calls Try.prog 29 #[oval a b c, .int .i64 i, .int .i64 j] w fun e w' => e = .returned (.int .i64 (if i + j = 1 then a else if i + j = 3 then b else c)) ∧ Below w.heap.size w w' := by
  unfold oval
  by_cases h1 : i + j = 1
  · have e1 : (i + j == 1) = true := by simpa using h1
    rw [if_pos h1]
    go_enter Try.func29, Try.ntmps29
    go_wp2
    go_ret
    exact ⟨rfl, (Below.refl _ _).alloc (Nat.le_refl _) _⟩
  · have e1 : (i + j == 1) = false := by simpa using h1
    rw [if_neg h1]
    by_cases h3 : i + j = 3
    · have e3 : (i + j == 3) = true := by simpa using h3
      rw [if_pos h3]
      go_enter Try.func29, Try.ntmps29
      go_wp2
      go_ret
      exact ⟨rfl, (Below.refl _ _).alloc (Nat.le_refl _) _⟩
    · have e3 : (i + j == 3) = false := by simpa using h3
      rw [if_neg h3]
      go_enter Try.func29, Try.ntmps29
      go_wp2
      go_ret
      exact ⟨rfl, (Below.refl _ _).alloc (Nat.le_refl _) _⟩

/-- a step, as a value -/
def sval (k at' l : Int) : Value := .agg #[.int .i64 k, .int .i64 at', .int .i64 l]

set_option maxRecDepth 100000 in
theorem stepped_out (a b c : Int) (s : ByteArray) (hs : s.size ≤ maxLen) (k p x : Int) (h : p < 0 ∨ (s.size : Int) < p ∨ x < 0 ∨ 2 < x) (w : World) :
    Calls Try.prog 10 #[oval a b c, .string s, sval k p x] w fun e w' => e = .returned (.string s) ∧ Below w.heap.size w w' := by
  have hs2 : s.size ≤ maxLen := hs
  unfold maxLen at hs2
  unfold oval sval
  have hcase : p < 0 ∨ (¬ p < 0 ∧ (s.size : Int) < p) ∨ (¬ p < 0 ∧ ¬ (s.size : Int) < p ∧ x < 0) ∨ (¬ p < 0 ∧ ¬ (s.size : Int) < p ∧ ¬ x < 0 ∧ 2 < x) := by omega
  clear h
  rcases hcase with h1 | ⟨h1, h2⟩ | ⟨h1, h2, h3⟩ | ⟨h1, h2, h3, h4⟩
  all_goals
    go_enter Try.func10, Try.ntmps10
    go_wp2
    go_ret
    exact ⟨rfl, ((Below.refl _ _).alloc (Nat.le_refl _) _).alloc (by simp) _⟩
end Go.Proofs.Ytlhmfaelkkiahaa
