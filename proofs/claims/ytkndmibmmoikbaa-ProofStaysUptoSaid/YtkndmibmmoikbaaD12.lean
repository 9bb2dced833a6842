/- Chapter 10: Pf4. -/
import Derived.Test.YtkndmibmmoikbaaD09
set_option linter.all false
set_option maxRecDepth 100000
set_option maxHeartbeats 16000000
namespace Go.Proofs.Ytkndmibmmoikbaa
open Go.RowKit
open Cox (Tl)
theorem cross_known (A : Nat → Nat) (la : Nat → Int) (st : List Tl) (p x : Nat) (s : Fin 3) (w : World) (hr : PRep w A la st) (nd : Tl) (hx : st[x]? = some nd) (y : Nat) (hy : nd.to s = some y) :
 Calls Try.prog 60 #[.pointer (some ⟨p, 0, none⟩), .pointer (some ⟨A x, 0, none⟩), .int .i64 (s.val : Int)] w fun e w' => e = .returned (.pointer (some ⟨A y, 0, none⟩)) ∧ w' = w := by
 have c1 := hr.to hx s
 rw [hy] at c1
 simp only [tv] at c1
 have hs := s.isLt
 have i3 : (s.val : Int) < 3 := by omega
 have i4 : (0 : Int) ≤ (s.val : Int) := by omega
 clear hr hx hs
 go_enter Try.func60, Try.ntmps60
 go_wp2
 go_ret
 exact ⟨rfl, rfl⟩
end Go.Proofs.Ytkndmibmmoikbaa
