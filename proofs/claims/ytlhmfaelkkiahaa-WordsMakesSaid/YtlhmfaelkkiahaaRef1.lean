import Derived.Test.YtlhmfaelkkiahaaRef0
namespace Go.Proofs.Ytlhmfaelkkiahaa
open Go.RowKit
open Cox (Tl)

theorem other_any (a b : Int) (n : Nat) (w : World) : Calls Try.prog 48 #[.int .i64 a, .int .i64 b, .int .i64 n] w fun e w' => e = .returned (.int .i64 (if n % 2 = 0 then a else b)) ∧ w' = w := by
  rcases Nat.mod_two_eq_zero_or_one n with h | h
  · have h1 : (n : Int).tmod 2 = 0 := by rw [Int.tmod_eq_emod_of_nonneg (by omega)]; omega
    rw [if_pos h]
    go_enter Try.func48, Try.ntmps48
    go_wp2
    go_ret
    exact ⟨rfl, rfl⟩
  · have h1 : (n : Int).tmod 2 = 1 := by rw [Int.tmod_eq_emod_of_nonneg (by omega)]; omega
    rw [if_neg (by omega)]
    go_enter Try.func48, Try.ntmps48
    go_wp2
    go_ret
    exact ⟨rfl, rfl⟩

set_option maxRecDepth 100000 in
theorem gstep_known (a b c : Int) (B G : Nat) (w : World) (st : List Tl) (hg : GS a b c B G w st) (x : Nat) (s : Fin 3) (nd : Tl) (hx : st[x]? = some nd) (y : Nat) (hy : nd.to s = some y) :
    Calls Try.prog 45 #[.pointer (some ⟨G, 0, none⟩), .int .i64 x, .int .i64 (s.val : Int)] w fun e w' => e = .returned (.int .i64 y) ∧ w' = w := by
  obtain ⟨R, cap, cur, h⟩ := hg
  have c0 := h.slice
  have c1 := h.to hx s
  rw [hy] at c1
  simp only [gi] at c1
  have hxl : x < st.length := (List.getElem?_eq_some_iff.1 hx).1
  have hs := s.isLt
  have i1 : (x : Int) < (st.length : Int) := by omega
  have i2 : (0 : Int) ≤ (x : Int) := by omega
  have i3 : (s.val : Int) < 3 := by omega
  have i4 : (0 : Int) ≤ (s.val : Int) := by omega
  have i5 : (0 : Int) ≤ (y : Int) := by omega
  clear h hx hs
  go_enter Try.func45, Try.ntmps45
  go_wp2
  go_ret
  exact ⟨rfl, rfl⟩
end Go.Proofs.Ytlhmfaelkkiahaa
