import Derived.Test.YtlhmfaelkkiahaaGrow2
import Derived.Deep.QuietTactic
import Derived.BigQuiet
import Derived.Defers
import Derived.Recover
namespace Go.Proofs.Ytlhmfaelkkiahaa
open Go.RowKit
open Cox (Tl)

def oval (a b c : Int) : Value := .agg #[.int .i64 a, .int .i64 b, .int .i64 c]

theorem table_any (a b c : Int) (w : World) : Calls Try.prog 43 #[oval a b c] w fun e w' =>
    e = .returned (.agg #[.int .i64 0, .int .i64 a, .int .i64 c, .int .i64 a, .int .i64 0, .int .i64 b, .int .i64 c, .int .i64 b, .int .i64 0]) ∧ Below w.heap.size w w' := by
  unfold oval
  go_enter Try.func43, Try.ntmps43
  go_wp2
  refine bodyPost_ret (v := .agg #[.int .i64 0, .int .i64 a, .int .i64 c, .int .i64 a, .int .i64 0, .int .i64 b, .int .i64 c, .int .i64 b, .int .i64 0]) (by simp [results, Try.results43, go_sem]) rfl ⟨rfl, ?_⟩
  exact ((Below.refl _ _).alloc (Nat.le_refl _) _).alloc (by simp) _

def ords (a b c : Nat) : Fin 3 → Fin 3 → Nat := fun i j => if i = j then 0 else if i.val + j.val = 1 then a else if i.val + j.val = 3 then b else c

/-- a new plane -/
theorem new_any (a b c : Nat) (w : World) : Calls Try.prog 36 #[oval a b c] w fun e w' =>
    ∃ p F, e = .returned (.pointer (some ⟨p, 0, none⟩)) ∧ w'.heap[p]? = some (.cells (pcells (ords a b c) F) 65 (0, 0)) ∧ p ≠ F ∧ w.heap.size ≤ F ∧ w.heap.size ≤ p ∧ Rep w' (fun _ => F) [Cox.first] ∧ Below w.heap.size w w' := by
  have HT := fun w => table_any a b c w
  unfold oval at *
  go_enter Try.func36, Try.ntmps36
  go_wp2_with (go_at_call 43; refine (HT _).mono ?_; rintro e w2 ⟨rfl, hb⟩)
  have hz : w.heap.size < w2.heap.size := by have := hb.size; simp at this; omega
  have hb0 : Below w.heap.size w w2 := ((Below.refl _ _).alloc (Nat.le_refl _) _).trans (hb.mono (by simp))
  have HB := Lib.hid hb0
  clear hb hb0 HT
  go_wp2_with fail
  go_ret
  refine ⟨w2.heap.size + 1, w2.heap.size, rfl, ?_, by omega, by omega, by omega, ?_, ?_⟩
  · show ((w2.heap.push _).push _)[w2.heap.size + 1]? = _
    rw [Array.getElem?_push, if_pos (by simp)]
    rfl
  · refine ⟨?_, ?_, ?_⟩
    · intro k nd hk
      have hk0 : k = 0 := by have := (List.getElem?_eq_some_iff.1 hk).1; simp at this; exact this
      subst hk0
      cases hk
      show ((w2.heap.push _).push _)[w2.heap.size]? = _
      rw [Array.getElem?_push, if_neg (by simp), Array.getElem?_push, if_pos rfl]
      rfl
    · intro j k hj hk _
      simp at hj hk; omega
    · intro k nd i b hk hb
      have hk0 : k = 0 := by have := (List.getElem?_eq_some_iff.1 hk).1; simp at this; exact this
      subst hk0
      cases hk; cases hb
  · exact (HB.out.alloc (by omega) _).alloc (by simp; omega) _

theorem drewN_two (w : World) (n m : Nat) : (w.drewN n).drewN m = w.drewN (n + m) := by simp [World.drewN, Nat.add_assoc]

theorem gcd_step (x y : Nat) : Nat.gcd y (x % y) = Nat.gcd x y := by
  rw [Nat.gcd_comm y, ← Nat.gcd_rec, Nat.gcd_comm]

theorem divisor_any (a b : Nat) (ha : a < 1000000000) (hb : b < 1000000000) (w : World) : Calls Try.prog 42 #[.int .i64 a, .int .i64 b] w fun e w' => e = .returned (.int .i64 (Nat.gcd a b : Nat)) ∧ ∃ n, w' = w.drewN n := by
  go_enter Try.func42, Try.ntmps42
  go_wp2
  go_loopw [0, 1] (fun s t wr => ∃ (x y n : Nat), s = .int .i64 x ∧ t = .int .i64 y ∧ Hid (Nat.gcd x y = Nat.gcd a b) ∧ x < 1000000000 ∧ y < 1000000000 ∧ wr = w.drewN n) (fun _ t _ => (intOf t).toNat)
  case atStart => exact ⟨a, b, 0, rfl, rfl, Lib.hid rfl, ha, hb, rfl⟩
  case round =>
    obtain ⟨x, y, n, rfl, rfl, HG, hx, hy, rfl⟩ := hrel
    by_cases h : y = 0
    · have hg := HG.out
      subst h
      rw [Nat.gcd_zero_right] at hg
      have HG2 := Lib.hid hg
      clear hg
      go_wp2
      go_ret
      exact ⟨by rw [← HG2.out]; rfl, n, rfl⟩
    · have hy0 : 0 < y := by omega
      have hmod := Nat.mod_lt x hy0
      have hle := Nat.mod_le x y
      clear h
      go_wp2
      go_quiet (fail)
      go_wp2
      go_roundw
      case rel => exact ⟨y, x % y, _, rfl, by go_num, Lib.hid (by rw [gcd_step]; exact HG.out), by omega, by omega, drewN_two _ _ _⟩
      case measure => simp [intOf]; omega
end Go.Proofs.Ytlhmfaelkkiahaa
