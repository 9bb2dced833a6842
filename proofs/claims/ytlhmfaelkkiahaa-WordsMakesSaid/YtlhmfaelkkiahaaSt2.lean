import Derived.Test.YtlhmfaelkkiahaaSt1
import Derived.BigQuiet
namespace Go.Proofs.Ytlhmfaelkkiahaa
open Go.RowKit
open Cox (Tl)

set_option maxRecDepth 100000 in
theorem stepped_two (a b c : Int) (l : List (Fin 3)) (hl : l.length ≤ 1000) (p : Nat) (hp : p + 1 < l.length) (x : Int) (hx : 0 ≤ x ∧ x ≤ 2) (w : World) :
    Calls Try.prog 10 #[oval a b c, .string (wb l), sval 1 p x] w fun e w' => e = .returned (.string (wb (if l[p] = l[p + 1] then l.take p ++ l.drop (p + 2) else l))) ∧ Below w.heap.size w w' := by
  have zl := wb_size l
  have h1 : ¬ (p : Int) < 0 := by omega
  have h2 : ¬ (l.length : Int) < (p : Int) := by omega
  have h2' : (p : Int) ≤ (l.length : Int) := by omega
  have h2'' : (0 : Int) ≤ (p : Int) := by omega
  have h3 : ¬ x < 0 := by omega
  have h4 : ¬ 2 < x := by omega
  have h5 : (p : Int) + 1 < (l.length : Int) := by omega
  have h6 : 0 ≤ (p : Int) + 1 := by omega
  have h7 : (p : Int) < (l.length : Int) := by omega
  have h8 : (p : Int) + 2 ≤ (l.length : Int) := by omega
  have h9 : 0 ≤ (p : Int) + 2 := by omega
  have h10 : ((p : Int) + 2).toNat = p + 2 := by omega
  have hw : IntKind.i64.wrap ((p : Int) + 1) = (p : Int) + 1 := by rw [IntKind.wrap_i64]; omega
  have hw2 : IntKind.i64.wrap ((p : Int) + 2) = (p : Int) + 2 := by rw [IntKind.wrap_i64]; omega
  have hd : decide ((p : Int) + 1 < (l.length : Int)) = true := by simpa using h5
  have i0 := fun W => index_wb l p (by omega) W
  have i1 := fun W => index_wb l (p + 1) (by omega) W
  have s1 := wb_take l p
  have s2 := wb_drop l (p + 2)
  rw [zl] at s2
  have c1 := wb_append (l.take p) (l.drop (p + 2))
  have n1 : (wb (l.take p)).size = p := by rw [wb_size, List.length_take]; omega
  have n4 : (wb (l.drop (p + 2))).size = l.length - (p + 2) := by rw [wb_size]; simp
  have t3 : ¬ 9223372036854775807 < p + (l.length - (p + 2)) := by omega
  rw [Int.natCast_add, show ((1 : Nat) : Int) = 1 from rfl] at i1
  have hxe : (if l[p] = l[p + 1] then l.take p ++ l.drop (p + 2) else l) = if (((l[p]).val : Int) = ((l[p + 1]).val : Int)) then l.take p ++ l.drop (p + 2) else l := by
    by_cases e : l[p] = l[p + 1]
    · rw [if_pos e, if_pos (by rw [e])]
    · rw [if_neg e, if_neg (fun h => e (Fin.ext (by omega)))]
  rw [hxe]
  clear hxe
  generalize (((l[p]).val : Nat) : Int) = y0 at *
  generalize (((l[p + 1]).val : Nat) : Int) = y1 at *
  unfold oval sval
  have ha := AtO.newT 1 p x (w.alloc (.cells #[.int .i64 a, .int .i64 b, .int .i64 c] 23)) 32
  rw [World.size_alloc] at ha
  have hb := ((Below.refl w.heap.size w).alloc (Nat.le_refl _) (.cells #[.int .i64 a, .int .i64 b, .int .i64 c] 23)).alloc (by simp) (.cells #[.int .i64 1, .int .i64 p, .int .i64 x] 32)
  have HB := Lib.hid hb
  have HA := Lib.hid ha
  obtain ⟨a0, a1, a2, -⟩ := ha
  clear hb
  by_cases e : y0 = y1
  · rw [if_pos e]
    subst e
    generalize wb (l.take p ++ l.drop (p + 2)) = S1 at *
    generalize wb (l.take p) = S2 at *
    generalize wb (l.drop (p + 2)) = S3 at *
    generalize wb l = S at *
    go_enter Try.func10, Try.ntmps10
    go_wp2_with fail
    go_quiet (fail)
    all_goals
      go_wp2_with fail
      go_quiet (fail)
      all_goals
        go_wp2
        go_ret
        exact ⟨rfl, by first | exact HB.out | exact below_drewN HB.out _ | exact below_drewN (below_drewN HB.out _) _⟩
  · rw [if_neg e]
    have e' : (y0 == y1) = false := by simpa using e
    clear s1 s2 c1 n1 n4
    generalize wb l = S at *
    go_enter Try.func10, Try.ntmps10
    go_wp2_with fail
    go_quiet (fail)
    all_goals
      go_wp2
      go_ret
      exact ⟨rfl, by first | exact HB.out | exact below_drewN HB.out _ | exact below_drewN (below_drewN HB.out _) _⟩

set_option maxRecDepth 100000 in
theorem stepped_two' (a b c : Int) (l : List (Fin 3)) (hl : l.length ≤ 1000) (p : Nat) (hp : l.length ≤ p + 1) (hp' : p ≤ l.length) (x : Int) (hx : 0 ≤ x ∧ x ≤ 2) (w : World) :
    Calls Try.prog 10 #[oval a b c, .string (wb l), sval 1 p x] w fun e w' => e = .returned (.string (wb l)) ∧ Below w.heap.size w w' := by
  have zl := wb_size l
  have h1 : ¬ (p : Int) < 0 := by omega
  have h2 : ¬ (l.length : Int) < (p : Int) := by omega
  have h2' : (p : Int) ≤ (l.length : Int) := by omega
  have h2'' : (0 : Int) ≤ (p : Int) := by omega
  have h3 : ¬ x < 0 := by omega
  have h4 : ¬ 2 < x := by omega
  have h5 : ¬ (p : Int) + 1 < (l.length : Int) := by omega
  have h6 : 0 ≤ (p : Int) + 1 := by omega
  have hw : IntKind.i64.wrap ((p : Int) + 1) = (p : Int) + 1 := by rw [IntKind.wrap_i64]; omega
  have hd : decide ((p : Int) + 1 < (l.length : Int)) = false := by simpa using h5
  unfold oval sval
  have ha := AtO.newT 1 p x (w.alloc (.cells #[.int .i64 a, .int .i64 b, .int .i64 c] 23)) 32
  rw [World.size_alloc] at ha
  have hb := ((Below.refl w.heap.size w).alloc (Nat.le_refl _) (.cells #[.int .i64 a, .int .i64 b, .int .i64 c] 23)).alloc (by simp) (.cells #[.int .i64 1, .int .i64 p, .int .i64 x] 32)
  have HB := Lib.hid hb
  obtain ⟨a0, a1, a2, -⟩ := ha
  clear hb
  generalize wb l = S at *
  go_enter Try.func10, Try.ntmps10
  go_wp2_with fail
  go_quiet (fail)
  all_goals
    go_wp2
    go_ret
    exact ⟨rfl, by first | exact HB.out | exact below_drewN HB.out _ | exact below_drewN (below_drewN HB.out _) _⟩

set_option maxRecDepth 100000 in
theorem stepped_else (a b c : Int) (l : List (Fin 3)) (p : Nat) (hp' : p ≤ l.length) (x : Int) (hx : 0 ≤ x ∧ x ≤ 2) (k : Int) (hk0 : k ≠ 0) (hk1 : k ≠ 1) (hk2 : k ≠ 2) (w : World) :
    Calls Try.prog 10 #[oval a b c, .string (wb l), sval k p x] w fun e w' => e = .returned (.string (wb l)) ∧ Below w.heap.size w w' := by
  have zl := wb_size l
  have h1 : ¬ (p : Int) < 0 := by omega
  have h2 : ¬ (l.length : Int) < (p : Int) := by omega
  have h3 : ¬ x < 0 := by omega
  have h4 : ¬ 2 < x := by omega
  have k0 : (k == 0) = false := by simpa using hk0
  have k1 : (k == 1) = false := by simpa using hk1
  have k2 : (k == 2) = false := by simpa using hk2
  unfold oval sval
  have hb := ((Below.refl w.heap.size w).alloc (Nat.le_refl _) (.cells #[.int .i64 a, .int .i64 b, .int .i64 c] 23)).alloc (by simp) (.cells #[.int .i64 k, .int .i64 p, .int .i64 x] 32)
  have HB := Lib.hid hb
  clear hb
  generalize wb l = S at *
  go_enter Try.func10, Try.ntmps10
  go_wp2
  go_ret
  exact ⟨rfl, HB.out⟩
end Go.Proofs.Ytlhmfaelkkiahaa
