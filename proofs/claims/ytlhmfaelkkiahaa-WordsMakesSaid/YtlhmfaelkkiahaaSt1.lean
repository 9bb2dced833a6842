import Derived.Test.YtlhmfaelkkiahaaSt0
namespace Go.Proofs.Ytlhmfaelkkiahaa
open Go.RowKit
open Cox (Tl)

theorem AtO.newT (a b c : Int) (w : World) (T : TypeId) : AtO a b c w.heap.size (w.alloc (.cells #[.int .i64 a, .int .i64 b, .int .i64 c] T)) := by
  have := str_new w #[.int .i64 a, .int .i64 b, .int .i64 c] T _ rfl
  exact ⟨cell_of this 0, cell_of this 1, cell_of this 2, by simp⟩

set_option maxRecDepth 100000 in
theorem stepped_in (a b c : Int) (l : List (Fin 3)) (hl : l.length ≤ 1000) (p : Nat) (hp : p ≤ l.length) (x : Fin 3) (w : World) :
    Calls Try.prog 10 #[oval a b c, .string (wb l), sval 0 p (x.val : Int)] w fun e w' => e = .returned (.string (wb (l.take p ++ [x] ++ [x] ++ l.drop p))) ∧ Below w.heap.size w w' := by
  have HL0 := overO (fun w => letter_any x w) 0 p (x.val : Int)
  have zl := wb_size l
  have h1 : ¬ (p : Int) < 0 := by omega
  have h2 : ¬ (l.length : Int) < (p : Int) := by omega
  have h2' : (p : Int) ≤ (l.length : Int) := by omega
  have h2'' : (0 : Int) ≤ (p : Int) := by omega
  have h3 : ¬ ((x.val : Nat) : Int) < 0 := by omega
  have h4 : ¬ 2 < ((x.val : Nat) : Int) := by omega
  have s1 := wb_take l p
  have s2 := wb_drop l p
  rw [zl] at s2
  have c1 := wb_append (l.take p) [x]
  have c2 := wb_append (l.take p ++ [x]) [x]
  have c3 := wb_append (l.take p ++ [x] ++ [x]) (l.drop p)
  have n1 : (wb (l.take p)).size = p := by rw [wb_size, List.length_take]; omega
  have n2 : (wb (l.take p ++ [x])).size = p + 1 := by rw [wb_size]; simp; omega
  have n3 : (wb (l.take p ++ [x] ++ [x])).size = p + 2 := by rw [wb_size]; simp; omega
  have n4 : (wb (l.drop p)).size = l.length - p := by rw [wb_size]; simp
  have n5 : (wb [x]).size = 1 := by rw [wb_size]; rfl
  have t1 : ¬ 9223372036854775807 < p + 1 := by omega
  have t2 : ¬ 9223372036854775807 < p + 1 + 1 := by omega
  have t3 : ¬ 9223372036854775807 < p + 2 + (l.length - p) := by omega
  unfold oval sval
  generalize wb (l.take p ++ [x] ++ [x] ++ l.drop p) = S1 at *
  generalize wb (l.take p ++ [x] ++ [x]) = S2 at *
  generalize wb (l.take p ++ [x]) = S3 at *
  generalize wb (l.take p) = S4 at *
  generalize wb (l.drop p) = S5 at *
  generalize wb [x] = S6 at *
  generalize wb l = S at *
  generalize ((x.val : Nat) : Int) = xi at *
  have HL := Lib.hid HL0
  have ha := AtO.newT 0 p xi (w.alloc (.cells #[.int .i64 a, .int .i64 b, .int .i64 c] 23)) 32
  rw [World.size_alloc] at ha
  have hb := ((Below.refl w.heap.size w).alloc (Nat.le_refl _) (.cells #[.int .i64 a, .int .i64 b, .int .i64 c] 23)).alloc (by simp) (.cells #[.int .i64 0, .int .i64 p, .int .i64 xi] 32)
  have HB := Lib.hid hb
  have HA := Lib.hid ha
  obtain ⟨a0, a1, a2, -⟩ := ha
  clear HL0 hb
  go_enter Try.func10, Try.ntmps10
  go_wp2_with fail
  go_region_held3 (fun w' => w'.cell? ⟨w.heap.size + 1, 0, none⟩ = some (.int .i64 0) ∧ w'.cell? ⟨w.heap.size + 1, 1, none⟩ = some (.int .i64 p) ∧ w'.cell? ⟨w.heap.size + 1, 2, none⟩ = some (.int .i64 xi))
    ((first | exact ⟨a0, a1, a2⟩ | (obtain ⟨g0, g1, g2, -⟩ := ‹AtO _ _ _ _ _›; exact ⟨g0, g1, g2⟩)))
    (first | (go_at_call 28; with_reducible refine (HL.out _ _ _ (HA.out.below (Below.refl _ _).drew) HB.out.drew).mono ?_; rintro e w2 ⟨rfl, ha, hb⟩) | (go_at_call 28; with_reducible refine (HL.out _ _ _ ha hb).mono ?_; rintro e w3 ⟨rfl, ha3, hb3⟩))
  all_goals
    go_wp2
    go_ret
    exact ⟨rfl, by assumption⟩
end Go.Proofs.Ytlhmfaelkkiahaa
