import Derived.Test.YtlhmfaelkkiahaaLaw1
namespace Go.Proofs.Ytlhmfaelkkiahaa
open Go.RowKit
open Cox (Tl)

theorem letter_any (i : Fin 3) (w : World) : Calls Try.prog 28 #[.int .i64 (i.val : Int)] w fun e w' => e = .returned (.string (wb [i])) ∧ Below w.heap.size w w' := by
  have hcv := fun W b o => conv_byte i W ⟨b, o, none⟩ rfl
  match i with
  | 0 =>
    go_enter Try.func28, Try.ntmps28
    go_wp2
    go_ret
    exact ⟨rfl, (Below.refl _ _).alloc (Nat.le_refl _) _⟩
  | 1 =>
    go_enter Try.func28, Try.ntmps28
    go_wp2
    go_ret
    exact ⟨rfl, (Below.refl _ _).alloc (Nat.le_refl _) _⟩
  | 2 =>
    go_enter Try.func28, Try.ntmps28
    go_wp2
    go_ret
    exact ⟨rfl, (Below.refl _ _).alloc (Nat.le_refl _) _⟩

theorem wb_mid (l : List (Fin 3)) (i j : Nat) : (wb l).extract i j = wb ((l.drop i).take (j - i)) := by
  refine ba_ext ?_
  rw [wb_data]
  simp [wb]

theorem divides_any (n m : Int) (hn : n < 1000) (hm : 0 ≤ m ∧ m < 1000) (w : World) : Calls Try.prog 21 #[.int .i64 n, .int .i64 m] w fun e w' => e = .returned (.bool (decide (0 < n ∧ 0 < m ∧ m % n = 0))) ∧ w' = w := by
  by_cases h1 : 0 < n
  · by_cases h2 : 0 < m
    · have h3 : ¬ n = 0 := by omega
      have h4 : (n == 0) = false := by simpa using h3
      have h5 : m.tmod n = m % n := Int.tmod_eq_emod_of_nonneg (by omega)
      by_cases h6 : m % n = 0
      · rw [decide_eq_true ⟨h1, h2, h6⟩]
        go_enter Try.func21, Try.ntmps21
        go_wp2
        go_ret
        exact ⟨rfl, rfl⟩
      · rw [decide_eq_false (fun h => h6 h.2.2)]
        go_enter Try.func21, Try.ntmps21
        go_wp2
        go_ret
        exact ⟨by simp [h6], rfl⟩
    · rw [decide_eq_false (fun h => h2 h.2.1)]
      go_enter Try.func21, Try.ntmps21
      go_wp2
      go_ret
      exact ⟨rfl, rfl⟩
  · rw [decide_eq_false (fun h => h1 h.1)]
    go_enter Try.func21, Try.ntmps21
    go_wp2
    go_ret
    exact ⟨rfl, rfl⟩

theorem turned_any (l : List (Fin 3)) (hl : l.length ≤ 1000) (w : World) : Calls Try.prog 20 #[.string (wb l)] w fun e w' => e = .returned (.string (wb l.reverse)) ∧ w' = w := by
  have zl := wb_size l
  go_enter Try.func20, Try.ntmps20
  go_wp2
  go_loopw [3, 4] (fun s i wr => wr = w ∧ ∃ k : Nat, k ≤ l.length ∧ i = .int .i64 k ∧ s = .string (wb (l.take k).reverse)) (fun _ i _ => l.length - (intOf i).toNat)
  case atStart => exact ⟨rfl, 0, by omega, rfl, rfl⟩
  case round =>
    obtain ⟨rfl, k, hk, rfl, rfl⟩ := hrel
    by_cases hlt : k < l.length
    · have k1 : (k : Int) < (l.length : Int) := by omega
      have k2 : (0 : Int) ≤ (k : Int) := by omega
      have k3 : ((k : Int) + 1) ≤ (l.length : Int) := by omega
      have k4 : (0 : Int) ≤ (k : Int) + 1 := by omega
      have k5 : (k : Int) ≤ (k : Int) + 1 := by omega
      have k6 : ((k : Int) + 1).toNat = k + 1 := by omega
      have hm : (wb l).extract k (k + 1) = wb [l[k]] := by
        rw [wb_mid]
        have : k + 1 - k = 1 := by omega
        rw [this, List.drop_eq_getElem_cons hlt]; rfl
      have ha := wb_append [l[k]] (l.take k).reverse
      have hs : ¬ 9223372036854775807 < (wb [l[k]]).size + (wb (l.take k).reverse).size := by rw [wb_size, wb_size]; simp; omega
      go_wp2
      refine ⟨⟨trivial, k + 1, by omega, by simp, ?_⟩, by simp [intOf]; omega⟩
      rw [List.take_succ_eq_append_getElem hlt, List.reverse_append]; rfl
    · have hke : k = l.length := by omega
      subst hke
      go_wp2
      go_ret
      simp
end Go.Proofs.Ytlhmfaelkkiahaa
