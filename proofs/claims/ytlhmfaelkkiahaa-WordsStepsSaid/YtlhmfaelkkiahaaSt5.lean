import Derived.Test.YtlhmfaelkkiahaaSt4
namespace Go.Proofs.Ytlhmfaelkkiahaa
open Go.RowKit
open Cox (Tl)

/-- a step keeps the tile to which a word leads -/
theorem stepped_any {K : Type} [Cox.OR K] (T : Cox.Tri K) (a b c : Nat) (hT : T.m = ords a b c) (h12 : a ≤ 12 ∧ b ≤ 12 ∧ c ≤ 12) (l : List (Fin 3)) (hl : l.length ≤ 1000) (k p x : Int) (w : World) :
    Calls Try.prog 10 #[oval a b c, .string (wb l), sval k p x] w fun e w' => ∃ l', e = .returned (.string (wb l')) ∧ Below w.heap.size w w' ∧ Cox.pi T l' = Cox.pi T l ∧ l'.length ≤ l.length + 2 := by
  have zl := wb_size l
  by_cases ho : p < 0 ∨ ((wb l).size : Int) < p ∨ x < 0 ∨ 2 < x
  · refine (stepped_out a b c (wb l) (by rw [zl]; unfold maxLen; omega) k p x ho w).mono fun e w' h => ⟨l, h.1, h.2, rfl, by omega⟩
  simp only [not_or, zl] at ho
  obtain ⟨h1, h2, h3, h4⟩ := ho
  obtain ⟨p, rfl⟩ : ∃ p' : Nat, p = p' := ⟨p.toNat, by omega⟩
  obtain ⟨xn, rfl⟩ : ∃ x' : Nat, x = x' := ⟨x.toNat, by omega⟩
  obtain ⟨x, rfl⟩ : ∃ x' : Fin 3, xn = x'.val := ⟨⟨xn, by omega⟩, rfl⟩
  have hp : p ≤ l.length := by omega
  by_cases k0 : k = 0
  · subst k0
    refine (stepped_in a b c l hl p hp x w).mono fun e w' h => ⟨_, h.1, h.2, ?_, ?_⟩
    · rw [Cox.pi_right T (Cox.pi_back T (l.take p) x), List.take_append_drop]
    · simp; omega
  by_cases k1 : k = 1
  · subst k1
    by_cases hp1 : p + 1 < l.length
    · refine (stepped_two a b c l hl p hp1 (x.val : Int) (by have := x.isLt; omega) w).mono fun e w' h => ⟨_, h.1, h.2, ?_, ?_⟩
      · split
        · rename_i he
          have e : l = l.take p ++ [l[p]] ++ [l[p]] ++ l.drop (p + 2) := by
            have e1 : l.drop p = l[p] :: l.drop (p + 1) := List.drop_eq_getElem_cons (by omega)
            have e2 : l.drop (p + 1) = l[p + 1] :: l.drop (p + 2) := List.drop_eq_getElem_cons (by omega)
            rw [← he] at e2
            have := List.take_append_drop p l
            rw [e1, e2] at this
            simp only [List.append_assoc, List.cons_append, List.nil_append]
            exact this.symm
          have e3 := Cox.pi_right T (Cox.pi_back T (l.take p) l[p]) (l.drop (p + 2))
          rw [← e] at e3
          exact e3.symm
        · rfl
      · split
        · simp; omega
        · omega
    · refine (stepped_two' a b c l hl p (by omega) hp (x.val : Int) (by have := x.isLt; omega) w).mono fun e w' h => ⟨_, h.1, h.2, rfl, by omega⟩
  by_cases k2 : k = 2
  · subst k2
    rcases Nat.lt_or_ge p l.length with hp1 | hp1
    · by_cases hx : l[p] = x
      · subst hx
        exact (stepped_row_same a b c l p hp1 w).mono fun e w' h => ⟨_, h.1, h.2, rfl, by omega⟩
      · have hne' : ((l[p].val : Nat) : Int) ≠ (x.val : Int) := fun e => hx (Fin.ext (by omega))
        obtain ⟨m, hm⟩ : ∃ m : Nat, m = T.m l[p] x := ⟨_, rfl⟩
        have hmv : (if ((l[p].val : Nat) : Int) + (x.val : Int) = 1 then (a : Int) else if ((l[p].val : Nat) : Int) + (x.val : Int) = 3 then (b : Int) else (c : Int)) = (m : Int) := by
          rw [hm, hT]
          unfold ords
          rw [if_neg hx]
          generalize l[p].val = u
          generalize x.val = v
          by_cases q1 : u + v = 1
          · rw [if_pos (show (u : Int) + (v : Int) = 1 by omega), if_pos q1]
          · rw [if_neg (show ¬ (u : Int) + (v : Int) = 1 by omega), if_neg q1]
            by_cases q3 : u + v = 3
            · rw [if_pos (show (u : Int) + (v : Int) = 3 by omega), if_pos q3]
            · rw [if_neg (show ¬ (u : Int) + (v : Int) = 3 by omega), if_neg q3]
        have hm12 : m ≤ 12 := by
          rw [hm, hT]
          unfold ords
          rw [if_neg hx]
          split
          · exact h12.1
          · split
            · exact h12.2.1
            · exact h12.2.2
        by_cases hbad : m = 0 ∨ l.length < p + m
        · exact (stepped_row_not a b c l hl p hp1 (x.val : Int) (by have := x.isLt; omega) hne' m hmv (by omega) (by omega) w).mono fun e w' h => ⟨_, h.1, h.2, rfl, by omega⟩
        · simp only [not_or] at hbad
          refine (stepped_row a b c l hl p hp1 x hx m hmv hm12 hbad.1 (by omega) w).mono fun e w' h => ?_
          obtain ⟨l', he, hb, hl'⟩ := h
          refine ⟨l', he, hb, ?_, ?_⟩
          · rcases hl' with rfl | ⟨e1, e2⟩
            · rfl
            · have := Cox.pi_right T (Cox.braid_pi T (l.take p) hx (by rw [← hm]; exact hbad.1)) (l.drop (p + m))
              rw [← hm, ← e1, ← e2] at this
              exact this.symm
          · rcases hl' with rfl | ⟨e1, e2⟩
            · omega
            · have q1 := congrArg List.length e1
              have q2 := congrArg List.length e2
              simp only [List.length_append, Cox.alt_length] at q1 q2
              omega
    · have : p = l.length := by omega
      subst this
      exact (stepped_row_end a b c l hl (x.val : Int) (by have := x.isLt; omega) w).mono fun e w' h => ⟨_, h.1, h.2, rfl, by omega⟩
  · exact (stepped_else a b c l p hp (x.val : Int) (by have := x.isLt; omega) k k0 k1 k2 w).mono fun e w' h => ⟨_, h.1, h.2, rfl, by omega⟩
end Go.Proofs.Ytlhmfaelkkiahaa
