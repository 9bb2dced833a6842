import Derived.Test.YtlhmfaelkkiahaaRef3
namespace Go.Proofs.Ytlhmfaelkkiahaa
open Go.RowKit
open Cox (Tl)

theorem newgraph_any (a b c : Int) (w : World) : Calls Try.prog 38 #[oval a b c] w fun e w' => ∃ G, e = .returned (.pointer (some ⟨G, 0, none⟩)) ∧ GS a b c w.heap.size G w' [Cox.first] ∧ Below w.heap.size w w' := by
  unfold oval
  go_enter Try.func38, Try.ntmps38
  go_wp2
  go_ret
  refine ⟨w.heap.size + 1 + 1, by simp [go_sem], ⟨w.heap.size + 1, 1, gcells Cox.first, ?_⟩, ?_⟩
  · refine ⟨?_, ?_, by omega, by omega, by omega, by simp, by unfold maxLen; omega, rfl, ?_, ?_, ?_⟩
    · exact str_new _ _ _ _ (by simp)
    · refine (((Below.refl (w.heap.size + 2) _).alloc (by simp) _).block _ (by omega)).trans ?_
      exact str_new _ _ _ _ (by simp)
    · intro k nd hk j hj
      have : k = 0 := by
        have := (List.getElem?_eq_some_iff.1 hk).1
        simpa using this
      subst this
      simp at hk
      subst hk
      simp
    · intro k nd i x hk hx
      have : k = 0 := by
        have := (List.getElem?_eq_some_iff.1 hk).1
        simpa using this
      subst this
      simp at hk
      subst hk
      cases hx
    · intro k nd hk
      have : k = 0 := by
        have := (List.getElem?_eq_some_iff.1 hk).1
        simpa using this
      subst this
      simp at hk
      subst hk
      exact Nat.le_refl _
  · exact (((Below.refl _ _).alloc (Nat.le_refl _) _).alloc (by simp) _).alloc (by simp; omega) _

theorem few_tiles {K : Type} [Cox.OR K] {T : Cox.Tri K} {l : List (Fin 3)} (hl : l.length ≤ 780) : ∃ st' y, Cox.walk T.m 100000 [Cox.first] 0 l = some (st', y) ∧ st'.length ≤ 1000000000000 ∧ ∃ nd, st'[y]? = some nd ∧ nd.word = Cox.nf T l := by
  obtain ⟨st', P', y, h1, h2, h3, h4, h5, h6, h7, h8, h9⟩ := Cox.G.walk_ok T (f := 100000) l [Cox.first] (fun k => k = 0) 0 [] (Cox.G.first_ok T) (fun k hk => by subst hk; simp) ⟨rfl, Cox.first, rfl, (Cox.nf_nil T).symm⟩ (by simp; omega)
  obtain ⟨_, nd, g1, g2⟩ := h4
  refine ⟨st', y, h1, ?_, nd, g1, by simpa using g2⟩
  have q1 : Cox.Phi 3 l.length ≤ Cox.Phi 3 780 := Cox.phi_mono 3 hl
  have q2 := Cox.phi_le 780 3
  have q3 : (780 + 1) ^ 3 = 476379541 := by decide
  rw [q3] at q2
  have q4 : l.length * Cox.Phi 3 l.length ≤ 780 * 476379541 := Nat.mul_le_mul hl (Nat.le_trans q1 q2)
  simp only [List.length_cons, List.length_nil, Nat.zero_add] at h9
  omega

theorem ords_say {a b c : Nat} {T : Fin 3 → Fin 3 → Nat} (hT : T = ords a b c) : ∀ i j : Fin 3, i ≠ j → (if (i.val : Int) + (j.val : Int) = 1 then (a : Int) else if (i.val : Int) + (j.val : Int) = 3 then (b : Int) else (c : Int)) = (T i j : Int) := by
  intro i j hij
  subst hT
  unfold ords
  rw [if_neg hij]
  generalize i.val = u
  generalize j.val = v
  by_cases q1 : u + v = 1
  · rw [if_pos (show (u : Int) + (v : Int) = 1 by omega), if_pos q1]
  · rw [if_neg (show ¬ (u : Int) + (v : Int) = 1 by omega), if_neg q1]
    by_cases q3 : u + v = 3
    · rw [if_pos (show (u : Int) + (v : Int) = 3 by omega), if_pos q3]
    · rw [if_neg (show ¬ (u : Int) + (v : Int) = 3 by omega), if_neg q3]

/-- the specification's normal word -/
theorem rword_any {K : Type} [Cox.OR K] (T : Cox.Tri K) (a b c : Nat) (hT : T.m = ords a b c) (h12 : a ≤ 12 ∧ b ≤ 12 ∧ c ≤ 12) (l : List (Fin 3)) (hl : l.length ≤ 780) (w : World) :
    Calls Try.prog 30 #[oval a b c, .string (wb l)] w fun e w' => e = .returned (.string (wb (Cox.nf T l))) ∧ Below w.heap.size w w' := by
  obtain ⟨st', y, hw, hN, nd, hnd, hwd⟩ := few_tiles (T := T) hl
  have hm : ∀ i j : Fin 3, T.m i j < 100 := by
    intro i j
    rw [hT]; unfold ords
    split
    · omega
    · split
      · omega
      · split <;> omega
  have HG := Lib.hid (fun w => newgraph_any (a : Int) b c w)
  have HW := Lib.hid (fun (B G : Nat) (w : World) (hg : GS (a : Int) b c B G w [Cox.first]) => gwalk_say (a : Int) b c T.m 1000000000000 hm (ords_say hT) (Nat.le_refl _) 100000 (by omega) B G w [Cox.first] 0 l (by omega) st' y hg (by simp) hw hN)
  have HND := Lib.hid (And.intro hnd hwd)
  clear hw hN hnd hwd hm hT h12
  generalize (a : Int) = ai at *
  generalize (b : Int) = bi at *
  generalize (c : Int) = ci at *
  generalize wb l = S at *
  unfold oval at *
  have hb0 := (Below.refl w.heap.size w).alloc (Nat.le_refl _) (.cells #[.int .i64 ai, .int .i64 bi, .int .i64 ci] 23)
  have HB0 := Lib.hid hb0
  clear hb0
  go_enter Try.func30, Try.ntmps30
  go_wp2_with fail
  go_at_call 38
  refine (HG.out _).mono ?_
  rintro e w1 ⟨G, rfl, hg1, hb1⟩
  have HG1 := Lib.hid hg1
  have HB1 := Lib.hid (HB0.out.trans (hb1.mono HB0.out.size))
  clear hb1 hg1
  go_wp2_with fail
  go_at_call 39
  refine (HW.out _ _ _ HG1.out).mono ?_
  rintro e w2 ⟨rfl, hy, hg2, hb2⟩
  have HB2 := Lib.hid (HB1.out.trans (hb2.mono HB0.out.size))
  obtain ⟨R, cap, cur, h⟩ := hg2
  have k0 := h.slice
  have k1 := h.word HND.out.1
  rw [HND.out.2] at k1
  have y1 : (y : Int) < (st'.length : Int) := by omega
  have y2 : (0 : Int) ≤ (y : Int) := by omega
  clear h hb2
  go_wp2
  go_ret
  exact ⟨rfl, HB2.out⟩
end Go.Proofs.Ytlhmfaelkkiahaa
