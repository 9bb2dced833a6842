/- Tiles between the first tile and another one: their number. -/
import Derived.Test.YtlhmfaelkkiahaaCox
set_option linter.unusedSectionVars false
set_option linter.unusedVariables false
namespace Go.Proofs.Ytlhmfaelkkiahaa.Cox
section
variable {K : Type} [OR K]
variable (W : Tri K)

theorem turn0 (w : List (Fin 3)) : pi W (w ++ w.reverse) = pi W [] := pi_turn W w
theorem turn1 (w : List (Fin 3)) : pi W (w.reverse ++ w) = pi W [] := pi_turn' W w

theorem pi_rev {u v : List (Fin 3)} (h : pi W u = pi W v) : pi W u.reverse = pi W v.reverse := by
  have h1 : pi W (u.reverse ++ (v ++ v.reverse)) = pi W (u.reverse ++ []) := pi_left W (turn0 W v) _
  have h2 : pi W (u.reverse ++ u ++ v.reverse) = pi W (u.reverse ++ v ++ v.reverse) := pi_middle W h _ _
  have h3 : pi W (u.reverse ++ u ++ v.reverse) = pi W ([] ++ v.reverse) := pi_right W (turn1 W u) _
  simp only [List.append_nil, List.nil_append, List.append_assoc] at h1 h2 h3
  rw [← h1, ← h2, h3]

theorem len_rev (w : List (Fin 3)) : len W w.reverse = len W w := by
  have key : ∀ u : List (Fin 3), len W u.reverse ≤ len W u := fun u => by
    obtain ⟨⟨v, hv, ev⟩, _⟩ := len_spec W u
    have := (len_spec W u.reverse).2 v.reverse (pi_rev W ev)
    simpa [hv] using this
  have a := key w
  have b := key w.reverse
  rw [List.reverse_reverse] at b
  omega

theorem len_add (u v : List (Fin 3)) : len W (u ++ v) ≤ len W u + len W v := by
  obtain ⟨⟨v', hv, ev⟩, _⟩ := len_spec W v
  have := len_append_le W u v'
  rw [len_congr W (pi_left W ev u)] at this
  omega

/-- u lies between the first tile and v -/
def Bl (u v : List (Fin 3)) : Prop := len W u + len W (u.reverse ++ v) = len W v

theorem Bl.refl (u : List (Fin 3)) : Bl W u u := by
  unfold Bl
  rw [len_congr W (turn1 W u), len_nil]; rfl
theorem Bl.congr {u u' v v' : List (Fin 3)} (hu : pi W u = pi W u') (hv : pi W v = pi W v') (h : Bl W u v) : Bl W u' v' := by
  unfold Bl at *
  rw [← len_congr W hu, ← len_congr W hv, ← h]
  congr 1
  refine len_congr W ?_
  rw [pi_right W (pi_rev W hu.symm) v', pi_left W hv.symm u.reverse]
theorem Bl.trans {u v z : List (Fin 3)} (h : Bl W u v) (g : Bl W v z) : Bl W u z := by
  unfold Bl at *
  have h1 : pi W (u.reverse ++ z) = pi W ((u.reverse ++ v) ++ (v.reverse ++ z)) := by
    have : pi W (u.reverse ++ (v ++ v.reverse) ++ z) = pi W (u.reverse ++ [] ++ z) := pi_middle W (turn0 W v) _ _
    simp only [List.append_nil, List.append_assoc] at this ⊢
    exact this.symm
  have h2 := len_add W (u.reverse ++ v) (v.reverse ++ z)
  rw [← len_congr W h1] at h2
  have h3 : len W z ≤ len W u + len W (u.reverse ++ z) := by
    have := len_add W u (u.reverse ++ z)
    rw [← List.append_assoc, len_congr W (pi_right W (turn0 W u) z)] at this
    simpa using this
  omega
/-- a beginning of a way whose length is that of its end -/
theorem Bl.of_way {u v : List (Fin 3)} (h : len W (u ++ v) = len W u + v.length) : Bl W u (u ++ v) := by
  unfold Bl
  have h1 : pi W (u.reverse ++ (u ++ v)) = pi W v := by
    rw [← List.append_assoc]
    have := pi_right W (turn1 W u) v
    simpa using this
  rw [len_congr W h1]
  have h2 := len_add W u v
  have h3 := len_le W v
  omega

theorem row_mul (z x : List (Fin 3)) (s i : Fin 3) : pi W (z ++ x) s i = pi W z 0 i * pi W x s 0 + pi W z 1 i * pi W x s 1 + pi W z 2 i * pi W x s 2 := by
  rw [pi_append]; rfl

theorem down_of_neg {w : List (Fin 3)} {s : Fin 3} (h : ∀ i, pi W w s i ≤ 0) : Down W w s := by
  refine Classical.byContradiction fun hn => ?_
  have hp := root_pos W _ w s rfl hn
  obtain ⟨i, hi⟩ := column W w s
  exact hi (OR.le_antisymm (h i) (hp i))
theorem up_of_pos {w : List (Fin 3)} {s : Fin 3} (h : ∀ i, 0 ≤ pi W w s i) : ¬ Down W w s := by
  intro hn
  obtain ⟨i, hi⟩ := column W w s
  exact hi (OR.le_antisymm (root_neg W hn i) (h i))

theorem one_row (t i : Fin 3) (h : i ≠ t) (x : List (Fin 3)) (s : Fin 3) : pi W ([t] ++ x) s i = pi W x s i := by
  rw [row_mul]
  have e : ∀ k : Fin 3, pi W [t] k i = one k i := by
    intro k
    have : pi W [t] k i = one k i + W.c t k * one t i := rfl
    rw [this]
    have h0 : (one t i : K) = 0 := by unfold one; rw [if_neg (Ne.symm h)]
    rw [h0, OR.mul_zero, OR.add_zero]
  rw [e, e, e]
  generalize pi W x s = r
  match i with
  | 0 => exact (OR.ring [r 0, r 1, r 2] (.add (.add (.mul .o (.v 0)) (.mul .z (.v 1))) (.mul .z (.v 2))) (.v 0) (by decide +kernel))
  | 1 => exact (OR.ring [r 0, r 1, r 2] (.add (.add (.mul .z (.v 0)) (.mul .o (.v 1))) (.mul .z (.v 2))) (.v 1) (by decide +kernel))
  | 2 => exact (OR.ring [r 0, r 1, r 2] (.add (.add (.mul .z (.v 0)) (.mul .z (.v 1))) (.mul .o (.v 2))) (.v 2) (by decide +kernel))

/-- where a mirror is crossed, it is that of the letter -/
theorem crossed {x : List (Fin 3)} {s t : Fin 3} (h1 : ¬ Down W x s) (h2 : Down W ([t] ++ x) s) (z : List (Fin 3)) : Down W (z ++ x) s ↔ Down W z t := by
  have hz : ∀ i, i ≠ t → pi W x s i = 0 := fun i hi => by
    have a := root_pos W _ x s rfl h1 i
    have b := root_neg W h2 i
    rw [one_row W t i hi] at b
    exact OR.le_antisymm b a
  have hr : ∀ i, pi W (z ++ x) s i = pi W z t i * pi W x s t := by
    intro i
    rw [row_mul]
    have h0 := hz 0
    have h1' := hz 1
    have h2' := hz 2
    match t with
    | 0 =>
      rw [h1' (by decide), h2' (by decide)]
      exact (OR.ring [pi W z 0 i, pi W z 1 i, pi W z 2 i, pi W x s 0] (.add (.add (.mul (.v 0) (.v 3)) (.mul (.v 1) .z)) (.mul (.v 2) .z)) (.mul (.v 0) (.v 3)) (by decide +kernel))
    | 1 =>
      rw [h0 (by decide), h2' (by decide)]
      exact (OR.ring [pi W z 0 i, pi W z 1 i, pi W z 2 i, pi W x s 1] (.add (.add (.mul (.v 0) .z) (.mul (.v 1) (.v 3))) (.mul (.v 2) .z)) (.mul (.v 1) (.v 3)) (by decide +kernel))
    | 2 =>
      rw [h0 (by decide), h1' (by decide)]
      exact (OR.ring [pi W z 0 i, pi W z 1 i, pi W z 2 i, pi W x s 2] (.add (.add (.mul (.v 0) .z) (.mul (.v 1) .z)) (.mul (.v 2) (.v 3))) (.mul (.v 2) (.v 3)) (by decide +kernel))
  have hp := root_pos W _ x s rfl h1 t
  constructor
  · intro h
    refine Classical.byContradiction fun hn => ?_
    have hq := root_pos W _ z t rfl hn
    exact up_of_pos W (fun i => by rw [hr]; exact OR.mul_nn (hq i) hp) h
  · intro h
    refine down_of_neg W fun i => ?_
    rw [hr]
    have a := root_neg W h i
    have := OR.mul_nn (OR.neg_nn.2 a) hp
    rw [OR.neg_mul] at this
    exact OR.neg_nn.1 this

theorem down_left {a b : List (Fin 3)} (h : pi W a = pi W b) (s : Fin 3) : Down W a s ↔ Down W b s := down_congr W h s

/-- a mirror behind which y lies is crossed by any way to y -/
theorem crosses (y : List (Fin 3)) : ∀ (x : List (Fin 3)) (s : Fin 3), ¬ Down W x s → Down W (y.reverse ++ x) s →
    ∃ a t b, y = a ++ t :: b ∧ ∀ u : List (Fin 3), Down W (u.reverse ++ x) s ↔ Down W (u.reverse ++ a) t := by
  induction y with
  | nil => intro x s h1 h2; exact (h1 (by simpa using h2)).elim
  | cons t y ih =>
    intro x s h1 h2
    by_cases h3 : Down W ([t] ++ x) s
    · exact ⟨[], t, y, rfl, fun u => by rw [List.append_nil]; exact crossed W h1 h3 _⟩
    · rw [List.reverse_cons, List.append_assoc] at h2
      obtain ⟨a, t', b, rfl, hu⟩ := ih ([t] ++ x) s h3 h2
      refine ⟨t :: a, t', b, rfl, fun u => ?_⟩
      have := hu (t :: u)
      rw [List.reverse_cons] at this
      have e : pi W (u.reverse ++ [t] ++ ([t] ++ x)) = pi W (u.reverse ++ x) := by
        have h := pi_right W (pi_back W u.reverse t) x
        simpa using h
      rw [down_congr W e] at this
      rw [this]
      simp

/-- a mirror behind which u lies has all behind it that lie beyond u -/
theorem beyond {u y : List (Fin 3)} (h : Bl W u y) {x : List (Fin 3)} {s : Fin 3} (h1 : ¬ Down W x s) (h2 : Down W (u.reverse ++ x) s) : Down W (y.reverse ++ x) s := by
  obtain ⟨⟨u', lu, eu⟩, _⟩ := len_spec W u
  obtain ⟨⟨v, lv, ev⟩, _⟩ := len_spec W (u.reverse ++ y)
  have h2' : Down W (u'.reverse ++ x) s := (down_congr W (pi_right W (pi_rev W eu) x) s).2 h2
  obtain ⟨a, t, b, rfl, hu⟩ := crosses W u' x s h1 h2'
  have ey : pi W (a ++ t :: b ++ v) = pi W y := by
    rw [pi_left W ev, pi_right W eu, ← List.append_assoc]
    have := pi_right W (turn0 W u) y
    simpa using this
  have hy : Down W (y.reverse ++ x) s ↔ Down W ((a ++ t :: b ++ v).reverse ++ x) s := down_congr W (pi_right W (pi_rev W ey.symm) x) s
  rw [hy, hu]
  have e1 : pi W ((a ++ t :: b ++ v).reverse ++ a) = pi W ((b ++ v).reverse ++ [t]) := by
    have : (a ++ t :: b ++ v).reverse ++ a = ((b ++ v).reverse ++ [t]) ++ (a.reverse ++ a) := by simp
    rw [this, pi_left W (turn1 W a)]
    simp
  rw [down_congr W e1, down_snoc]
  intro hd
  have e2 : len W ((b ++ v).reverse ++ [t]) + 1 = len W (b ++ v).reverse := hd
  have e3 : (b ++ v).reverse ++ [t] = (t :: (b ++ v)).reverse := by simp
  rw [e3, len_rev, len_rev] at e2
  have e4 := len_le W (b ++ v)
  have e5 := len_add W a (t :: (b ++ v))
  have e6 : a ++ t :: (b ++ v) = a ++ t :: b ++ v := by simp
  rw [e6, len_congr W ey] at e5
  have e7 := len_le W a
  have e8 : len W u + len W (u.reverse ++ y) = len W y := h
  simp only [List.length_append, List.length_cons] at lu e4
  omega

/-- on which sides of the mirrors of the way y, begun with p, u lies -/
noncomputable def sig (u : List (Fin 3)) : List (Fin 3) → List (Fin 3) → List Bool
  | _, [] => []
  | p, t :: y => (@decide (Down W (u.reverse ++ p) t) (Classical.propDecidable _)) :: sig u (p ++ [t]) y
theorem sig_length (u y : List (Fin 3)) : ∀ p, (sig W u p y).length = y.length := by
  induction y with
  | nil => intro p; rfl
  | cons t y ih => intro p; simp [sig, ih]
theorem sig_at {u u' : List (Fin 3)} (y : List (Fin 3)) : ∀ p, sig W u p y = sig W u' p y → ∀ a t b, y = a ++ t :: b → (Down W (u.reverse ++ (p ++ a)) t ↔ Down W (u'.reverse ++ (p ++ a)) t) := by
  induction y with
  | nil => intro p _ a t b h; simp at h
  | cons r y ih =>
    intro p h a t b hy
    simp only [sig, List.cons.injEq] at h
    cases a with
    | nil =>
      simp only [List.nil_append, List.cons.injEq] at hy
      obtain ⟨rfl, rfl⟩ := hy
      rw [List.append_nil]
      have := h.1
      exact @decide_eq_decide _ _ (Classical.propDecidable _) (Classical.propDecidable _) |>.1 this
    | cons a0 a =>
      simp only [List.cons_append, List.cons.injEq] at hy
      obtain ⟨rfl, rfl⟩ := hy
      have := ih _ h.2 a t b rfl
      simpa using this

/-- of the tiles that lie between, no two lie on the same sides -/
theorem sig_inj {u u' y : List (Fin 3)} (h : Bl W u y) (h' : Bl W u' y) (hs : sig W u [] y = sig W u' [] y) : pi W u = pi W u' := by
  have hs' := sig_at W y [] hs
  simp only [List.nil_append] at hs'
  refine Classical.byContradiction fun hne => ?_
  have hl : len W (u'.reverse ++ u) ≠ 0 := by
    intro h0
    have h1 := len_zero W h0
    have h2 : pi W (u' ++ (u'.reverse ++ u)) = pi W (u' ++ []) := pi_left W (by rw [h1]; rfl) u'
    rw [← List.append_assoc, pi_right W (turn0 W u') u] at h2
    simp only [List.nil_append, List.append_nil] at h2
    exact hne h2
  obtain ⟨s, hd, _⟩ := cand_one W hl
  have hnil : ∀ t, ¬ Down W [] t := by
    intro i h
    unfold Down at h
    rw [len_nil] at h; omega
  have hu : ¬ Down W (u.reverse ++ u) s := by
    rw [down_congr W (turn1 W u)]; exact hnil s
  by_cases hx : Down W u s
  · have hx1 : ¬ Down W (u ++ [s]) s := by rw [down_snoc]; exact fun g => g hx
    have hx2 : Down W (u.reverse ++ (u ++ [s])) s := by
      rw [← List.append_assoc, down_snoc]; exact hu
    obtain ⟨a, t, b, hy, hc⟩ := crosses W y (u ++ [s]) s hx1 (beyond W h hx1 hx2)
    have h1 := (hc u).1 hx2
    have h2 := (hc u').2 ((hs' a t b hy).1 h1)
    rw [← List.append_assoc, down_snoc] at h2
    exact h2 hd
  · obtain ⟨a, t, b, hy, hc⟩ := crosses W y u s hx (beyond W h' hx hd)
    have h1 := (hc u').1 hd
    exact hu ((hc u).2 ((hs' a t b hy).2 h1))
end
end Go.Proofs.Ytlhmfaelkkiahaa.Cox
