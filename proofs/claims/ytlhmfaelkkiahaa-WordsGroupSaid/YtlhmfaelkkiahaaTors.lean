import Derived.Test.YtlhmfaelkkiahaaCox
set_option linter.unusedSectionVars false
set_option linter.unusedVariables false
namespace Go.Proofs.Ytlhmfaelkkiahaa.Cox
/- Turns of finite order: they are turns around a corner, or reflections. -/
section
variable {K : Type} [OR K]

theorem OR.nn_or (a : K) : 0 ≤ a ∨ a < 0 := by
  rcases OR.lt_total 0 a with h | h | h
  · exact .inl (OR.le_of_lt h)
  · exact .inl ((OR.le_iff 0 a).2 (.inr h))
  · exact .inr h
theorem OR.not_both {a : K} (h : 0 ≤ a) (g : a < 0) : False := OR.lt_irrefl _ (OR.lt_of_lt_of_le g h)
theorem OR.zero_of {a : K} (h : 0 ≤ a) (g : a ≤ 0) : a = 0 := OR.le_antisymm g h
theorem OR.pos_of {a : K} (h : 0 ≤ a) (g : a ≠ 0) : 0 < a := by
  rcases (OR.le_iff 0 a).1 h with h | h
  · exact h
  · exact (g h.symm).elim
theorem OR.np_mul {a b : K} (ha : 0 ≤ a) (hb : b < 0) : a * b ≤ 0 := by
  have := OR.mul_nn ha (OR.le_of_lt (OR.neg_pos.2 hb))
  rw [OR.mul_neg] at this
  exact OR.neg_nn.1 this
theorem OR.np_mul' {a b : K} (ha : a ≤ 0) (hb : 0 ≤ b) : a * b ≤ 0 := by
  have := OR.mul_nn (OR.neg_nn.2 ha) hb
  rw [OR.neg_mul] at this
  exact OR.neg_nn.1 this
theorem OR.add_np {a b : K} (ha : a ≤ 0) (hb : b ≤ 0) : a + b ≤ 0 := by
  have := OR.add_nn (OR.neg_nn.2 ha) (OR.neg_nn.2 hb)
  rw [← OR.neg_add] at this
  exact OR.neg_nn.1 this
theorem OR.add_pos_nn {a b : K} (ha : 0 < a) (hb : 0 ≤ b) : 0 < a + b := by
  rcases (OR.le_iff 0 b).1 hb with h | h
  · exact OR.add_pos ha h
  · rw [← h, OR.add_zero]; exact ha

variable (W : Tri K)
/-- a word, so many times -/
def pw (w : List (Fin 3)) : Nat → List (Fin 3)
  | 0 => []
  | k + 1 => pw w k ++ w
theorem pw_comm (w : List (Fin 3)) (k : Nat) : w ++ pw w k = pw w k ++ w := by
  induction k with
  | zero => simp [pw]
  | succ k ih => simp only [pw]; rw [← List.append_assoc, ih]
theorem pw_add (w : List (Fin 3)) (j k : Nat) : pw w (j + k) = pw w j ++ pw w k := by
  induction k with
  | zero => simp [pw]
  | succ k ih => rw [← Nat.add_assoc]; simp only [pw]; rw [ih, List.append_assoc]
theorem pw_congr {u v : List (Fin 3)} (h : pi W u = pi W v) (k : Nat) : pi W (pw u k) = pi W (pw v k) := by
  induction k with
  | zero => rfl
  | succ k ih => simp only [pw]; rw [pi_append, pi_append, ih, h]

def tot (f : Fin 3 → K) : K := f 0 + f 1 + f 2
/-- the sum of the roots' totals, over the first powers backwards -/
def Ph (w : List (Fin 3)) : Nat → List (Fin 3) → Fin 3 → K
  | 0, _, _ => 0
  | k + 1, u, s => Ph w k u s + tot (pi W ((pw w k).reverse ++ u) s)

theorem Ph_congr (w : List (Fin 3)) (k : Nat) {u v : List (Fin 3)} (h : pi W u = pi W v) (s : Fin 3) : Ph W w k u s = Ph W w k v s := by
  induction k with
  | zero => rfl
  | succ k ih => simp only [Ph]; rw [ih, pi_left W h]
theorem tot_mul (X Y : Mat K) (s : Fin 3) : tot (mul X Y s) = Y s 0 * tot (X 0) + Y s 1 * tot (X 1) + Y s 2 * tot (X 2) := by
  show (X 0 0 * Y s 0 + X 1 0 * Y s 1 + X 2 0 * Y s 2) + (X 0 1 * Y s 0 + X 1 1 * Y s 1 + X 2 1 * Y s 2) + (X 0 2 * Y s 0 + X 1 2 * Y s 1 + X 2 2 * Y s 2) = Y s 0 * (X 0 0 + X 0 1 + X 0 2) + Y s 1 * (X 1 0 + X 1 1 + X 1 2) + Y s 2 * (X 2 0 + X 2 1 + X 2 2)
  exact (OR.ring [X 0 0, X 0 1, X 0 2, X 1 0, X 1 1, X 1 2, X 2 0, X 2 1, X 2 2, Y s 0, Y s 1, Y s 2] (.add (.add (.add (.add (.mul (.v 0) (.v 9)) (.mul (.v 3) (.v 10))) (.mul (.v 6) (.v 11))) (.add (.add (.mul (.v 1) (.v 9)) (.mul (.v 4) (.v 10))) (.mul (.v 7) (.v 11)))) (.add (.add (.mul (.v 2) (.v 9)) (.mul (.v 5) (.v 10))) (.mul (.v 8) (.v 11)))) (.add (.add (.mul (.v 9) (.add (.add (.v 0) (.v 1)) (.v 2))) (.mul (.v 10) (.add (.add (.v 3) (.v 4)) (.v 5)))) (.mul (.v 11) (.add (.add (.v 6) (.v 7)) (.v 8)))) (by decide +kernel))
theorem Ph_lin (w : List (Fin 3)) (k : Nat) (v y : List (Fin 3)) (s : Fin 3) : Ph W w k (v ++ y) s = pi W y s 0 * Ph W w k v 0 + pi W y s 1 * Ph W w k v 1 + pi W y s 2 * Ph W w k v 2 := by
  induction k with
  | zero => simp only [Ph]; exact (OR.ring [pi W y s 0, pi W y s 1, pi W y s 2] .z (.add (.add (.mul (.v 0) .z) (.mul (.v 1) .z)) (.mul (.v 2) .z)) (by decide +kernel))
  | succ k ih =>
    simp only [Ph]
    rw [ih, ← List.append_assoc, pi_append W ((pw w k).reverse ++ v) y, tot_mul]
    exact (OR.ring [pi W y s 0, pi W y s 1, pi W y s 2, Ph W w k v 0, Ph W w k v 1, Ph W w k v 2, tot (pi W ((pw w k).reverse ++ v) 0), tot (pi W ((pw w k).reverse ++ v) 1), tot (pi W ((pw w k).reverse ++ v) 2)] (.add (.add (.add (.mul (.v 0) (.v 3)) (.mul (.v 1) (.v 4))) (.mul (.v 2) (.v 5))) (.add (.add (.mul (.v 0) (.v 6)) (.mul (.v 1) (.v 7))) (.mul (.v 2) (.v 8)))) (.add (.add (.mul (.v 0) (.add (.v 3) (.v 6))) (.mul (.v 1) (.add (.v 4) (.v 7)))) (.mul (.v 2) (.add (.v 5) (.v 8)))) (by decide +kernel))

/-- the sum, begun one power earlier -/
theorem Ph_shift (w : List (Fin 3)) (k : Nat) (u : List (Fin 3)) (s : Fin 3) : Ph W w (k + 1) (w ++ u) s = tot (pi W (w ++ u) s) + Ph W w k u s := by
  induction k with
  | zero =>
    simp only [Ph, pw, List.reverse_nil, List.nil_append]
    exact (OR.ring [tot (pi W (w ++ u) s)] (.add .z (.v 0)) (.add (.v 0) .z) (by decide +kernel))
  | succ k ih =>
    rw [Ph, ih, Ph]
    have : pi W ((pw w (k + 1)).reverse ++ (w ++ u)) = pi W ((pw w k).reverse ++ u) := by
      simp only [pw]
      rw [← pw_comm, List.reverse_append]
      have h := pi_middle W (b := w.reverse ++ w) (b' := []) (pi_turn' W w) (pw w k).reverse u
      simpa [List.append_assoc] using h
    rw [this]
    exact OR.add_assoc _ _ _
theorem Ph_inv {w : List (Fin 3)} {k : Nat} (hk : 0 < k) (h : pi W (pw w k) = one) (u : List (Fin 3)) (s : Fin 3) : Ph W w k (w ++ u) s = Ph W w k u s := by
  obtain ⟨j, rfl⟩ : ∃ j, k = j + 1 := ⟨k - 1, by omega⟩
  rw [Ph_shift, Ph]
  have : pi W (w ++ u) = pi W ((pw w j).reverse ++ u) := by
    refine pi_right W ?_ u
    have h1 : pi W ((pw w j).reverse ++ (pw w j ++ w)) = pi W ((pw w j).reverse ++ []) := pi_left W h _
    rw [List.append_nil] at h1
    rw [← h1, ← List.append_assoc]
    have := pi_right W (b := (pw w j).reverse ++ pw w j) (b' := []) (pi_turn' W _) w
    simpa using this.symm
  rw [this, OR.add_comm]
theorem tot_nn {f : Fin 3 → K} (h : ∀ i, 0 ≤ f i) : 0 ≤ tot f := OR.add_nn (OR.add_nn (h 0) (h 1)) (h 2)
theorem Ph_down (w : List (Fin 3)) (k : Nat) {u : List (Fin 3)} {s : Fin 3} (h : Ph W w k u s < 0) : ∃ j, j < k ∧ Down W ((pw w j).reverse ++ u) s := by
  induction k with
  | zero => exact (OR.lt_irrefl _ h).elim
  | succ k ih =>
    by_cases hd : Down W ((pw w k).reverse ++ u) s
    · exact ⟨k, by omega, hd⟩
    · rcases OR.nn_or (Ph W w k u s) with h1 | h1
      · exact (OR.not_both (OR.add_nn h1 (tot_nn (root_pos W _ _ s rfl hd))) h).elim
      · obtain ⟨j, h2, h3⟩ := ih h1
        exact ⟨j, by omega, h3⟩

/-- how much is still to do -/
noncomputable def todo (w : List (Fin 3)) : Nat → List (Fin 3) → Nat
  | 0, _ => 0
  | k + 1, v => todo w k v + (len W (pw w k) + len W ((pw w k).reverse ++ v) - len W v)
theorem len_app (a b : List (Fin 3)) : len W (a ++ b) ≤ len W a + len W b := by
  have := len_append_le W a (nf W b)
  rw [nf_len] at this
  rwa [len_congr W (pi_left W (nf_pi W b) a)] at this
theorem todo_less (w : List (Fin 3)) (k : Nat) {v : List (Fin 3)} {s : Fin 3} (hv : ¬ Down W v s) :
    todo W w k (v ++ [s]) ≤ todo W w k v ∧ ∀ j, j < k → Down W ((pw w j).reverse ++ v) s → todo W w k (v ++ [s]) < todo W w k v := by
  have h1 := not_down W hv
  induction k with
  | zero => exact ⟨Nat.le_refl _, fun j hj => by omega⟩
  | succ k ih =>
    have h2 := len_snoc_le W ((pw w k).reverse ++ v) s
    have h3 : len W v ≤ len W (pw w k) + len W ((pw w k).reverse ++ v) := by
      have := len_app W (pw w k) ((pw w k).reverse ++ v)
      have h4 := pi_right W (b := pw w k ++ (pw w k).reverse) (b' := []) (pi_turn W _) v
      rw [← List.append_assoc, len_congr W h4] at this
      simpa using this
    have h5 : len W (v ++ [s]) ≤ len W (pw w k) + len W ((pw w k).reverse ++ (v ++ [s])) := by
      have := len_app W (pw w k) ((pw w k).reverse ++ (v ++ [s]))
      have h4 := pi_right W (b := pw w k ++ (pw w k).reverse) (b' := []) (pi_turn W _) (v ++ [s])
      rw [← List.append_assoc, len_congr W h4] at this
      simpa using this
    rw [← List.append_assoc] at h5
    simp only [todo]
    rw [← List.append_assoc]
    refine ⟨by omega, fun j hj hd => ?_⟩
    by_cases e : j = k
    · subst e
      unfold Down at hd
      omega
    · have := ih.2 j (by omega) hd
      omega

theorem one_other {i s : Fin 3} (h : i ≠ s) (q : Fin 3) : pi W [s] q i = one q i := by
  show one q i + W.c s q * one s i = _
  have : (one : Mat K) s i = 0 := by
    unfold one
    rw [if_neg (fun e => h e.symm)]
  rw [this, OR.mul_zero, OR.add_zero]
theorem front_other {i s : Fin 3} (h : i ≠ s) (y : List (Fin 3)) (r : Fin 3) : pi W ([s] ++ y) r i = pi W y r i := by
  rw [pi_append]
  show pi W [s] 0 i * pi W y r 0 + pi W [s] 1 i * pi W y r 1 + pi W [s] 2 i * pi W y r 2 = pi W y r i
  rw [one_other W h, one_other W h, one_other W h]
  match i with
  | 0 => exact (OR.ring [pi W y r 0, pi W y r 1, pi W y r 2] (.add (.add (.mul .o (.v 0)) (.mul .z (.v 1))) (.mul .z (.v 2))) (.v 0) (by decide +kernel))
  | 1 => exact (OR.ring [pi W y r 0, pi W y r 1, pi W y r 2] (.add (.add (.mul .z (.v 0)) (.mul .o (.v 1))) (.mul .z (.v 2))) (.v 1) (by decide +kernel))
  | 2 => exact (OR.ring [pi W y r 0, pi W y r 1, pi W y r 2] (.add (.add (.mul .z (.v 0)) (.mul .z (.v 1))) (.mul .o (.v 2))) (.v 2) (by decide +kernel))

theorem only_one {f g : Fin 3 → K} {s : Fin 3} (h : ∀ i, i ≠ s → f i = 0) : f 0 * g 0 + f 1 * g 1 + f 2 * g 2 = f s * g s := by
  match s with
  | 0 => rw [h 1 (by decide), h 2 (by decide)]; exact (OR.ring [f 0, g 0, g 1, g 2] (.add (.add (.mul (.v 0) (.v 1)) (.mul .z (.v 2))) (.mul .z (.v 3))) (.mul (.v 0) (.v 1)) (by decide +kernel))
  | 1 => rw [h 0 (by decide), h 2 (by decide)]; exact (OR.ring [f 1, g 0, g 1, g 2] (.add (.add (.mul .z (.v 1)) (.mul (.v 0) (.v 2))) (.mul .z (.v 3))) (.mul (.v 0) (.v 2)) (by decide +kernel))
  | 2 => rw [h 0 (by decide), h 1 (by decide)]; exact (OR.ring [f 2, g 0, g 1, g 2] (.add (.add (.mul .z (.v 1)) (.mul .z (.v 2))) (.mul (.v 0) (.v 3))) (.mul (.v 0) (.v 3)) (by decide +kernel))
/-- a root ahead of the mirror s that the mirror turns behind is the mirror's own -/
theorem own_root {y : List (Fin 3)} {r s : Fin 3} (h1 : ¬ Down W y r) (h2 : Down W ([s] ++ y) r) {i : Fin 3} (hi : i ≠ s) : pi W y r i = 0 := by
  have a := root_pos W _ y r rfl h1 i
  have b := root_neg W h2 i
  rw [front_other W hi] at b
  exact OR.zero_of a b
theorem not_down_nil (s : Fin 3) : ¬ Down W [] s := by
  intro h
  unfold Down at h
  rw [len_nil] at h
  omega

/-- a chamber that holds the centre -/
theorem centre (w : List (Fin 3)) (k : Nat) : ∃ v, ∀ s, 0 ≤ Ph W w k v s := by
  have key : ∀ n v, todo W w k v = n → (∀ u r, ¬ Down W u r → Down W (v.reverse ++ u) r → Ph W w k u r ≤ 0) → ∃ v, ∀ s, 0 ≤ Ph W w k v s := by
    intro n
    induction n using Nat.strongRecOn with
    | ind n ih =>
      intro v hn hI
      refine Classical.byContradiction fun hno => ?_
      obtain ⟨s, h⟩ : ∃ s, Ph W w k v s < 0 := by
        refine Classical.byContradiction fun h2 => hno ⟨v, fun s => ?_⟩
        rcases OR.nn_or (Ph W w k v s) with h3 | h3
        · exact h3
        · exact (h2 ⟨s, h3⟩).elim
      have hv : ¬ Down W v s := by
        intro hd
        have h1 : ¬ Down W (v ++ [s]) s := fun h2 => (down_snoc W v s).1 h2 hd
        have h2 : Down W (v.reverse ++ (v ++ [s])) s := by
          rw [← List.append_assoc]
          have := pi_right W (b := v.reverse ++ v) (b' := []) (pi_turn' W v) [s]
          rw [down_congr W this]
          exact (down_snoc W [] s).2 (not_down_nil W s)
        have h3 := hI _ s h1 h2
        rw [Ph_lin] at h3
        have e : pi W [s] s 0 * Ph W w k v 0 + pi W [s] s 1 * Ph W w k v 1 + pi W [s] s 2 * Ph W w k v 2 = -Ph W w k v s := by
          rw [only_one (f := pi W [s] s) (g := Ph W w k v) (s := s) (fun i hi => by rw [one_other W hi]; unfold one; rw [if_neg (fun e => hi e.symm)])]
          have : pi W [s] s s = -1 := by
            show act W one s s s = -1
            rw [act_self]; unfold one; rw [if_pos rfl]
          rw [this, OR.neg_mul, OR.one_mul]
        rw [e] at h3
        have h4 := OR.neg_nn.2 h3
        rw [OR.neg_neg] at h4
        exact OR.not_both h4 h
      obtain ⟨j, h1, h2⟩ := Ph_down W w k h
      have hl := (todo_less W w k hv).2 j h1 h2
      refine hno (ih (todo W w k (v ++ [s])) (by omega) (v ++ [s]) rfl fun u r h3 h4 => ?_)
      have h5 : (v ++ [s]).reverse ++ u = [s] ++ (v.reverse ++ u) := by simp
      rw [h5] at h4
      by_cases h6 : Down W (v.reverse ++ u) r
      · exact hI u r h3 h6
      · have h7 : pi W u = pi W (v ++ (v.reverse ++ u)) := by
          have := pi_right W (b := v ++ v.reverse) (b' := []) (pi_turn W v) u
          rw [← List.append_assoc]
          simpa using this.symm
        rw [Ph_congr W w k h7, Ph_lin, only_one (f := pi W (v.reverse ++ u) r) (g := Ph W w k v) (s := s) (fun i hi => own_root W h6 h4 hi)]
        exact OR.np_mul (root_pos W _ _ r rfl h6 s) h
  exact key _ [] rfl fun u r h1 h2 => (h1 h2).elim

/-- what fixes a point of the chamber is made of the mirrors through the point -/
theorem fixes (Y : Fin 3 → K) (hY : ∀ s, 0 ≤ Y s) (n : Nat) : ∀ y, len W y = n → (∀ r, pi W y r 0 * Y 0 + pi W y r 1 * Y 1 + pi W y r 2 * Y 2 = Y r) → ∀ s, s ∈ nf W y → Y s = 0 := by
  induction n with
  | zero =>
    intro y hy _ s hs
    have : nf W y = [] := List.eq_nil_of_length_eq_zero (by rw [nf_len, hy])
    rw [this] at hs
    cases hs
  | succ n ih =>
    intro y hy hI s hs
    have hne : nf W y ≠ [] := by
      intro e
      have := nf_len W y
      rw [e, hy] at this
      cases this
    obtain ⟨z, t, hz⟩ : ∃ z t, nf W y = z ++ [t] := ⟨_, _, (List.dropLast_concat_getLast hne).symm⟩
    have hpz : pi W z = pi W (y ++ [t]) := by
      have h1 := pi_right W (nf_pi W y) [t]
      rw [hz, pi_back] at h1
      exact h1
    have hnz : nf W z = z := nf_begin W (b := [t]) (by rw [← hz]; exact nf_nf W y)
    have hlz : len W z = n := by
      have h1 := nf_len W y
      rw [hz, hy] at h1
      have h2 := nf_len W z
      rw [hnz] at h2
      simp at h1
      omega
    have hd : Down W y t := by
      unfold Down
      rw [← len_congr W hpz, hlz, hy]
    have hYt : Y t = 0 := by
      have h1 := hI t
      have h2 : pi W y t 0 * Y 0 + pi W y t 1 * Y 1 + pi W y t 2 * Y 2 ≤ 0 :=
        OR.add_np (OR.add_np (OR.np_mul' (root_neg W hd 0) (hY 0)) (OR.np_mul' (root_neg W hd 1) (hY 1))) (OR.np_mul' (root_neg W hd 2) (hY 2))
      rw [h1] at h2
      exact OR.zero_of (hY t) h2
    rw [hz] at hs
    rcases List.mem_append.1 hs with hs | hs
    · refine ih z hlz (fun r => ?_) s (by rw [hnz]; exact hs)
      rw [hpz, pi_snoc]
      show (pi W y r 0 + W.c t r * pi W y t 0) * Y 0 + (pi W y r 1 + W.c t r * pi W y t 1) * Y 1 + (pi W y r 2 + W.c t r * pi W y t 2) * Y 2 = Y r
      have e : (pi W y r 0 + W.c t r * pi W y t 0) * Y 0 + (pi W y r 1 + W.c t r * pi W y t 1) * Y 1 + (pi W y r 2 + W.c t r * pi W y t 2) * Y 2
          = (pi W y r 0 * Y 0 + pi W y r 1 * Y 1 + pi W y r 2 * Y 2) + W.c t r * (pi W y t 0 * Y 0 + pi W y t 1 * Y 1 + pi W y t 2 * Y 2) :=
        (OR.ring [pi W y r 0, pi W y r 1, pi W y r 2, pi W y t 0, pi W y t 1, pi W y t 2, W.c t r, Y 0, Y 1, Y 2] (.add (.add (.mul (.add (.v 0) (.mul (.v 6) (.v 3))) (.v 7)) (.mul (.add (.v 1) (.mul (.v 6) (.v 4))) (.v 8))) (.mul (.add (.v 2) (.mul (.v 6) (.v 5))) (.v 9))) (.add (.add (.add (.mul (.v 0) (.v 7)) (.mul (.v 1) (.v 8))) (.mul (.v 2) (.v 9))) (.mul (.v 6) (.add (.add (.mul (.v 3) (.v 7)) (.mul (.v 4) (.v 8))) (.mul (.v 5) (.v 9))))) (by decide +kernel))
      rw [e, hI r, hI t, hYt, OR.mul_zero, OR.add_zero]
    · have : s = t := by simpa using hs
      rw [this]; exact hYt

/-- a weight that no mirror makes less -/
structure Heavy (b : Fin 3 → K) : Prop where
  nn : ∀ i, 0 ≤ b i
  some : ∃ i, 0 < b i
  up : ∀ s, 0 ≤ W.c s 0 * b 0 + W.c s 1 * b 1 + W.c s 2 * b 2
def wt (b : Fin 3 → K) (X : Mat K) (i : Fin 3) : K := b 0 * X 0 i + b 1 * X 1 i + b 2 * X 2 i
theorem OR.le_add {a b : K} (h : 0 ≤ b) : a ≤ a + b := by
  rcases (OR.le_iff 0 b).1 h with h | h
  · refine OR.le_of_lt (OR.pos_sub.2 ?_)
    have : a + b - a = b := (OR.ring [a, b] (.sub (.add (.v 0) (.v 1)) (.v 0)) (.v 1) (by decide +kernel))
    rw [this]; exact h
  · rw [← h, OR.add_zero]; exact OR.le_refl _
theorem OR.le_trans {a b c : K} (h : a ≤ b) (g : b ≤ c) : a ≤ c := by
  rcases (OR.le_iff a b).1 h with h | h
  · exact OR.le_of_lt (OR.lt_of_lt_of_le h g)
  · rw [h]; exact g
theorem heavy_up {b : Fin 3 → K} (hb : Heavy W b) (n : Nat) : ∀ y, len W y = n → ∀ i, b i ≤ wt b (pi W y) i := by
  induction n with
  | zero =>
    intro y hy i
    rw [len_zero W hy]
    have : wt b (one : Mat K) i = b i := by
      unfold wt
      match i with
      | 0 => exact (OR.ring [b 0, b 1, b 2] (.add (.add (.mul (.v 0) .o) (.mul (.v 1) .z)) (.mul (.v 2) .z)) (.v 0) (by decide +kernel))
      | 1 => exact (OR.ring [b 0, b 1, b 2] (.add (.add (.mul (.v 0) .z) (.mul (.v 1) .o)) (.mul (.v 2) .z)) (.v 1) (by decide +kernel))
      | 2 => exact (OR.ring [b 0, b 1, b 2] (.add (.add (.mul (.v 0) .z) (.mul (.v 1) .z)) (.mul (.v 2) .o)) (.v 2) (by decide +kernel))
    rw [this]; exact OR.le_refl _
  | succ n ih =>
    intro y hy i
    have hne : nf W y ≠ [] := by
      intro e
      have := nf_len W y
      rw [e, hy] at this
      cases this
    obtain ⟨z, t, hz⟩ : ∃ z t, nf W y = z ++ [t] := ⟨_, _, (List.dropLast_concat_getLast hne).symm⟩
    have hnz : nf W z = z := nf_begin W (b := [t]) (by rw [← hz]; exact nf_nf W y)
    have hlz : len W z = n := by
      have h1 := nf_len W y
      rw [hz, hy] at h1
      have h2 := nf_len W z
      rw [hnz] at h2
      simp at h1
      omega
    have hd : ¬ Down W z t := by
      unfold Down
      rw [← hz, len_congr W (nf_pi W y), hy, hlz]
      omega
    rw [← nf_pi W y, hz, pi_snoc]
    have e : wt b (act W (pi W z) t) i = wt b (pi W z) i + (W.c t 0 * b 0 + W.c t 1 * b 1 + W.c t 2 * b 2) * pi W z t i := by
      show b 0 * (pi W z 0 i + W.c t 0 * pi W z t i) + b 1 * (pi W z 1 i + W.c t 1 * pi W z t i) + b 2 * (pi W z 2 i + W.c t 2 * pi W z t i) = b 0 * pi W z 0 i + b 1 * pi W z 1 i + b 2 * pi W z 2 i + (W.c t 0 * b 0 + W.c t 1 * b 1 + W.c t 2 * b 2) * pi W z t i
      exact (OR.ring [b 0, b 1, b 2, pi W z 0 i, pi W z 1 i, pi W z 2 i, pi W z t i, W.c t 0, W.c t 1, W.c t 2] (.add (.add (.mul (.v 0) (.add (.v 3) (.mul (.v 7) (.v 6)))) (.mul (.v 1) (.add (.v 4) (.mul (.v 8) (.v 6))))) (.mul (.v 2) (.add (.v 5) (.mul (.v 9) (.v 6))))) (.add (.add (.add (.mul (.v 0) (.v 3)) (.mul (.v 1) (.v 4))) (.mul (.v 2) (.v 5))) (.mul (.add (.add (.mul (.v 7) (.v 0)) (.mul (.v 8) (.v 1))) (.mul (.v 9) (.v 2))) (.v 6))) (by decide +kernel))
    rw [e]
    exact OR.le_trans (ih z hlz i) (OR.le_add (OR.mul_nn (hb.up t) (root_pos W _ z t rfl hd i)))
theorem Ph_heavy {b : Fin 3 → K} (hb : Heavy W b) (w : List (Fin 3)) (k : Nat) : 0 ≤ b 0 * Ph W w k [] 0 + b 1 * Ph W w k [] 1 + b 2 * Ph W w k [] 2 ∧ (0 < k → 0 < b 0 * Ph W w k [] 0 + b 1 * Ph W w k [] 1 + b 2 * Ph W w k [] 2) := by
  induction k with
  | zero =>
    refine ⟨?_, fun h => by omega⟩
    simp only [Ph]
    have : b 0 * 0 + b 1 * 0 + b 2 * 0 = 0 := (OR.ring [b 0, b 1, b 2] (.add (.add (.mul (.v 0) .z) (.mul (.v 1) .z)) (.mul (.v 2) .z)) .z (by decide +kernel))
    rw [this]; exact OR.le_refl _
  | succ k ih =>
    have h1 := heavy_up W hb _ ((pw w k).reverse ++ []) rfl
    have hp : 0 < tot fun i => wt b (pi W ((pw w k).reverse ++ [])) i := by
      obtain ⟨i, hi⟩ := hb.some
      have h2 : ∀ i, 0 ≤ wt b (pi W ((pw w k).reverse ++ [])) i := fun i => OR.le_trans (hb.nn i) (h1 i)
      have h3 : 0 < wt b (pi W ((pw w k).reverse ++ [])) i := OR.lt_of_lt_of_le hi (h1 i)
      unfold tot
      match i, h3 with
      | 0, h3 => exact OR.add_pos_nn (OR.add_pos_nn h3 (h2 1)) (h2 2)
      | 1, h3 => rw [OR.add_comm (wt b (pi W ((pw w k).reverse ++ [])) 0)]; exact OR.add_pos_nn (OR.add_pos_nn h3 (h2 0)) (h2 2)
      | 2, h3 => rw [OR.add_comm]; exact OR.add_pos_nn h3 (OR.add_nn (h2 0) (h2 1))
    have e : b 0 * Ph W w (k + 1) [] 0 + b 1 * Ph W w (k + 1) [] 1 + b 2 * Ph W w (k + 1) [] 2 = (tot fun i => wt b (pi W ((pw w k).reverse ++ [])) i) + (b 0 * Ph W w k [] 0 + b 1 * Ph W w k [] 1 + b 2 * Ph W w k [] 2) := by
      simp only [Ph, tot, wt]
      exact (OR.ring [b 0, b 1, b 2, Ph W w k [] 0, Ph W w k [] 1, Ph W w k [] 2, pi W ((pw w k).reverse ++ []) 0 0, pi W ((pw w k).reverse ++ []) 0 1, pi W ((pw w k).reverse ++ []) 0 2, pi W ((pw w k).reverse ++ []) 1 0, pi W ((pw w k).reverse ++ []) 1 1, pi W ((pw w k).reverse ++ []) 1 2, pi W ((pw w k).reverse ++ []) 2 0, pi W ((pw w k).reverse ++ []) 2 1, pi W ((pw w k).reverse ++ []) 2 2] (.add (.add (.mul (.v 0) (.add (.v 3) (.add (.add (.v 6) (.v 7)) (.v 8)))) (.mul (.v 1) (.add (.v 4) (.add (.add (.v 9) (.v 10)) (.v 11))))) (.mul (.v 2) (.add (.v 5) (.add (.add (.v 12) (.v 13)) (.v 14))))) (.add (.add (.add (.add (.add (.mul (.v 0) (.v 6)) (.mul (.v 1) (.v 9))) (.mul (.v 2) (.v 12))) (.add (.add (.mul (.v 0) (.v 7)) (.mul (.v 1) (.v 10))) (.mul (.v 2) (.v 13)))) (.add (.add (.mul (.v 0) (.v 8)) (.mul (.v 1) (.v 11))) (.mul (.v 2) (.v 14)))) (.add (.add (.mul (.v 0) (.v 3)) (.mul (.v 1) (.v 4))) (.mul (.v 2) (.v 5)))) (by decide +kernel))
    rw [e]
    exact ⟨OR.le_of_lt (OR.add_pos_nn hp ih.1), fun _ => OR.add_pos_nn hp ih.1⟩

/-- TORSION: what is of finite order is, seen from some tile, made of at most two mirrors -/
theorem torsion {b : Fin 3 → K} (hb : Heavy W b) {w : List (Fin 3)} {k : Nat} (hk : 0 < k) (h : pi W (pw w k) = one) : ∃ v q, ∀ s, s ∈ nf W (v.reverse ++ w ++ v) → s ≠ q := by
  obtain ⟨v, hv⟩ := centre W w k
  have hinv : ∀ r, pi W (v.reverse ++ w ++ v) r 0 * Ph W w k v 0 + pi W (v.reverse ++ w ++ v) r 1 * Ph W w k v 1 + pi W (v.reverse ++ w ++ v) r 2 * Ph W w k v 2 = Ph W w k v r := by
    intro r
    rw [← Ph_lin]
    have e : pi W (v ++ (v.reverse ++ w ++ v)) = pi W (w ++ v) := by
      have := pi_right W (b := v ++ v.reverse) (b' := []) (pi_turn W v) (w ++ v)
      simpa [List.append_assoc] using this
    rw [Ph_congr W w k e, Ph_inv W hk h]
  have hF := fixes W (Ph W w k v) hv _ (v.reverse ++ w ++ v) rfl hinv
  obtain ⟨q, hq⟩ : ∃ q, Ph W w k v q ≠ 0 := by
    refine Classical.byContradiction fun hno => ?_
    have hz : ∀ s, Ph W w k v s = 0 := fun s => Classical.byContradiction fun e => hno ⟨s, e⟩
    have hz2 : ∀ s, Ph W w k [] s = 0 := by
      intro s
      have e : pi W ([] : List (Fin 3)) = pi W (v ++ v.reverse) := (pi_turn W v).symm
      rw [Ph_congr W w k e, Ph_lin, hz, hz, hz]
      exact (OR.ring [pi W v.reverse s 0, pi W v.reverse s 1, pi W v.reverse s 2] (.add (.add (.mul (.v 0) .z) (.mul (.v 1) .z)) (.mul (.v 2) .z)) .z (by decide +kernel))
    have := (Ph_heavy W hb w k).2 hk
    rw [hz2, hz2, hz2] at this
    have e : b 0 * 0 + b 1 * 0 + b 2 * 0 = 0 := (OR.ring [b 0, b 1, b 2] (.add (.add (.mul (.v 0) .z) (.mul (.v 1) .z)) (.mul (.v 2) .z)) .z (by decide +kernel))
    rw [e] at this
    exact OR.lt_irrefl _ this
  exact ⟨v, q, fun s hs e => hq (by rw [← e]; exact hF s hs)⟩
end
end Go.Proofs.Ytlhmfaelkkiahaa.Cox
