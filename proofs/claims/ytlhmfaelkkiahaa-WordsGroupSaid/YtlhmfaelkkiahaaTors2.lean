import Derived.Test.YtlhmfaelkkiahaaTors
import Derived.Test.YtlhmfaelkkiahaaReal
set_option linter.unusedSectionVars false
set_option linter.unusedVariables false
namespace Go.Proofs.Ytlhmfaelkkiahaa.Cox
/- Orders of turns; where the angles are small, there is a heavy weight. -/
section
variable {K : Type} [OR K] (W : Tri K)

theorem pw_pi_add {l : List (Fin 3)} {n : Nat} (h : pi W (pw l n) = one) (j : Nat) : pi W (pw l (n * j)) = one := by
  induction j with
  | zero => rfl
  | succ j ih =>
    rw [Nat.mul_succ, pw_add, pi_append, ih, h]
    exact mul_one (one : Mat K)
/-- the least power divides each -/
theorem least_divides {l : List (Fin 3)} {n m : Nat} (hn : 0 < n) (h : pi W (pw l n) = one) (hm : pi W (pw l m) = one) (hl : ∀ j, 0 < j → j < n → pi W (pw l j) ≠ one) : n ∣ m := by
  have h1 : pi W (pw l (m % n)) = one := by
    have e : m = n * (m / n) + m % n := (Nat.div_add_mod m n).symm
    have h2 : pi W (pw l (n * (m / n)) ++ pw l (m % n)) = one := by rw [← pw_add, ← e, hm]
    have h3 := pi_right W (b := pw l (n * (m / n))) (b' := []) (pw_pi_add W h _) (pw l (m % n))
    rw [h2] at h3
    simpa using h3.symm
  rcases Nat.eq_zero_or_pos (m % n) with h2 | h2
  · exact Nat.dvd_of_mod_eq_zero h2
  · exact (hl _ h2 (Nat.mod_lt _ hn) h1).elim

theorem alt_twice {a b : Fin 3} (h : a ≠ b) (hm : W.m a b ≠ 0) : pi W (alt a b (W.m a b + W.m a b)) = one := by
  obtain ⟨n, hn⟩ : ∃ n, W.m a b = n + 1 := ⟨W.m a b - 1, by omega⟩
  have hb := braid W one h hm
  have hr := alt_reverse b a n
  have n1 := nx_succ a b n
  have n2 := nx_succ b a n
  rw [← n1, ← n2, ← hn] at hr
  rw [alt_add, ← hr]
  have h1 : pi W (alt a b (W.m a b)) = pi W (alt b a (W.m a b)) := hb
  rw [pi_right W h1]
  exact pi_turn W _
theorem alt_free {a b : Fin 3} (h : a ≠ b) (hm : W.m a b = 0) {n : Nat} (hn : 0 < n) (he : n % 2 = 0) : pi W (alt a b n) ≠ one := by
  intro e
  obtain ⟨k, rfl⟩ : ∃ k, n = k + 1 := ⟨n - 1, by omega⟩
  have h1 := (row_cols W one h k b).1
  have h2 : nx a b (k + 1) = a := by unfold nx; rw [if_pos he]
  change pi W (alt a b (k + 1)) (nx a b (k + 1)) b = _ at h1
  rw [e, h2] at h1
  have h3 : (one : Mat K) a b = 0 := by unfold one; rw [if_neg h]
  have h4 : (one : Mat K) b b = 1 := by unfold one; rw [if_pos rfl]
  rw [h3, h4, OR.mul_zero, OR.zero_add, OR.mul_one] at h1
  have h5 := (W.angle a b h).pos (k + 1) (by omega) (.inl hm)
  rw [← h1] at h5
  exact OR.lt_irrefl _ h5
theorem alt_pw {a b : Fin 3} {n : Nat} (he : n % 2 = 0) (j : Nat) : pw (alt a b n) j = alt a b (n * j) := by
  induction j with
  | zero => rfl
  | succ j ih =>
    have h1 : (n * j) % 2 = 0 := by rw [Nat.mul_mod, he, Nat.zero_mul]
    simp only [pw]
    rw [ih, Nat.mul_succ, alt_add]
    have h2 : nx a b (n * j) = a := by unfold nx; rw [if_pos h1]
    have h3 : nx b a (n * j) = b := by unfold nx; rw [if_pos h1]
    rw [h2, h3]
theorem alt_odd {a b : Fin 3} {n : Nat} (ho : n % 2 = 1) : (alt a b n).reverse = alt a b n := by
  obtain ⟨k, rfl⟩ : ∃ k, n = k + 1 := ⟨n - 1, by omega⟩
  rw [alt_reverse]
  have h2 : nx a b k = a := by unfold nx; rw [if_pos (by omega)]
  have h3 : nx b a k = b := by unfold nx; rw [if_pos (by omega)]
  rw [h2, h3]

theorem two_letters : ∀ q a b c : Fin 3, a ≠ q → b ≠ q → c ≠ q → a ≠ b → c ≠ b → c = a := by
  intro q a b c h1 h2 h3 h4 h5
  match q, a, b, c with
  | ⟨q, hq⟩, ⟨a, ha⟩, ⟨b, hb⟩, ⟨c, hc⟩ =>
    simp only [ne_eq, Fin.mk.injEq] at *
    omega
/-- a normal word of two letters alternates -/
theorem alternates (q : Fin 3) : ∀ l : List (Fin 3), nf W l = l → (∀ x, x ∈ l → x ≠ q) → l = [] ∨ ∃ a b, a ≠ b ∧ l = alt a b l.length := by
  have key : ∀ (l : List (Fin 3)) (a : Fin 3), nf W (a :: l) = a :: l → (∀ x, x ∈ a :: l → x ≠ q) → ∃ b, a ≠ b ∧ b ≠ q ∧ a :: l = alt a b (l.length + 1) := by
    intro l
    induction l with
    | nil =>
      intro a _ ha
      have : ∃ b : Fin 3, a ≠ b ∧ b ≠ q := by
        have h : ∀ a q : Fin 3, ∃ b : Fin 3, a ≠ b ∧ b ≠ q := by decide
        exact h a q
      obtain ⟨b, h1, h2⟩ := this
      exact ⟨b, h1, h2, rfl⟩
    | cons c l ih =>
      intro a h ha
      obtain ⟨b, h1, h2, h3⟩ := ih c (nf_end W (a := [a]) h) (fun x hx => ha x (by simp at hx ⊢; exact .inr hx))
      have hac : a ≠ c := by
        intro e
        subst e
        have h4 : nf W [a, a] = [a, a] := nf_part W (a := []) (b := [a, a]) (d := l) h
        have h5 : nf W [a, a] = nf W [] := nf_congr W (by
          have := pi_turn W [a]
          exact this)
        rw [nf_nil, h4] at h5
        cases h5
      have hba : b = a := (two_letters q a c b (ha a (by simp)) (ha c (by simp)) h2 hac (fun e => h1 e.symm))
      subst hba
      refine ⟨c, hac, ha c (by simp), ?_⟩
      have h6 : b :: c :: l = b :: alt c b (l.length + 1) := by rw [h3]
      exact h6
  intro l h hl
  cases l with
  | nil => exact .inl rfl
  | cons a l =>
    obtain ⟨b, h1, _, h2⟩ := key l a h hl
    exact .inr ⟨a, b, h1, h2⟩

theorem conj_pw (v w : List (Fin 3)) (k : Nat) : pi W (pw (v.reverse ++ w ++ v) k) = pi W (v.reverse ++ pw w k ++ v) := by
  induction k with
  | zero => simp only [pw, List.append_nil]; exact (pi_turn' W v).symm
  | succ k ih =>
    simp only [pw]
    rw [pi_right W ih]
    have := pi_middle W (b := v ++ v.reverse) (b' := []) (pi_turn W v) (v.reverse ++ pw w k) (w ++ v)
    simpa [List.append_assoc] using this
theorem conj_one (v w : List (Fin 3)) (k : Nat) : pi W (pw (v.reverse ++ w ++ v) k) = one ↔ pi W (pw w k) = one := by
  rw [conj_pw]
  constructor
  · intro h
    have h1 := pi_middle W (b := v.reverse ++ pw w k ++ v) (b' := []) h v v.reverse
    have h2 := pi_middle W (b := v ++ v.reverse) (b' := []) (pi_turn W v) [] (pw w k ++ (v ++ v.reverse))
    have h3 := pi_left W (b := v ++ v.reverse) (b' := []) (pi_turn W v) (pw w k)
    simp [List.append_assoc] at h1 h2 h3
    rw [← h3, ← h2, h1]
    exact pi_turn W v
  · intro h
    have h1 := pi_middle W (b := pw w k) (b' := []) h v.reverse v
    rw [h1]
    simpa using pi_turn' W v

/-- THE ORDERS: what is of finite order n is rest, of order two, or turns by an order that divides that of a corner; what is odd is of order two -/
theorem order_of {b : Fin 3 → K} (hb : Heavy W b) {w : List (Fin 3)} {n : Nat} (hn : 0 < n) (h : pi W (pw w n) = one) (hl : ∀ j, 0 < j → j < n → pi W (pw w j) ≠ one) :
    (w.length % 2 = 1 → n = 2) ∧ (n = 1 ∨ n = 2 ∨ ∃ i j, i ≠ j ∧ W.m i j ≠ 0 ∧ n ∣ W.m i j) := by
  obtain ⟨v, q, hq⟩ := torsion W hb hn h
  obtain ⟨l, hlq⟩ : ∃ l, nf W (v.reverse ++ w ++ v) = l := ⟨_, rfl⟩
  have hpl : ∀ k, pi W (pw l k) = one ↔ pi W (pw w k) = one := by
    intro k
    rw [← conj_one W v w k, ← hlq, pw_congr W (nf_pi W _)]
  have hnl : nf W l = l := by rw [← hlq]; exact nf_nf W _
  have hpar : l.length % 2 = w.length % 2 := by
    rw [← hlq, nf_parity]
    simp
    omega
  rw [hlq] at hq
  have hn1 := (hpl n).2 h
  have hl1 : ∀ j, 0 < j → j < n → pi W (pw l j) ≠ one := fun j h1 h2 h3 => hl j h1 h2 ((hpl j).1 h3)
  rcases alternates W q l hnl hq with he | ⟨a, c, hac, he⟩
  · subst he
    have h1 : n = 1 := by
      refine Classical.byContradiction fun h2 => hl1 1 (by omega) (by omega) rfl
    refine ⟨fun h2 => ?_, .inl h1⟩
    rw [← hpar] at h2
    cases h2
  · by_cases ho : l.length % 2 = 1
    · have hr : l.reverse = l := by rw [he]; exact alt_odd ho
      have h2 : pi W (pw l 2) = one := by
        show pi W ([] ++ l ++ l) = one
        have := pi_turn W l
        rw [hr] at this
        simpa using this
      have hne : pi W (pw l 1) ≠ one := by
        intro e
        have : nf W l = nf W [] := nf_congr W e
        rw [hnl, nf_nil] at this
        rw [this] at ho
        cases ho
      have hn2 : n = 2 := by
        have h3 : n ≠ 1 := fun e => hne (by rw [← e]; exact hn1)
        refine Classical.byContradiction fun h4 => hl1 2 (by omega) (by omega) h2
      exact ⟨fun _ => hn2, .inr (.inl hn2)⟩
    · have hev : l.length % 2 = 0 := by omega
      refine ⟨fun h2 => by omega, ?_⟩
      by_cases h0 : l.length = 0
      · left
        have : l = [] := List.eq_nil_of_length_eq_zero h0
        subst this
        refine Classical.byContradiction fun h2 => hl1 1 (by omega) (by omega) rfl
      · have hp : ∀ j, pw l j = alt a c (l.length * j) := fun j => by
          have := alt_pw (a := a) (b := c) hev j
          rw [← he] at this
          exact this
        by_cases hm : W.m a c = 0
        · exfalso
          have h3 := alt_free W hac hm (n := l.length * n) (Nat.mul_pos (by omega) hn) (by rw [Nat.mul_mod, hev, Nat.zero_mul])
          rw [← hp] at h3
          exact h3 hn1
        · refine .inr (.inr ⟨a, c, hac, hm, least_divides W hn hn1 ?_ hl1⟩)
          rw [hp]
          obtain ⟨p, hp2⟩ : ∃ p, l.length = 2 * p := ⟨l.length / 2, by omega⟩
          have e1 : l.length * W.m a c = (W.m a c + W.m a c) * p := by
            rw [hp2]
            have : W.m a c + W.m a c = 2 * W.m a c := by omega
            rw [this, Nat.mul_assoc, Nat.mul_assoc, Nat.mul_comm p]
          have e2 := alt_pw (a := a) (b := c) (n := W.m a c + W.m a c) (by omega) p
          rw [e1, ← e2]
          have h5 := pw_pi_add W (l := alt a c (W.m a c + W.m a c)) (n := 1) (by simpa [pw] using alt_twice W hac hm) p
          simpa using h5

/-- an order is at least k (0: none) -/
def ge (m k : Nat) : Prop := m = 0 ∨ k ≤ m
theorem us_nn {c : K} {m k : Nat} (h : Angle c m) (g : ge m k) : 0 ≤ us c k := by
  rcases Nat.eq_zero_or_pos k with e | e
  · subst e; exact OR.le_refl _
  · rcases g with g | g
    · exact OR.le_of_lt (h.pos k e (.inl g))
    · rcases Nat.lt_or_eq_of_le g with g | g
      · exact OR.le_of_lt (h.pos k e (.inr g))
      · by_cases hm : m = 0
        · exact OR.le_of_lt (h.pos k e (.inl hm))
        · rw [g, (h.zero hm).1]; exact OR.le_refl _
theorem us_2 (c : K) : us c 2 = c := by
  show c * 1 - 0 = c
  exact (OR.ring [c] (.sub (.mul (.v 0) .o) .z) (.v 0) (by decide +kernel))
theorem us_3 (c : K) : us c 3 = c * c - 1 := by
  show c * us c 2 - 1 = c * c - 1
  rw [us_2]
theorem us_4 (c : K) : us c 4 = c * (c * c - (1 + 1)) := by
  show c * us c 3 - us c 2 = _
  rw [us_3, us_2]
  exact (OR.ring [c] (.sub (.mul (.v 0) (.sub (.mul (.v 0) (.v 0)) .o)) (.v 0)) (.mul (.v 0) (.sub (.mul (.v 0) (.v 0)) (.add .o .o))) (by decide +kernel))
theorem us_6 (c : K) : us c 6 = c * (c * c - 1) * (c * c - (1 + 1 + 1)) := by
  show c * (c * us c 4 - us c 3) - us c 4 = _
  rw [us_4, us_3]
  exact (OR.ring [c] (.sub (.mul (.v 0) (.sub (.mul (.v 0) (.mul (.v 0) (.sub (.mul (.v 0) (.v 0)) (.add .o .o)))) (.sub (.mul (.v 0) (.v 0)) .o))) (.mul (.v 0) (.sub (.mul (.v 0) (.v 0)) (.add .o .o)))) (.mul (.mul (.v 0) (.sub (.mul (.v 0) (.v 0)) .o)) (.sub (.mul (.v 0) (.v 0)) (.add (.add .o .o) .o))) (by decide +kernel))
theorem OR.nn_of_mul {a b : K} (ha : 0 < a) (h : 0 ≤ a * b) : 0 ≤ b := by
  rcases OR.nn_or b with g | g
  · exact g
  · exfalso
    have h1 := OR.mul_pos _ _ ha (OR.neg_pos.2 g)
    rw [OR.mul_neg] at h1
    exact OR.not_both h (OR.neg_pos.1 h1)
theorem us_pos {c : K} {m k : Nat} (h : Angle c m) (hk : 0 < k) (g : ge m (k + 1)) : 0 < us c k := h.pos k hk (by rcases g with g | g; exact .inl g; exact .inr (by omega))
theorem cos_2 {c : K} {m : Nat} (h : Angle c m) (g : ge m 2) : 0 ≤ c := by rw [← us_2 c]; exact us_nn h g
theorem cos_3 {c : K} {m : Nat} (h : Angle c m) (g : ge m 3) : 0 ≤ c - 1 := by
  have h2 : 0 < c := by rw [← us_2 c]; exact us_pos h (by omega) g
  have h3 := us_nn h g
  rw [us_3] at h3
  have e : c * c - 1 = (c + 1) * (c - 1) := (OR.ring [c] (.sub (.mul (.v 0) (.v 0)) .o) (.mul (.add (.v 0) .o) (.sub (.v 0) .o)) (by decide +kernel))
  rw [e] at h3
  exact OR.nn_of_mul (OR.add_pos h2 OR.one_pos) h3
theorem cos_4 {c : K} {m : Nat} (h : Angle c m) (g : ge m 4) : 0 ≤ c * c - (1 + 1) := by
  have h2 : 0 < c := by rw [← us_2 c]; exact us_pos h (by omega) (by rcases g with g | g; exact .inl g; exact .inr (by omega))
  have h3 := us_nn h g
  rw [us_4] at h3
  exact OR.nn_of_mul h2 h3
theorem cos_6 {c : K} {m : Nat} (h : Angle c m) (g : ge m 6) : 0 ≤ c * c - (1 + 1 + 1) := by
  have h2 : 0 < c := by rw [← us_2 c]; exact us_pos h (by omega) (by rcases g with g | g; exact .inl g; exact .inr (by omega))
  have h4 : 0 < c * c - 1 := by rw [← us_3 c]; exact us_pos h (by omega) (by rcases g with g | g; exact .inl g; exact .inr (by omega))
  have h3 := us_nn h g
  rw [us_6] at h3
  exact OR.nn_of_mul (OR.mul_pos _ _ h2 h4) h3
theorem ge_less {m k j : Nat} (h : ge m k) (hj : j ≤ k) : ge m j := by
  rcases h with h | h
  · exact .inl h
  · exact .inr (by omega)
/-- the triangle is not too large: x, y, z are twice the cosines -/
def Small (x y z : K) : Prop := 0 ≤ x * x + y * y + z * z + x * y * z - (1 + 1 + 1 + 1)
theorem Small.turn {x y z : K} (h : Small x y z) : Small y z x := by
  unfold Small at *
  have e : y * y + z * z + x * x + y * z * x - (1 + 1 + 1 + 1) = x * x + y * y + z * z + x * y * z - (1 + 1 + 1 + 1) := (OR.ring [x, y, z] (.sub (.add (.add (.add (.mul (.v 1) (.v 1)) (.mul (.v 2) (.v 2))) (.mul (.v 0) (.v 0))) (.mul (.mul (.v 1) (.v 2)) (.v 0))) (.add (.add (.add .o .o) .o) .o)) (.sub (.add (.add (.add (.mul (.v 0) (.v 0)) (.mul (.v 1) (.v 1))) (.mul (.v 2) (.v 2))) (.mul (.mul (.v 0) (.v 1)) (.v 2))) (.add (.add (.add .o .o) .o) .o)) (by decide +kernel))
  rw [e]; exact h
theorem Small.swap {x y z : K} (h : Small x y z) : Small y x z := by
  unfold Small at *
  have e : y * y + x * x + z * z + y * x * z - (1 + 1 + 1 + 1) = x * x + y * y + z * z + x * y * z - (1 + 1 + 1 + 1) := (OR.ring [x, y, z] (.sub (.add (.add (.add (.mul (.v 1) (.v 1)) (.mul (.v 0) (.v 0))) (.mul (.v 2) (.v 2))) (.mul (.mul (.v 1) (.v 0)) (.v 2))) (.add (.add (.add .o .o) .o) .o)) (.sub (.add (.add (.add (.mul (.v 0) (.v 0)) (.mul (.v 1) (.v 1))) (.mul (.v 2) (.v 2))) (.mul (.mul (.v 0) (.v 1)) (.v 2))) (.add (.add (.add .o .o) .o) .o)) (by decide +kernel))
  rw [e]; exact h
theorem small_236 {x y z : K} {p q r : Nat} (hx : Angle x p) (hy : Angle y q) (hz : Angle z r) (hp : ge p 2) (hq : ge q 3) (hr : ge r 6) : Small x y z := by
  have a := cos_2 hx hp
  have b := cos_3 hy hq
  have b' := cos_2 hy (ge_less hq (by omega))
  have c := cos_6 hz hr
  have c' := cos_2 hz (ge_less hr (by omega))
  unfold Small
  have e : x * x + y * y + z * z + x * y * z - (1 + 1 + 1 + 1) = x * x + (y + 1) * (y - 1) + (z * z - (1 + 1 + 1)) + x * y * z := (OR.ring [x, y, z] (.sub (.add (.add (.add (.mul (.v 0) (.v 0)) (.mul (.v 1) (.v 1))) (.mul (.v 2) (.v 2))) (.mul (.mul (.v 0) (.v 1)) (.v 2))) (.add (.add (.add .o .o) .o) .o)) (.add (.add (.add (.mul (.v 0) (.v 0)) (.mul (.add (.v 1) .o) (.sub (.v 1) .o))) (.sub (.mul (.v 2) (.v 2)) (.add (.add .o .o) .o))) (.mul (.mul (.v 0) (.v 1)) (.v 2))) (by decide +kernel))
  rw [e]
  exact OR.add_nn (OR.add_nn (OR.add_nn (OR.mul_nn a a) (OR.mul_nn (OR.add_nn b' (OR.le_of_lt OR.one_pos)) b)) c) (OR.mul_nn (OR.mul_nn a b') c')
theorem small_244 {x y z : K} {p q r : Nat} (hx : Angle x p) (hy : Angle y q) (hz : Angle z r) (hp : ge p 2) (hq : ge q 4) (hr : ge r 4) : Small x y z := by
  have a := cos_2 hx hp
  have b := cos_4 hy hq
  have b' := cos_2 hy (ge_less hq (by omega))
  have c := cos_4 hz hr
  have c' := cos_2 hz (ge_less hr (by omega))
  unfold Small
  have e : x * x + y * y + z * z + x * y * z - (1 + 1 + 1 + 1) = x * x + (y * y - (1 + 1)) + (z * z - (1 + 1)) + x * y * z := (OR.ring [x, y, z] (.sub (.add (.add (.add (.mul (.v 0) (.v 0)) (.mul (.v 1) (.v 1))) (.mul (.v 2) (.v 2))) (.mul (.mul (.v 0) (.v 1)) (.v 2))) (.add (.add (.add .o .o) .o) .o)) (.add (.add (.add (.mul (.v 0) (.v 0)) (.sub (.mul (.v 1) (.v 1)) (.add .o .o))) (.sub (.mul (.v 2) (.v 2)) (.add .o .o))) (.mul (.mul (.v 0) (.v 1)) (.v 2))) (by decide +kernel))
  rw [e]
  exact OR.add_nn (OR.add_nn (OR.add_nn (OR.mul_nn a a) b) c) (OR.mul_nn (OR.mul_nn a b') c')
theorem small_333 {x y z : K} {p q r : Nat} (hx : Angle x p) (hy : Angle y q) (hz : Angle z r) (hp : ge p 3) (hq : ge q 3) (hr : ge r 3) : Small x y z := by
  have a := cos_3 hx hp
  have a' := cos_2 hx (ge_less hp (by omega))
  have b := cos_3 hy hq
  have b' := cos_2 hy (ge_less hq (by omega))
  have c := cos_3 hz hr
  have c' := cos_2 hz (ge_less hr (by omega))
  have o := OR.le_of_lt (OR.one_pos (K := K))
  unfold Small
  have e : x * x + y * y + z * z + x * y * z - (1 + 1 + 1 + 1) = (x + 1) * (x - 1) + (y + 1) * (y - 1) + (z + 1) * (z - 1) + ((x - 1) * (y * z) + (y - 1) * z + (z - 1)) :=
    (OR.ring [x, y, z] (.sub (.add (.add (.add (.mul (.v 0) (.v 0)) (.mul (.v 1) (.v 1))) (.mul (.v 2) (.v 2))) (.mul (.mul (.v 0) (.v 1)) (.v 2))) (.add (.add (.add .o .o) .o) .o)) (.add (.add (.add (.mul (.add (.v 0) .o) (.sub (.v 0) .o)) (.mul (.add (.v 1) .o) (.sub (.v 1) .o))) (.mul (.add (.v 2) .o) (.sub (.v 2) .o))) (.add (.add (.mul (.sub (.v 0) .o) (.mul (.v 1) (.v 2))) (.mul (.sub (.v 1) .o) (.v 2))) (.sub (.v 2) .o))) (by decide +kernel))
  rw [e]
  exact OR.add_nn (OR.add_nn (OR.add_nn (OR.mul_nn (OR.add_nn a' o) a) (OR.mul_nn (OR.add_nn b' o) b)) (OR.mul_nn (OR.add_nn c' o) c))
    (OR.add_nn (OR.add_nn (OR.mul_nn a (OR.mul_nn b' c')) (OR.mul_nn b c')) c)

/-- the heavy weight -/
theorem heavy_of {x y z : K} (h0 : W.c 0 1 = x) (h1 : W.c 1 2 = y) (h2 : W.c 0 2 = z) (hx : 0 ≤ x) (hy : 0 ≤ y) (hz : 0 ≤ z) (kx : 0 ≤ (1 + 1) - x) (ky : 0 ≤ (1 + 1) - y) (kz : 0 ≤ (1 + 1) - z) (hs : Small x y z) : ∃ b, Heavy W b := by
  have sq : ∀ t : K, 0 ≤ t → 0 ≤ (1 + 1) - t → 0 ≤ (1 + 1) * (1 + 1) - t * t := by
    intro t ht kt
    have e : (1 + 1) * (1 + 1) - t * t = ((1 + 1) + t) * ((1 + 1) - t) := (OR.ring [t] (.sub (.mul (.add .o .o) (.add .o .o)) (.mul (.v 0) (.v 0))) (.mul (.add (.add .o .o) (.v 0)) (.sub (.add .o .o) (.v 0))) (by decide +kernel))
    rw [e]
    exact OR.mul_nn (OR.add_nn (OR.le_of_lt (OR.add_pos OR.one_pos OR.one_pos)) ht) kt
  have two : (0 : K) ≤ 1 + 1 := OR.le_of_lt (OR.add_pos OR.one_pos OR.one_pos)
  have sx := sq x hx kx
  have sy := sq y hy ky
  have sz := sq z hz kz
  have xy := OR.mul_nn hx hy
  have yz := OR.mul_nn hy hz
  have xz := OR.mul_nn hx hz
  have tx := OR.mul_nn two hx
  have ty := OR.mul_nn two hy
  have tz := OR.mul_nn two hz
  have c10 : W.c 1 0 = x := by rw [W.csym]; exact h0
  have c21 : W.c 2 1 = y := by rw [W.csym]; exact h1
  have c20 : W.c 2 0 = z := by rw [W.csym]; exact h2
  obtain ⟨b0, hb0⟩ : ∃ b0, ((1 + 1) * (1 + 1) - y * y) + ((1 + 1) * x + y * z) + (x * y + (1 + 1) * z) = b0 := ⟨_, rfl⟩
  obtain ⟨b1, hb1⟩ : ∃ b1, ((1 + 1) * x + y * z) + ((1 + 1) * (1 + 1) - z * z) + ((1 + 1) * y + x * z) = b1 := ⟨_, rfl⟩
  obtain ⟨b2, hb2⟩ : ∃ b2, (x * y + (1 + 1) * z) + ((1 + 1) * y + x * z) + ((1 + 1) * (1 + 1) - x * x) = b2 := ⟨_, rfl⟩
  have n0 : 0 ≤ b0 := by rw [← hb0]; exact OR.add_nn (OR.add_nn sy (OR.add_nn tx yz)) (OR.add_nn xy tz)
  have n1 : 0 ≤ b1 := by rw [← hb1]; exact OR.add_nn (OR.add_nn (OR.add_nn tx yz) sz) (OR.add_nn ty xz)
  have n2 : 0 ≤ b2 := by rw [← hb2]; exact OR.add_nn (OR.add_nn (OR.add_nn xy tz) (OR.add_nn ty xz)) sx
  have up : 0 ≤ (1 + 1) * (x * x + y * y + z * z + x * y * z - (1 + 1 + 1 + 1)) := OR.mul_nn two hs
  refine ⟨fun i => if i = 0 then b0 else if i = 1 then b1 else b2, ?_, ?_, ?_⟩
  · intro i
    match i with
    | 0 => exact n0
    | 1 => exact n1
    | 2 => exact n2
  · refine Classical.byContradiction fun hno => ?_
    have z0 : b0 = 0 := Classical.byContradiction fun e => hno ⟨0, OR.pos_of n0 e⟩
    have z1 : b1 = 0 := Classical.byContradiction fun e => hno ⟨1, OR.pos_of n1 e⟩
    have hp : 0 < b0 + y * b1 := by
      have e : b0 + y * b1 = (1 + 1) * (1 + 1) + (y * y + (1 + 1) * x + y * z + x * y + (1 + 1) * z + y * ((1 + 1) * x) + y * (y * z) + y * ((1 + 1) * (1 + 1) - z * z) + y * (x * z)) := by
        rw [← hb0, ← hb1]
        exact (OR.ring [x, y, z] (.add (.add (.add (.sub (.mul (.add .o .o) (.add .o .o)) (.mul (.v 1) (.v 1))) (.add (.mul (.add .o .o) (.v 0)) (.mul (.v 1) (.v 2)))) (.add (.mul (.v 0) (.v 1)) (.mul (.add .o .o) (.v 2)))) (.mul (.v 1) (.add (.add (.add (.mul (.add .o .o) (.v 0)) (.mul (.v 1) (.v 2))) (.sub (.mul (.add .o .o) (.add .o .o)) (.mul (.v 2) (.v 2)))) (.add (.mul (.add .o .o) (.v 1)) (.mul (.v 0) (.v 2)))))) (.add (.mul (.add .o .o) (.add .o .o)) (.add (.add (.add (.add (.add (.add (.add (.add (.mul (.v 1) (.v 1)) (.mul (.add .o .o) (.v 0))) (.mul (.v 1) (.v 2))) (.mul (.v 0) (.v 1))) (.mul (.add .o .o) (.v 2))) (.mul (.v 1) (.mul (.add .o .o) (.v 0)))) (.mul (.v 1) (.mul (.v 1) (.v 2)))) (.mul (.v 1) (.sub (.mul (.add .o .o) (.add .o .o)) (.mul (.v 2) (.v 2))))) (.mul (.v 1) (.mul (.v 0) (.v 2))))) (by decide +kernel))
      rw [e]
      have t2 : (0 : K) < 1 + 1 := OR.add_pos OR.one_pos OR.one_pos
      exact OR.add_pos_nn (OR.mul_pos _ _ t2 t2) (OR.add_nn (OR.add_nn (OR.add_nn (OR.add_nn (OR.add_nn (OR.add_nn (OR.add_nn (OR.add_nn (OR.mul_nn hy hy) tx) yz) xy) tz) (OR.mul_nn hy tx)) (OR.mul_nn hy yz)) (OR.mul_nn hy sz)) (OR.mul_nn hy xz))
    rw [z0, z1, OR.mul_zero, OR.add_zero] at hp
    exact OR.lt_irrefl _ hp
  · intro s
    match s with
    | 0 =>
      show 0 ≤ W.c 0 0 * b0 + W.c 0 1 * b1 + W.c 0 2 * b2
      rw [W.cself, h0, h2, ← hb0, ← hb1, ← hb2]
      have e : -(1 + 1) * (((1 + 1) * (1 + 1) - y * y) + ((1 + 1) * x + y * z) + (x * y + (1 + 1) * z)) + x * (((1 + 1) * x + y * z) + ((1 + 1) * (1 + 1) - z * z) + ((1 + 1) * y + x * z)) + z * ((x * y + (1 + 1) * z) + ((1 + 1) * y + x * z) + ((1 + 1) * (1 + 1) - x * x)) = (1 + 1) * (x * x + y * y + z * z + x * y * z - (1 + 1 + 1 + 1)) :=
        (OR.ring [x, y, z] (.add (.add (.mul (.neg (.add .o .o)) (.add (.add (.sub (.mul (.add .o .o) (.add .o .o)) (.mul (.v 1) (.v 1))) (.add (.mul (.add .o .o) (.v 0)) (.mul (.v 1) (.v 2)))) (.add (.mul (.v 0) (.v 1)) (.mul (.add .o .o) (.v 2))))) (.mul (.v 0) (.add (.add (.add (.mul (.add .o .o) (.v 0)) (.mul (.v 1) (.v 2))) (.sub (.mul (.add .o .o) (.add .o .o)) (.mul (.v 2) (.v 2)))) (.add (.mul (.add .o .o) (.v 1)) (.mul (.v 0) (.v 2)))))) (.mul (.v 2) (.add (.add (.add (.mul (.v 0) (.v 1)) (.mul (.add .o .o) (.v 2))) (.add (.mul (.add .o .o) (.v 1)) (.mul (.v 0) (.v 2)))) (.sub (.mul (.add .o .o) (.add .o .o)) (.mul (.v 0) (.v 0)))))) (.mul (.add .o .o) (.sub (.add (.add (.add (.mul (.v 0) (.v 0)) (.mul (.v 1) (.v 1))) (.mul (.v 2) (.v 2))) (.mul (.mul (.v 0) (.v 1)) (.v 2))) (.add (.add (.add .o .o) .o) .o))) (by decide +kernel))
      rw [e]; exact up
    | 1 =>
      show 0 ≤ W.c 1 0 * b0 + W.c 1 1 * b1 + W.c 1 2 * b2
      rw [W.cself, c10, h1, ← hb0, ← hb1, ← hb2]
      have e : x * (((1 + 1) * (1 + 1) - y * y) + ((1 + 1) * x + y * z) + (x * y + (1 + 1) * z)) + -(1 + 1) * (((1 + 1) * x + y * z) + ((1 + 1) * (1 + 1) - z * z) + ((1 + 1) * y + x * z)) + y * ((x * y + (1 + 1) * z) + ((1 + 1) * y + x * z) + ((1 + 1) * (1 + 1) - x * x)) = (1 + 1) * (x * x + y * y + z * z + x * y * z - (1 + 1 + 1 + 1)) :=
        (OR.ring [x, y, z] (.add (.add (.mul (.v 0) (.add (.add (.sub (.mul (.add .o .o) (.add .o .o)) (.mul (.v 1) (.v 1))) (.add (.mul (.add .o .o) (.v 0)) (.mul (.v 1) (.v 2)))) (.add (.mul (.v 0) (.v 1)) (.mul (.add .o .o) (.v 2))))) (.mul (.neg (.add .o .o)) (.add (.add (.add (.mul (.add .o .o) (.v 0)) (.mul (.v 1) (.v 2))) (.sub (.mul (.add .o .o) (.add .o .o)) (.mul (.v 2) (.v 2)))) (.add (.mul (.add .o .o) (.v 1)) (.mul (.v 0) (.v 2)))))) (.mul (.v 1) (.add (.add (.add (.mul (.v 0) (.v 1)) (.mul (.add .o .o) (.v 2))) (.add (.mul (.add .o .o) (.v 1)) (.mul (.v 0) (.v 2)))) (.sub (.mul (.add .o .o) (.add .o .o)) (.mul (.v 0) (.v 0)))))) (.mul (.add .o .o) (.sub (.add (.add (.add (.mul (.v 0) (.v 0)) (.mul (.v 1) (.v 1))) (.mul (.v 2) (.v 2))) (.mul (.mul (.v 0) (.v 1)) (.v 2))) (.add (.add (.add .o .o) .o) .o))) (by decide +kernel))
      rw [e]; exact up
    | 2 =>
      show 0 ≤ W.c 2 0 * b0 + W.c 2 1 * b1 + W.c 2 2 * b2
      rw [W.cself, c20, c21, ← hb0, ← hb1, ← hb2]
      have e : z * (((1 + 1) * (1 + 1) - y * y) + ((1 + 1) * x + y * z) + (x * y + (1 + 1) * z)) + y * (((1 + 1) * x + y * z) + ((1 + 1) * (1 + 1) - z * z) + ((1 + 1) * y + x * z)) + -(1 + 1) * ((x * y + (1 + 1) * z) + ((1 + 1) * y + x * z) + ((1 + 1) * (1 + 1) - x * x)) = (1 + 1) * (x * x + y * y + z * z + x * y * z - (1 + 1 + 1 + 1)) :=
        (OR.ring [x, y, z] (.add (.add (.mul (.v 2) (.add (.add (.sub (.mul (.add .o .o) (.add .o .o)) (.mul (.v 1) (.v 1))) (.add (.mul (.add .o .o) (.v 0)) (.mul (.v 1) (.v 2)))) (.add (.mul (.v 0) (.v 1)) (.mul (.add .o .o) (.v 2))))) (.mul (.v 1) (.add (.add (.add (.mul (.add .o .o) (.v 0)) (.mul (.v 1) (.v 2))) (.sub (.mul (.add .o .o) (.add .o .o)) (.mul (.v 2) (.v 2)))) (.add (.mul (.add .o .o) (.v 1)) (.mul (.v 0) (.v 2)))))) (.mul (.neg (.add .o .o)) (.add (.add (.add (.mul (.v 0) (.v 1)) (.mul (.add .o .o) (.v 2))) (.add (.mul (.add .o .o) (.v 1)) (.mul (.v 0) (.v 2)))) (.sub (.mul (.add .o .o) (.add .o .o)) (.mul (.v 0) (.v 0)))))) (.mul (.add .o .o) (.sub (.add (.add (.add (.mul (.v 0) (.v 0)) (.mul (.v 1) (.v 1))) (.mul (.v 2) (.v 2))) (.mul (.mul (.v 0) (.v 1)) (.v 2))) (.add (.add (.add .o .o) .o) .o))) (by decide +kernel))
      rw [e]; exact up
end

theorem exists_tri_flat (m : Fin 3 → Fin 3 → Nat) (hs : ∀ i j, m i j = m j i) (h1 : ∀ i j, i ≠ j → m i j ≠ 1) : ∃ T : Tri Re, T.m = m ∧ ∀ i j, i ≠ j → 0 ≤ (1 + 1) - T.c i j := by
  have hf : ∃ f : Nat → Re, ∀ k, k ≠ 1 → Angle (f k) k ∧ 0 ≤ (1 + 1) - f k := by
    refine ⟨fun k => if h : k = 0 then 1 + 1 else if h : k ≠ 1 then (cosine_any k h).choose else 0, fun k hk => ?_⟩
    by_cases h0 : k = 0
    · subst h0
      simp only [dif_pos]
      refine ⟨parallel, ?_⟩
      have : (1 + 1 : Re) - (1 + 1) = 0 := (OR.ring [] (.sub (.add .o .o) (.add .o .o)) .z (by decide +kernel))
      rw [this]; exact OR.le_refl _
    · simp only [dif_neg h0, dif_pos hk]
      have := (cosine_any k hk).choose_spec
      exact ⟨this, OR.le_of_lt (OR.pos_sub.1 (this.zero h0).2.1)⟩
  obtain ⟨f, hf⟩ := hf
  refine ⟨{ c := fun i j => if i = j then -(1 + 1) else f (m i j), m := m, csym := ?_, msym := hs, cself := ?_, angle := ?_ }, rfl, ?_⟩
  · intro i j
    by_cases e : i = j
    · subst e; rfl
    · simp only [if_neg e, if_neg (fun h => e (Eq.symm h) : ¬ j = i), hs i j]
  · intro i
    simp only [if_true]
  · intro i j hij
    simp only [if_neg hij]
    exact (hf _ (h1 i j hij)).1
  · intro i j hij
    simp only [if_neg hij]
    exact (hf _ (h1 i j hij)).2
end Go.Proofs.Ytlhmfaelkkiahaa.Cox
