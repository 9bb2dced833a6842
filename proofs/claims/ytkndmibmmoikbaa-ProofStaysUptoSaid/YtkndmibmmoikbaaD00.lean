/- Chapter 10: Cox. -/
set_option linter.all false
set_option maxRecDepth 100000
set_option maxHeartbeats 16000000
set_option linter.unusedSectionVars false
set_option linter.unusedVariables false
namespace Go.Proofs.Ytkndmibmmoikbaa.Cox
section
class OR (K : Type) extends Add K, Mul K, Neg K, Sub K, Zero K, One K, LE K, LT K where
 add_assoc : ∀ a b c : K, a + b + c = a + (b + c)
 add_comm : ∀ a b : K, a + b = b + a
 zero_add : ∀ a : K, 0 + a = a
 add_neg : ∀ a : K, a + -a = 0
 mul_assoc : ∀ a b c : K, a * b * c = a * (b * c)
 mul_comm : ∀ a b : K, a * b = b * a
 one_mul : ∀ a : K, 1 * a = a
 mul_add : ∀ a b c : K, a * (b + c) = a * b + a * c
 sub_eq : ∀ a b : K, a - b = a + -b
 lt_irrefl : ∀ a : K, ¬ a < a
 lt_trans : ∀ a b c : K, a < b → b < c → a < c
 lt_total : ∀ a b : K, a < b ∨ a = b ∨ b < a
 add_lt : ∀ a b c : K, a < b → a + c < b + c
 mul_pos : ∀ a b : K, 0 < a → 0 < b → 0 < a * b
 one_pos : (0 : K) < 1
 le_iff : ∀ a b : K, a ≤ b ↔ a < b ∨ a = b
namespace OR
variable {K : Type} [OR K]
theorem add_zero (a : K) : a + 0 = a := by rw [add_comm, zero_add]
theorem mul_one (a : K) : a * 1 = a := by rw [mul_comm, one_mul]
theorem add_mul (a b c : K) : (a + b) * c = a * c + b * c := by rw [mul_comm, mul_add, mul_comm c, mul_comm c]
theorem add_left_cancel {a b c : K} (h : a + b = a + c) : b = c := by
 have : -a + (a + b) = -a + (a + c) := by rw [h]
 rwa [← add_assoc, ← add_assoc, add_comm (-a) a, add_neg, zero_add, zero_add] at this
theorem mul_zero (a : K) : a * 0 = 0 := by
 have : a * 0 + a * 0 = a * 0 + 0 := by rw [← mul_add, zero_add, add_zero]
 exact add_left_cancel this
theorem zero_mul (a : K) : 0 * a = 0 := by rw [mul_comm, mul_zero]
theorem mul_neg (a b : K) : a * -b = -(a * b) := by
 have : a * b + a * -b = a * b + -(a * b) := by rw [← mul_add, add_neg, mul_zero, add_neg]
 exact add_left_cancel this
theorem neg_mul (a b : K) : -a * b = -(a * b) := by rw [mul_comm, mul_neg, mul_comm]
theorem neg_zero : -(0 : K) = 0 := by have := add_neg (0 : K); rwa [zero_add] at this
theorem neg_add (a b : K) : -(a + b) = -a + -b := by
 have : a + b + -(a + b) = a + b + (-a + -b) := by
  rw [add_neg, add_assoc, add_comm (-a), ← add_assoc b, add_neg, zero_add, add_neg]
 exact add_left_cancel this
theorem neg_neg (a : K) : - -a = a := by
 have : -a + - -a = -a + a := by rw [add_neg, add_comm, add_neg]
 exact add_left_cancel this
theorem eq_of_sub {a b : K} (h : a - b = 0) : a = b := by
 rw [sub_eq] at h
 have : -b + a = -b + b := by rw [add_comm, h, add_comm, add_neg]
 exact add_left_cancel this
inductive E where
 | v (n : Nat) | z | o | add (a b : E) | mul (a b : E) | neg (a : E) | sub (a b : E)
def E.den (r : List K) : E → K
 | .v n => r.getD n 0
 | .z => 0
 | .o => 1
 | .add a b => a.den r + b.den r
 | .mul a b => a.den r * b.den r
 | .neg a => - a.den r
 | .sub a b => a.den r - b.den r
def ins (n : Nat) : List Nat → List Nat
 | [] => [n]
 | m :: l => if n ≤ m then n :: m :: l else m :: ins n l
def mmul : List Nat → List Nat → List Nat
 | [], l => l
 | n :: k, l => ins n (mmul k l)
def tmul (s : Bool × List Nat) (t : Bool × List Nat) : Bool × List Nat := (s.1 == t.1, mmul s.2 t.2)
def flip1 (t : Bool × List Nat) : Bool × List Nat := (!t.1, t.2)
def pmul : List (Bool × List Nat) → List (Bool × List Nat) → List (Bool × List Nat)
 | [], _ => []
 | s :: p, q => q.map (tmul s) ++ pmul p q
def E.terms : E → List (Bool × List Nat)
 | .v n => [(true, [n])]
 | .z => []
 | .o => [(true, [])]
 | .add a b => a.terms ++ b.terms
 | .mul a b => pmul a.terms b.terms
 | .neg a => a.terms.map flip1
 | .sub a b => a.terms ++ b.terms.map flip1
def mden (r : List K) : List Nat → K
 | [] => 1
 | n :: l => r.getD n 0 * mden r l
def tden (r : List K) (t : Bool × List Nat) : K := if t.1 then mden r t.2 else - mden r t.2
def pden (r : List K) : List (Bool × List Nat) → K
 | [] => 0
 | t :: p => tden r t + pden r p
theorem mden_ins (r : List K) (n : Nat) (l : List Nat) : mden r (ins n l) = r.getD n 0 * mden r l := by
 induction l with
 | nil => rfl
 | cons m l ih =>
  unfold ins; split
  · rfl
  · show r.getD m 0 * mden r (ins n l) = r.getD n 0 * (r.getD m 0 * mden r l)
    rw [ih, ← mul_assoc, ← mul_assoc, mul_comm (r.getD m 0)]
theorem mden_mmul (r : List K) (k l : List Nat) : mden r (mmul k l) = mden r k * mden r l := by
 induction k with
 | nil => show mden r l = 1 * mden r l; rw [one_mul]
 | cons n k ih => show mden r (ins n (mmul k l)) = r.getD n 0 * mden r k * mden r l; rw [mden_ins, ih, mul_assoc]
theorem tden_tmul (r : List K) (s t : Bool × List Nat) : tden r (tmul s t) = tden r s * tden r t := by
 obtain ⟨a, k⟩ := s
 obtain ⟨b, l⟩ := t
 unfold tden tmul
 cases a <;> cases b <;> simp only [mden_mmul, if_true, Bool.false_eq_true, if_false, beq_self_eq_true]
 · rw [neg_mul, mul_neg, neg_neg]
 · show (if (false == true) = true then _ else _) = _
   rw [if_neg (by decide), neg_mul]
 · show (if (true == false) = true then _ else _) = _
   rw [if_neg (by decide), mul_neg]
theorem pden_append (r : List K) (p q : List (Bool × List Nat)) : pden r (p ++ q) = pden r p + pden r q := by
 induction p with
 | nil => show pden r q = 0 + pden r q; rw [zero_add]
 | cons t p ih => show tden r t + pden r (p ++ q) = tden r t + pden r p + pden r q; rw [ih, add_assoc]
theorem pden_map (r : List K) (s : Bool × List Nat) (q : List (Bool × List Nat)) : pden r (q.map (tmul s)) = tden r s * pden r q := by
 induction q with
 | nil => show (0 : K) = _ * 0; rw [mul_zero]
 | cons t q ih => show tden r (tmul s t) + pden r (q.map (tmul s)) = tden r s * (tden r t + pden r q); rw [ih, tden_tmul, mul_add]
theorem pden_pmul (r : List K) (p q : List (Bool × List Nat)) : pden r (pmul p q) = pden r p * pden r q := by
 induction p with
 | nil => show (0 : K) = 0 * _; rw [zero_mul]
 | cons s p ih => show pden r (q.map (tmul s) ++ pmul p q) = (tden r s + pden r p) * pden r q; rw [pden_append, pden_map, ih, add_mul]
theorem tden_flip (r : List K) (t : Bool × List Nat) : tden r (flip1 t) = - tden r t := by
 obtain ⟨a, k⟩ := t
 unfold tden flip1
 cases a <;> simp [neg_neg]
theorem pden_flip (r : List K) (p : List (Bool × List Nat)) : pden r (p.map flip1) = - pden r p := by
 induction p with
 | nil => show (0 : K) = - 0; rw [neg_zero]
 | cons t p ih => show tden r (flip1 t) + pden r (p.map flip1) = -(tden r t + pden r p); rw [ih, tden_flip, neg_add]
theorem den_terms (r : List K) (e : E) : pden r e.terms = e.den r := by
 induction e with
 | v n => show r.getD n 0 * 1 + 0 = r.getD n 0; rw [mul_one, add_zero]
 | z => rfl
 | o => show (1 : K) + 0 = 1; rw [add_zero]
 | add a b ha hb => show pden r (a.terms ++ b.terms) = _; rw [pden_append, ha, hb]; rfl
 | mul a b ha hb => show pden r (pmul a.terms b.terms) = _; rw [pden_pmul, ha, hb]; rfl
 | neg a ha => show pden r (a.terms.map flip1) = _; rw [pden_flip, ha]; rfl
 | sub a b ha hb => show pden r (a.terms ++ b.terms.map flip1) = _; rw [pden_append, pden_flip, ha, hb]; exact (sub_eq _ _).symm
def del (t : Bool × List Nat) : List (Bool × List Nat) → Option (List (Bool × List Nat))
 | [] => none
 | s :: p => if s = t then some p else (del t p).map (s :: ·)
def even0 : Nat → List (Bool × List Nat) → Bool
 | _, [] => true
 | 0, _ :: _ => false
 | n + 1, t :: p => match del (flip1 t) p with
  | none => false
  | some q => even0 n q
theorem pden_del (r : List K) (t : Bool × List Nat) : ∀ (p q : List (Bool × List Nat)), del t p = some q → pden r p = tden r t + pden r q
 | [], q, h => by cases h
 | s :: p, q, h => by
  unfold del at h
  split at h
  · rename_i e; cases h; rw [← e]; rfl
  · cases hd : del t p with
    | none => rw [hd] at h; cases h
    | some q' =>
     rw [hd] at h
     cases h
     show tden r s + pden r p = tden r t + (tden r s + pden r q')
     rw [pden_del r t p q' hd, ← add_assoc, ← add_assoc, add_comm (tden r s)]
theorem pden_even (r : List K) : ∀ (n : Nat) (p : List (Bool × List Nat)), even0 n p = true → pden r p = 0
 | _, [], _ => rfl
 | 0, _ :: _, h => by cases h
 | n + 1, t :: p, h => by
  unfold even0 at h
  cases hd : del (flip1 t) p with
  | none => rw [hd] at h; cases h
  | some q =>
   rw [hd] at h
   have := pden_even r n q h
   show tden r t + pden r p = 0
   rw [pden_del r _ p q hd, this, tden_flip, add_zero, add_neg]
theorem ring (r : List K) (a b : E) (h : even0 (E.sub a b).terms.length (E.sub a b).terms = true) : a.den r = b.den r := by
 have := pden_even r _ _ h
 rw [den_terms] at this
 exact eq_of_sub this
theorem lt_asymm {a b : K} (h : a < b) (g : b < a) : False := lt_irrefl a (lt_trans a b a h g)
theorem le_refl (a : K) : a ≤ a := (le_iff a a).2 (.inr rfl)
theorem le_of_lt {a b : K} (h : a < b) : a ≤ b := (le_iff a b).2 (.inl h)
theorem lt_of_lt_of_le {a b c : K} (h : a < b) (g : b ≤ c) : a < c := by
 rcases (le_iff b c).1 g with g | g
 · exact lt_trans a b c h g
 · exact g ▸ h
theorem le_antisymm {a b : K} (h : a ≤ b) (g : b ≤ a) : a = b := by
 rcases (le_iff a b).1 h with h | h
 · exact (lt_irrefl a (lt_of_lt_of_le h g)).elim
 · exact h
theorem pos_sub {a b : K} : a < b ↔ 0 < b - a := by
 constructor
 · intro h
   have := add_lt a b (-a) h
   rwa [add_neg, ← sub_eq] at this
 · intro h
   have := add_lt 0 (b - a) a h
   rwa [zero_add, sub_eq, add_assoc, add_comm (-a), add_neg, add_zero] at this
theorem add_pos {a b : K} (ha : 0 < a) (hb : 0 < b) : 0 < a + b := by
 have := add_lt 0 a b ha
 rw [zero_add] at this
 exact lt_trans _ _ _ hb this
theorem neg_pos {a : K} : 0 < -a ↔ a < 0 := by
 constructor
 · intro h; have := add_lt 0 (-a) a h; rwa [zero_add, add_comm, add_neg] at this
 · intro h; have := add_lt a 0 (-a) h; rwa [zero_add, add_neg] at this
theorem add_nn {a b : K} (ha : 0 ≤ a) (hb : 0 ≤ b) : 0 ≤ a + b := by
 rcases (le_iff _ _).1 ha with h | h
 · rcases (le_iff _ _).1 hb with g | g
   · exact le_of_lt (add_pos h g)
   · rw [← g, add_zero]; exact ha
 · rw [← h, zero_add]; exact hb
theorem mul_nn {a b : K} (ha : 0 ≤ a) (hb : 0 ≤ b) : 0 ≤ a * b := by
 rcases (le_iff _ _).1 ha with h | h
 · rcases (le_iff _ _).1 hb with g | g
   · exact le_of_lt (mul_pos _ _ h g)
   · rw [← g, mul_zero]; exact le_refl _
 · rw [← h, zero_mul]; exact le_refl _
theorem mul_eq_zero {a b : K} (h : a * b = 0) : a = 0 ∨ b = 0 := by
 rcases lt_total a 0 with ha | ha | ha
 · rcases lt_total b 0 with hb | hb | hb
   · have := mul_pos _ _ (neg_pos.2 ha) (neg_pos.2 hb)
     rw [neg_mul, mul_neg, neg_neg, h] at this
     exact (lt_irrefl _ this).elim
   · exact .inr hb
   · have := mul_pos _ _ (neg_pos.2 ha) hb
     rw [neg_mul, h, neg_zero] at this
     exact (lt_irrefl _ this).elim
 · exact .inl ha
 · rcases lt_total b 0 with hb | hb | hb
   · have := mul_pos _ _ ha (neg_pos.2 hb)
     rw [mul_neg, h, neg_zero] at this
     exact (lt_irrefl _ this).elim
   · exact .inr hb
   · have := mul_pos _ _ ha hb
     rw [h] at this
     exact (lt_irrefl _ this).elim
theorem one_ne : (1 : K) ≠ 0 := fun h => by have := one_pos (K := K); rw [h] at this; exact lt_irrefl _ this
theorem one_ne_neg : (1 : K) ≠ -1 := fun h => by
 have h1 := add_pos (one_pos (K := K)) one_pos
 have h2 : (1 : K) + 1 = 0 := by
  have := add_neg (1 : K)
  rwa [← h] at this
 rw [h2] at h1; exact lt_irrefl _ h1
theorem neg_nn {a : K} : 0 ≤ -a ↔ a ≤ 0 := by
 constructor
 · intro h
   rcases (le_iff _ _).1 h with h | h
   · exact le_of_lt (neg_pos.1 h)
   · exact (le_iff _ _).2 (.inr (by rw [← neg_neg a, ← h, neg_zero]))
 · intro h
   rcases (le_iff _ _).1 h with h | h
   · exact le_of_lt (neg_pos.2 h)
   · exact (le_iff _ _).2 (.inr (by rw [h, neg_zero]))
end OR
end
section
def third (s t : Fin 3) : Fin 3 := 0 - s - t
theorem third_cases : ∀ s t : Fin 3, s ≠ t → ∀ i : Fin 3, i = s ∨ i = t ∨ i = third s t := by decide
def alt (a b : Fin 3) : Nat → List (Fin 3)
 | 0 => []
 | n + 1 => a :: alt b a n
theorem alt_length (a b : Fin 3) (n : Nat) : (alt a b n).length = n := by
 induction n generalizing a b with
 | zero => rfl
 | succ n ih => simp [alt, ih]
def nx (a b : Fin 3) (n : Nat) : Fin 3 := if n % 2 = 0 then a else b
theorem nx_succ (a b : Fin 3) (n : Nat) : nx a b (n + 1) = nx b a n := by
 unfold nx
 split <;> split <;> first | rfl | (exfalso; omega)
theorem nx_two (a b : Fin 3) (n : Nat) : nx a b (n + 2) = nx a b n := by rw [nx_succ, nx_succ]
theorem nx_ne {a b : Fin 3} (h : a ≠ b) (n : Nat) : nx a b n ≠ nx b a n := by
 unfold nx; split
 · exact h
 · exact h.symm
theorem alt_snoc (a b : Fin 3) (n : Nat) : alt a b (n + 1) = alt a b n ++ [nx a b n] := by
 induction n generalizing a b with
 | zero => rfl
 | succ n ih =>
  rw [nx_succ]
  show a :: alt b a (n + 1) = a :: alt b a n ++ [nx b a n]
  rw [ih b a]; rfl
theorem alt_add (a b : Fin 3) (n k : Nat) : alt a b (n + k) = alt a b n ++ alt (nx a b n) (nx b a n) k := by
 induction k with
 | zero => simp [alt]
 | succ k ih =>
  rw [← Nat.add_assoc, alt_snoc, ih, List.append_assoc, alt_snoc]
  congr 3
  unfold nx
  split <;> split <;> split <;> first | rfl | (exfalso; omega)
section field
variable {K : Type} [OR K]
def us (c : K) : Nat → K
 | 0 => 0
 | 1 => 1
 | n + 2 => c * us c (n + 1) - us c n
structure Angle (c : K) (m : Nat) : Prop where
 pos : ∀ k, 0 < k → (m = 0 ∨ k < m) → 0 < us c k
 zero : m ≠ 0 → us c m = 0 ∧ c < 1 + 1 ∧ 0 ≤ c
 two : m ≠ 1
structure Tri (K : Type) [OR K] where
 c : Fin 3 → Fin 3 → K
 m : Fin 3 → Fin 3 → Nat
 csym : ∀ i j, c i j = c j i
 msym : ∀ i j, m i j = m j i
 cself : ∀ i, c i i = -(1 + 1)
 angle : ∀ i j, i ≠ j → Angle (c i j) (m i j)
theorem us_inv (c : K) (n : Nat) : us c (n + 1) * us c (n + 1) - c * us c (n + 1) * us c n + us c n * us c n = 1 := by
 induction n with
 | zero => exact (OR.ring [c] (.add (.sub (.mul .o .o) (.mul (.mul (.v 0) .o) .z)) (.mul .z .z)) .o (by decide +kernel))
 | succ n ih =>
  have e : us c (n + 1 + 1) * us c (n + 1 + 1) - c * us c (n + 1 + 1) * us c (n + 1) + us c (n + 1) * us c (n + 1) = us c (n + 1) * us c (n + 1) - c * us c (n + 1) * us c n + us c n * us c n :=
   (OR.ring [c, us c (n + 1), us c n] (.add (.sub (.mul (.sub (.mul (.v 0) (.v 1)) (.v 2)) (.sub (.mul (.v 0) (.v 1)) (.v 2))) (.mul (.mul (.v 0) (.sub (.mul (.v 0) (.v 1)) (.v 2))) (.v 1))) (.mul (.v 1) (.v 1))) (.add (.sub (.mul (.v 1) (.v 1)) (.mul (.mul (.v 0) (.v 1)) (.v 2))) (.mul (.v 2) (.v 2))) (by decide +kernel))
  rw [e, ih]
theorem Angle.last {c : K} {m : Nat} (h : Angle c (m + 1)) : us c m = 1 := by
 have h0 := (h.zero (by omega)).1
 have hi := us_inv c m
 rw [h0] at hi
 have hm : m ≠ 0 := by intro e; subst e; exact h.two rfl
 have hp := h.pos m (by omega) (.inr (by omega))
 have h1 : (us c m - 1) * (us c m + 1) = 0 := by
  have e : (us c m - 1) * (us c m + 1) = (0 * 0 - c * 0 * us c m + us c m * us c m) - 1 := (OR.ring [c, us c m] (.mul (.sub (.v 1) .o) (.add (.v 1) .o)) (.sub (.add (.sub (.mul .z .z) (.mul (.mul (.v 0) .z) (.v 1))) (.mul (.v 1) (.v 1))) .o) (by decide +kernel))
  rw [e, hi]
  exact (OR.ring [] (.sub .o .o) .z (by decide +kernel))
 rcases OR.mul_eq_zero h1 with h2 | h2
 · exact OR.eq_of_sub h2
 · have h3 := OR.add_pos hp OR.one_pos
   rw [h2] at h3
   exact (OR.lt_irrefl _ h3).elim
abbrev Mat (K : Type) := Fin 3 → Fin 3 → K
variable (W : Tri K)
def one : Mat K := fun t i => if t = i then 1 else 0
def act (X : Mat K) (s : Fin 3) : Mat K := fun t i => X t i + W.c s t * X s i
def run (X : Mat K) (w : List (Fin 3)) : Mat K := w.foldl (act W) X
def pi (w : List (Fin 3)) : Mat K := run W one w
theorem run_cons (X : Mat K) (s : Fin 3) (w : List (Fin 3)) : run W X (s :: w) = run W (act W X s) w := rfl
theorem run_append (X : Mat K) (u v : List (Fin 3)) : run W X (u ++ v) = run W (run W X u) v := by simp [run]
theorem run_snoc (X : Mat K) (u : List (Fin 3)) (s : Fin 3) : run W X (u ++ [s]) = act W (run W X u) s := by simp [run]
theorem act_self (X : Mat K) (s i : Fin 3) : act W X s s i = - X s i := by
 show X s i + W.c s s * X s i = - X s i
 rw [W.cself]
 exact (OR.ring [X s i] (.add (.v 0) (.mul (.neg (.add .o .o)) (.v 0))) (.neg (.v 0)) (by decide +kernel))
theorem act_act (X : Mat K) (s : Fin 3) : act W (act W X s) s = X := by
 funext t i
 show act W X s t i + W.c s t * act W X s s i = X t i
 rw [act_self]
 exact (OR.ring [X t i, X s i, W.c s t] (.add (.add (.v 0) (.mul (.v 2) (.v 1))) (.mul (.v 2) (.neg (.v 1)))) (.v 0) (by decide +kernel))
theorem run_turn (X : Mat K) (w : List (Fin 3)) : run W (run W X w) w.reverse = X := by
 induction w generalizing X with
 | nil => rfl
 | cons s w ih =>
  rw [List.reverse_cons, run_snoc, run_cons, ih]
  exact act_act W X s
theorem run_turn' (X : Mat K) (w : List (Fin 3)) : run W (run W X w.reverse) w = X := by
 have := run_turn W X w.reverse
 rwa [List.reverse_reverse] at this
def mul (X Y : Mat K) : Mat K := fun t i => X 0 i * Y t 0 + X 1 i * Y t 1 + X 2 i * Y t 2
theorem mul_act (X Y : Mat K) (s : Fin 3) : mul X (act W Y s) = act W (mul X Y) s := by
 funext t i
 exact (OR.ring [X 0 i, X 1 i, X 2 i, Y t 0, Y t 1, Y t 2, Y s 0, Y s 1, Y s 2, W.c s t] (.add (.add (.mul (.v 0) (.add (.v 3) (.mul (.v 9) (.v 6)))) (.mul (.v 1) (.add (.v 4) (.mul (.v 9) (.v 7))))) (.mul (.v 2) (.add (.v 5) (.mul (.v 9) (.v 8))))) (.add (.add (.add (.mul (.v 0) (.v 3)) (.mul (.v 1) (.v 4))) (.mul (.v 2) (.v 5))) (.mul (.v 9) (.add (.add (.mul (.v 0) (.v 6)) (.mul (.v 1) (.v 7))) (.mul (.v 2) (.v 8))))) (by decide +kernel))
theorem mul_one (X : Mat K) : mul X one = X := by
 funext t i
 match t with
 | 0 => exact (OR.ring [X 0 i, X 1 i, X 2 i] (.add (.add (.mul (.v 0) .o) (.mul (.v 1) .z)) (.mul (.v 2) .z)) (.v 0) (by decide +kernel))
 | 1 => exact (OR.ring [X 0 i, X 1 i, X 2 i] (.add (.add (.mul (.v 0) .z) (.mul (.v 1) .o)) (.mul (.v 2) .z)) (.v 1) (by decide +kernel))
 | 2 => exact (OR.ring [X 0 i, X 1 i, X 2 i] (.add (.add (.mul (.v 0) .z) (.mul (.v 1) .z)) (.mul (.v 2) .o)) (.v 2) (by decide +kernel))
theorem mul_run (X Y : Mat K) (w : List (Fin 3)) : mul X (run W Y w) = run W (mul X Y) w := by
 induction w generalizing Y with
 | nil => rfl
 | cons s w ih => rw [run_cons, run_cons, ih, mul_act]
theorem run_eq_mul (X : Mat K) (w : List (Fin 3)) : run W X w = mul X (pi W w) := by
 rw [pi, mul_run, mul_one]
theorem pi_append (u v : List (Fin 3)) : pi W (u ++ v) = mul (pi W u) (pi W v) := by
 rw [← run_eq_mul]; exact run_append W one u v
theorem pi_middle {b b' : List (Fin 3)} (h : pi W b = pi W b') (a d : List (Fin 3)) : pi W (a ++ b ++ d) = pi W (a ++ b' ++ d) := by
 rw [pi_append, pi_append, pi_append, pi_append, h]
theorem pi_right {b b' : List (Fin 3)} (h : pi W b = pi W b') (d : List (Fin 3)) : pi W (b ++ d) = pi W (b' ++ d) := by
 rw [pi_append, pi_append, h]
theorem pi_left {b b' : List (Fin 3)} (h : pi W b = pi W b') (a : List (Fin 3)) : pi W (a ++ b) = pi W (a ++ b') := by
 rw [pi_append, pi_append, h]
theorem pi_snoc (u : List (Fin 3)) (s : Fin 3) : pi W (u ++ [s]) = act W (pi W u) s := run_snoc W one u s
theorem pi_turn (w : List (Fin 3)) : pi W (w ++ w.reverse) = one := by
 rw [pi, run_append, run_turn]
theorem pi_turn' (w : List (Fin 3)) : pi W (w.reverse ++ w) = one := by
 rw [pi, run_append, run_turn']
def det3 (a b c d e f g h i : K) : K := a * (e * i - f * h) - b * (d * i - f * g) + c * (d * h - e * g)
def det (X : Mat K) : K := det3 (X 0 0) (X 0 1) (X 0 2) (X 1 0) (X 1 1) (X 1 2) (X 2 0) (X 2 1) (X 2 2)
theorem det_one : det (one : Mat K) = 1 := (OR.ring [] (.add (.sub (.mul .o (.sub (.mul .o .o) (.mul .z .z))) (.mul .z (.sub (.mul .z .o) (.mul .z .z)))) (.mul .z (.sub (.mul .z .z) (.mul .o .z)))) .o (by decide +kernel))
theorem det_0 (a b c d e f g h i p q : K) : det3 (-a) (-b) (-c) (d + p * a) (e + p * b) (f + p * c) (g + q * a) (h + q * b) (i + q * c) = - det3 a b c d e f g h i :=
 (OR.ring [a, b, c, d, e, f, g, h, i, p, q] (.add (.sub (.mul (.neg (.v 0)) (.sub (.mul (.add (.v 4) (.mul (.v 9) (.v 1))) (.add (.v 8) (.mul (.v 10) (.v 2)))) (.mul (.add (.v 5) (.mul (.v 9) (.v 2))) (.add (.v 7) (.mul (.v 10) (.v 1)))))) (.mul (.neg (.v 1)) (.sub (.mul (.add (.v 3) (.mul (.v 9) (.v 0))) (.add (.v 8) (.mul (.v 10) (.v 2)))) (.mul (.add (.v 5) (.mul (.v 9) (.v 2))) (.add (.v 6) (.mul (.v 10) (.v 0))))))) (.mul (.neg (.v 2)) (.sub (.mul (.add (.v 3) (.mul (.v 9) (.v 0))) (.add (.v 7) (.mul (.v 10) (.v 1)))) (.mul (.add (.v 4) (.mul (.v 9) (.v 1))) (.add (.v 6) (.mul (.v 10) (.v 0))))))) (.neg (.add (.sub (.mul (.v 0) (.sub (.mul (.v 4) (.v 8)) (.mul (.v 5) (.v 7)))) (.mul (.v 1) (.sub (.mul (.v 3) (.v 8)) (.mul (.v 5) (.v 6))))) (.mul (.v 2) (.sub (.mul (.v 3) (.v 7)) (.mul (.v 4) (.v 6)))))) (by decide +kernel))
theorem det_1 (a b c d e f g h i p q : K) : det3 (a + p * d) (b + p * e) (c + p * f) (-d) (-e) (-f) (g + q * d) (h + q * e) (i + q * f) = - det3 a b c d e f g h i :=
 (OR.ring [a, b, c, d, e, f, g, h, i, p, q] (.add (.sub (.mul (.add (.v 0) (.mul (.v 9) (.v 3))) (.sub (.mul (.neg (.v 4)) (.add (.v 8) (.mul (.v 10) (.v 5)))) (.mul (.neg (.v 5)) (.add (.v 7) (.mul (.v 10) (.v 4)))))) (.mul (.add (.v 1) (.mul (.v 9) (.v 4))) (.sub (.mul (.neg (.v 3)) (.add (.v 8) (.mul (.v 10) (.v 5)))) (.mul (.neg (.v 5)) (.add (.v 6) (.mul (.v 10) (.v 3))))))) (.mul (.add (.v 2) (.mul (.v 9) (.v 5))) (.sub (.mul (.neg (.v 3)) (.add (.v 7) (.mul (.v 10) (.v 4)))) (.mul (.neg (.v 4)) (.add (.v 6) (.mul (.v 10) (.v 3))))))) (.neg (.add (.sub (.mul (.v 0) (.sub (.mul (.v 4) (.v 8)) (.mul (.v 5) (.v 7)))) (.mul (.v 1) (.sub (.mul (.v 3) (.v 8)) (.mul (.v 5) (.v 6))))) (.mul (.v 2) (.sub (.mul (.v 3) (.v 7)) (.mul (.v 4) (.v 6)))))) (by decide +kernel))
theorem det_2 (a b c d e f g h i p q : K) : det3 (a + p * g) (b + p * h) (c + p * i) (d + q * g) (e + q * h) (f + q * i) (-g) (-h) (-i) = - det3 a b c d e f g h i :=
 (OR.ring [a, b, c, d, e, f, g, h, i, p, q] (.add (.sub (.mul (.add (.v 0) (.mul (.v 9) (.v 6))) (.sub (.mul (.add (.v 4) (.mul (.v 10) (.v 7))) (.neg (.v 8))) (.mul (.add (.v 5) (.mul (.v 10) (.v 8))) (.neg (.v 7))))) (.mul (.add (.v 1) (.mul (.v 9) (.v 7))) (.sub (.mul (.add (.v 3) (.mul (.v 10) (.v 6))) (.neg (.v 8))) (.mul (.add (.v 5) (.mul (.v 10) (.v 8))) (.neg (.v 6)))))) (.mul (.add (.v 2) (.mul (.v 9) (.v 8))) (.sub (.mul (.add (.v 3) (.mul (.v 10) (.v 6))) (.neg (.v 7))) (.mul (.add (.v 4) (.mul (.v 10) (.v 7))) (.neg (.v 6)))))) (.neg (.add (.sub (.mul (.v 0) (.sub (.mul (.v 4) (.v 8)) (.mul (.v 5) (.v 7)))) (.mul (.v 1) (.sub (.mul (.v 3) (.v 8)) (.mul (.v 5) (.v 6))))) (.mul (.v 2) (.sub (.mul (.v 3) (.v 7)) (.mul (.v 4) (.v 6)))))) (by decide +kernel))
theorem det_act (X : Mat K) (s : Fin 3) : det (act W X s) = - det X := by
 unfold det
 match s with
 | 0 => rw [act_self, act_self, act_self]; exact det_0 _ _ _ _ _ _ _ _ _ _ _
 | 1 => rw [act_self, act_self, act_self]; exact det_1 _ _ _ _ _ _ _ _ _ _ _
 | 2 => rw [act_self, act_self, act_self]; exact det_2 _ _ _ _ _ _ _ _ _ _ _
def sgn (n : Nat) : K := if n % 2 = 0 then 1 else -1
theorem sgn_succ (n : Nat) : (sgn (n + 1) : K) = - sgn n := by
 unfold sgn; split <;> split <;> first | (exfalso; omega) | exact (OR.neg_neg _).symm | rfl
theorem det_run (X : Mat K) (w : List (Fin 3)) : det (run W X w) = det X * sgn w.length := by
 induction w generalizing X with
 | nil => exact (OR.mul_one _).symm
 | cons s w ih => rw [run_cons, ih, det_act, List.length_cons, sgn_succ, OR.neg_mul, OR.mul_neg]
theorem det_pi (w : List (Fin 3)) : det (pi W w) = sgn w.length := by
 rw [pi, det_run, det_one, OR.one_mul]
theorem parity {u v : List (Fin 3)} (h : pi W u = pi W v) : u.length % 2 = v.length % 2 := by
 have hu := det_pi W u
 have hv := det_pi W v
 rw [h, hv] at hu
 unfold sgn at hu
 by_cases a : u.length % 2 = 0 <;> by_cases b : v.length % 2 = 0
 · omega
 · rw [if_pos a, if_neg b] at hu; exact (OR.one_ne_neg hu.symm).elim
 · rw [if_neg a, if_pos b] at hu; exact (OR.one_ne_neg hu).elim
 · omega
theorem column (w : List (Fin 3)) (s : Fin 3) : ∃ i, pi W w s i ≠ 0 := by
 refine Classical.byContradiction fun hn => ?_
 have hz : ∀ i, pi W w s i = 0 := fun i => Classical.byContradiction fun h => hn ⟨i, h⟩
 have hd := det_pi W w
 have h0 : det (pi W w) = 0 := by
  have z0 := hz 0
  have z1 := hz 1
  have z2 := hz 2
  unfold det
  generalize pi W w = X at *
  match s with
  | 0 =>
   rw [z0, z1, z2]
   exact (OR.ring [X 1 0, X 1 1, X 1 2, X 2 0, X 2 1, X 2 2] (.add (.sub (.mul .z (.sub (.mul (.v 1) (.v 5)) (.mul (.v 2) (.v 4)))) (.mul .z (.sub (.mul (.v 0) (.v 5)) (.mul (.v 2) (.v 3))))) (.mul .z (.sub (.mul (.v 0) (.v 4)) (.mul (.v 1) (.v 3))))) .z (by decide +kernel))
  | 1 =>
   rw [z0, z1, z2]
   exact (OR.ring [X 0 0, X 0 1, X 0 2, X 2 0, X 2 1, X 2 2] (.add (.sub (.mul (.v 0) (.sub (.mul .z (.v 5)) (.mul .z (.v 4)))) (.mul (.v 1) (.sub (.mul .z (.v 5)) (.mul .z (.v 3))))) (.mul (.v 2) (.sub (.mul .z (.v 4)) (.mul .z (.v 3))))) .z (by decide +kernel))
  | 2 =>
   rw [z0, z1, z2]
   exact (OR.ring [X 0 0, X 0 1, X 0 2, X 1 0, X 1 1, X 1 2] (.add (.sub (.mul (.v 0) (.sub (.mul (.v 4) .z) (.mul (.v 5) .z))) (.mul (.v 1) (.sub (.mul (.v 3) .z) (.mul (.v 5) .z)))) (.mul (.v 2) (.sub (.mul (.v 3) .z) (.mul (.v 4) .z)))) .z (by decide +kernel))
 rw [h0] at hd
 unfold sgn at hd
 split at hd
 · exact OR.one_ne hd.symm
 · refine OR.one_ne (K := K) ?_
   rw [← OR.neg_neg (1 : K), ← hd, OR.neg_zero]
theorem row_cols (X : Mat K) {s t : Fin 3} (h : s ≠ t) (k : Nat) (i : Fin 3) :
 run W X (alt s t (k + 1)) (nx s t (k + 1)) i = us (W.c s t) (k + 2) * X s i + us (W.c s t) (k + 1) * X t i ∧
 run W X (alt s t (k + 1)) (nx s t k) i = - (us (W.c s t) (k + 1) * X s i + us (W.c s t) k * X t i) := by
 have hs := W.csym s t
 induction k with
 | zero =>
  have e : alt s t (0 + 1) = [s] := rfl
  have e1 : nx s t (0 + 1) = t := rfl
  rw [e, e1]
  constructor
  · exact (OR.ring [W.c s t, X s i, X t i] (.add (.v 2) (.mul (.v 0) (.v 1))) (.add (.mul (.sub (.mul (.v 0) .o) .z) (.v 1)) (.mul .o (.v 2))) (by decide +kernel))
  · show act W X s s i = _
    rw [act_self]
    exact (OR.ring [X s i, X t i] (.neg (.v 0)) (.neg (.add (.mul .o (.v 0)) (.mul .z (.v 1)))) (by decide +kernel))
 | succ k ih =>
  obtain ⟨h1, h2⟩ := ih
  rw [alt_snoc, run_snoc]
  have hne : nx s t (k + 1) ≠ nx s t k := by rw [nx_succ]; exact nx_ne (Ne.symm h) k
  have hc : W.c (nx s t (k + 1)) (nx s t k) = W.c s t := by
   unfold nx; split <;> split <;> first | rfl | exact hs.symm | (exfalso; omega)
  constructor
  · rw [nx_two]
    show run W X (alt s t (k + 1)) (nx s t k) i + W.c (nx s t (k + 1)) (nx s t k) * run W X (alt s t (k + 1)) (nx s t (k + 1)) i = _
    rw [hc, h1, h2]
    have e : us (W.c s t) (k + 1 + 1) * X t i = (W.c s t * us (W.c s t) (k + 1) - us (W.c s t) k) * X t i := rfl
    rw [e]
    exact (OR.ring [W.c s t, X s i, X t i, us (W.c s t) (k + 2), us (W.c s t) (k + 1), us (W.c s t) k] (.add (.neg (.add (.mul (.v 4) (.v 1)) (.mul (.v 5) (.v 2)))) (.mul (.v 0) (.add (.mul (.v 3) (.v 1)) (.mul (.v 4) (.v 2))))) (.add (.mul (.sub (.mul (.v 0) (.v 3)) (.v 4)) (.v 1)) (.mul (.sub (.mul (.v 0) (.v 4)) (.v 5)) (.v 2))) (by decide +kernel))
  · show act W (run W X (alt s t (k + 1))) (nx s t (k + 1)) (nx s t (k + 1)) i = _
    rw [act_self, h1]
theorem row_fix (X : Mat K) (s t r : Fin 3) (D p q : K)
 (hp : D * W.c s r + q * W.c s t = p + p) (hq : D * W.c t r + p * W.c s t = q + q) (k : Nat) (i : Fin 3) :
 D * run W X (alt s t k) r i + p * run W X (alt s t k) s i + q * run W X (alt s t k) t i = D * X r i + p * X s i + q * X t i := by
 have hs := W.csym s t
 induction k with
 | zero => rfl
 | succ k ih =>
  rw [alt_snoc, run_snoc, ← ih]
  generalize run W X (alt s t k) = Y
  unfold nx
  split
  · rw [act_self]
    have e : D * act W Y s r i + p * -Y s i + q * act W Y s t i = D * Y r i + (D * W.c s r + q * W.c s t) * Y s i + p * -Y s i + q * Y t i :=
     (OR.ring [D, p, q, W.c s r, W.c s t, Y r i, Y s i, Y t i] (.add (.add (.mul (.v 0) (.add (.v 5) (.mul (.v 3) (.v 6)))) (.mul (.v 1) (.neg (.v 6)))) (.mul (.v 2) (.add (.v 7) (.mul (.v 4) (.v 6))))) (.add (.add (.add (.mul (.v 0) (.v 5)) (.mul (.add (.mul (.v 0) (.v 3)) (.mul (.v 2) (.v 4))) (.v 6))) (.mul (.v 1) (.neg (.v 6)))) (.mul (.v 2) (.v 7))) (by decide +kernel))
    rw [e, hp]
    exact (OR.ring [D, p, q, Y r i, Y s i, Y t i] (.add (.add (.add (.mul (.v 0) (.v 3)) (.mul (.add (.v 1) (.v 1)) (.v 4))) (.mul (.v 1) (.neg (.v 4)))) (.mul (.v 2) (.v 5))) (.add (.add (.mul (.v 0) (.v 3)) (.mul (.v 1) (.v 4))) (.mul (.v 2) (.v 5))) (by decide +kernel))
  · rw [act_self]
    have e : D * act W Y t r i + p * act W Y t s i + q * -Y t i = D * Y r i + p * Y s i + (D * W.c t r + p * W.c t s) * Y t i + q * -Y t i :=
     (OR.ring [D, p, q, W.c t r, W.c t s, Y r i, Y s i, Y t i] (.add (.add (.mul (.v 0) (.add (.v 5) (.mul (.v 3) (.v 7)))) (.mul (.v 1) (.add (.v 6) (.mul (.v 4) (.v 7))))) (.mul (.v 2) (.neg (.v 7)))) (.add (.add (.add (.mul (.v 0) (.v 5)) (.mul (.v 1) (.v 6))) (.mul (.add (.mul (.v 0) (.v 3)) (.mul (.v 1) (.v 4))) (.v 7))) (.mul (.v 2) (.neg (.v 7)))) (by decide +kernel))
    rw [e, ← hs, hq]
    exact (OR.ring [D, p, q, Y r i, Y s i, Y t i] (.add (.add (.add (.mul (.v 0) (.v 3)) (.mul (.v 1) (.v 4))) (.mul (.add (.v 2) (.v 2)) (.v 5))) (.mul (.v 2) (.neg (.v 5)))) (.add (.add (.mul (.v 0) (.v 3)) (.mul (.v 1) (.v 4))) (.mul (.v 2) (.v 5))) (by decide +kernel))
theorem braid (X : Mat K) {s t : Fin 3} (h : s ≠ t) (hm : W.m s t ≠ 0) : run W X (alt s t (W.m s t)) = run W X (alt t s (W.m s t)) := by
 have ha := W.angle s t h
 obtain ⟨n, hn⟩ : ∃ n, W.m s t = n + 2 := ⟨W.m s t - 2, by have := ha.two; omega⟩
 have hz := ha.zero hm
 have hs := W.csym s t
 rw [hn] at ha hz ⊢
 have hl := ha.last
 have z := hz.1
 have l1 : us (W.c s t) (n + 1 + 2) = -1 := by
  show W.c s t * us (W.c s t) (n + 2) - us (W.c s t) (n + 1) = -1
  rw [hl, z]
  exact (OR.ring [W.c s t] (.sub (.mul (.v 0) .z) .o) (.neg .o) (by decide +kernel))
 have key : ∀ i, (∀ j, j = s ∨ j = t → run W X (alt s t (n + 2)) j i = run W X (alt t s (n + 2)) j i) := by
  intro i
  obtain ⟨a1, a2⟩ := row_cols W X h (n + 1) i
  obtain ⟨b1, b2⟩ := row_cols W X (Ne.symm h) (n + 1) i
  rw [← hs] at b1 b2
  have e1 : n + 1 + 1 = n + 2 := rfl
  rw [e1] at a1 a2 b1 b2
  rw [l1, z] at a1 b1
  rw [hl, z] at a2 b2
  have x1 : nx s t (n + 2) = nx t s (n + 1) := nx_succ s t (n + 1)
  have x2 : nx t s (n + 2) = nx s t (n + 1) := nx_succ t s (n + 1)
  rw [x1] at a1
  rw [x2] at b1
  have r1 : ∀ x y : K, -1 * x + 0 * y = -x := fun x y => (OR.ring [x, y] (.add (.mul (.neg .o) (.v 0)) (.mul .z (.v 1))) (.neg (.v 0)) (by decide +kernel))
  have r2 : ∀ x y : K, -(0 * x + 1 * y) = -y := fun x y => (OR.ring [x, y] (.neg (.add (.mul .z (.v 0)) (.mul .o (.v 1)))) (.neg (.v 1)) (by decide +kernel))
  rw [r1] at a1 b1
  rw [r2] at a2 b2
  intro j hj
  have hc : (nx s t (n + 1) = s ∧ nx t s (n + 1) = t) ∨ (nx s t (n + 1) = t ∧ nx t s (n + 1) = s) := by
   unfold nx; split
   · exact .inl ⟨rfl, rfl⟩
   · exact .inr ⟨rfl, rfl⟩
  rcases hc with ⟨g1, g2⟩ | ⟨g1, g2⟩ <;> rw [g1] at a2 b1 <;> rw [g2] at a1 b2 <;> rcases hj with rfl | rfl <;> first | exact a1.trans b2.symm | exact a2.trans b1.symm
 funext j i
 rcases third_cases s t h j with e | e | e
 · exact key i j (.inl e)
 · exact key i j (.inr e)
 · subst e
   have ks := key i s (.inl rfl)
   have kt := key i t (.inr rfl)
   obtain ⟨c, hc⟩ : ∃ c, c = W.c s t := ⟨_, rfl⟩
   obtain ⟨r, hr⟩ : ∃ r, r = third s t := ⟨_, rfl⟩
   rw [← hr]
   have f1 := row_fix W X s t r ((1 + 1 - c) * (1 + 1 + c)) ((1 + 1) * W.c s r + c * W.c t r) ((1 + 1) * W.c t r + c * W.c s r)
    (by rw [← hc]; exact (OR.ring [c, W.c s r, W.c t r] (.add (.mul (.mul (.sub (.add .o .o) (.v 0)) (.add (.add .o .o) (.v 0))) (.v 1)) (.mul (.add (.mul (.add .o .o) (.v 2)) (.mul (.v 0) (.v 1))) (.v 0))) (.add (.add (.mul (.add .o .o) (.v 1)) (.mul (.v 0) (.v 2))) (.add (.mul (.add .o .o) (.v 1)) (.mul (.v 0) (.v 2)))) (by decide +kernel)))
    (by rw [← hc]; exact (OR.ring [c, W.c s r, W.c t r] (.add (.mul (.mul (.sub (.add .o .o) (.v 0)) (.add (.add .o .o) (.v 0))) (.v 2)) (.mul (.add (.mul (.add .o .o) (.v 1)) (.mul (.v 0) (.v 2))) (.v 0))) (.add (.add (.mul (.add .o .o) (.v 2)) (.mul (.v 0) (.v 1))) (.add (.mul (.add .o .o) (.v 2)) (.mul (.v 0) (.v 1)))) (by decide +kernel))) (n + 2) i
   have f2 := row_fix W X t s r ((1 + 1 - c) * (1 + 1 + c)) ((1 + 1) * W.c t r + c * W.c s r) ((1 + 1) * W.c s r + c * W.c t r)
    (by rw [← hs, ← hc]; exact (OR.ring [c, W.c s r, W.c t r] (.add (.mul (.mul (.sub (.add .o .o) (.v 0)) (.add (.add .o .o) (.v 0))) (.v 2)) (.mul (.add (.mul (.add .o .o) (.v 1)) (.mul (.v 0) (.v 2))) (.v 0))) (.add (.add (.mul (.add .o .o) (.v 2)) (.mul (.v 0) (.v 1))) (.add (.mul (.add .o .o) (.v 2)) (.mul (.v 0) (.v 1)))) (by decide +kernel)))
    (by rw [← hs, ← hc]; exact (OR.ring [c, W.c s r, W.c t r] (.add (.mul (.mul (.sub (.add .o .o) (.v 0)) (.add (.add .o .o) (.v 0))) (.v 1)) (.mul (.add (.mul (.add .o .o) (.v 2)) (.mul (.v 0) (.v 1))) (.v 0))) (.add (.add (.mul (.add .o .o) (.v 1)) (.mul (.v 0) (.v 2))) (.add (.mul (.add .o .o) (.v 1)) (.mul (.v 0) (.v 2)))) (by decide +kernel))) (n + 2) i
   rw [ks, kt] at f1
   generalize (1 + 1) * W.c s r + c * W.c t r = p at f1 f2
   generalize (1 + 1) * W.c t r + c * W.c s r = q at f1 f2
   generalize run W X (alt s t (n + 2)) r i = R1 at f1 ⊢
   generalize run W X (alt t s (n + 2)) r i = R2 at f1 f2 ⊢
   generalize run W X (alt t s (n + 2)) s i = S at f1 f2
   generalize run W X (alt t s (n + 2)) t i = T at f1 f2
   have h0 : (1 + 1 - c) * (1 + 1 + c) * (R1 - R2) = 0 := by
    have e : (1 + 1 - c) * (1 + 1 + c) * (R1 - R2) = ((1 + 1 - c) * (1 + 1 + c) * R1 + p * S + q * T) - ((1 + 1 - c) * (1 + 1 + c) * R2 + q * T + p * S) :=
     (OR.ring [c, R1, R2, p, q, S, T] (.mul (.mul (.sub (.add .o .o) (.v 0)) (.add (.add .o .o) (.v 0))) (.sub (.v 1) (.v 2))) (.sub (.add (.add (.mul (.mul (.sub (.add .o .o) (.v 0)) (.add (.add .o .o) (.v 0))) (.v 1)) (.mul (.v 3) (.v 5))) (.mul (.v 4) (.v 6))) (.add (.add (.mul (.mul (.sub (.add .o .o) (.v 0)) (.add (.add .o .o) (.v 0))) (.v 2)) (.mul (.v 4) (.v 6))) (.mul (.v 3) (.v 5)))) (by decide +kernel))
    rw [e, f1, f2]
    exact (OR.ring [(1 + 1 - c) * (1 + 1 + c), p, q, X r i, X s i, X t i] (.sub (.add (.add (.mul (.v 0) (.v 3)) (.mul (.v 1) (.v 4))) (.mul (.v 2) (.v 5))) (.add (.add (.mul (.v 0) (.v 3)) (.mul (.v 2) (.v 5))) (.mul (.v 1) (.v 4)))) .z (by decide +kernel))
   rcases OR.mul_eq_zero h0 with h1 | h1
   · exfalso
     rcases OR.mul_eq_zero h1 with h2 | h2
     · have := OR.pos_sub.1 hz.2.1
       rw [← hc, h2] at this
       exact OR.lt_irrefl _ this
     · have hh := hz.2.2
       rw [← hc] at hh
       have : 0 < 1 + 1 + c := by
        have p2 : (0 : K) < 1 + 1 := OR.add_pos OR.one_pos OR.one_pos
        rcases (OR.le_iff _ _).1 hh with h | h
        · exact OR.add_pos p2 h
        · rw [← h, OR.add_zero]; exact p2
       rw [h2] at this
       exact OR.lt_irrefl _ this
   · exact OR.eq_of_sub h1
end field
end
section
variable {K : Type} [OR K]
variable (W : Tri K)
theorem least_of {p : Nat → Prop} (h : ∃ n, p n) : ∃ n, p n ∧ ∀ k, p k → n ≤ k := by
 obtain ⟨n, hn⟩ := h
 induction n using Nat.strongRecOn with
 | ind n ih =>
  by_cases hk : ∃ k, k < n ∧ p k
  · obtain ⟨k, hlt, hp⟩ := hk
    exact ih k hlt hp
  · exact ⟨n, hn, fun k hp => Nat.le_of_not_lt fun hlt => hk ⟨k, hlt, hp⟩⟩
noncomputable def len (w : List (Fin 3)) : Nat :=
 Classical.choose (least_of (p := fun n => ∃ v : List (Fin 3), v.length = n ∧ pi W v = pi W w) ⟨w.length, w, rfl, rfl⟩)
theorem len_spec (w : List (Fin 3)) : (∃ v : List (Fin 3), v.length = len W w ∧ pi W v = pi W w) ∧ ∀ v : List (Fin 3), pi W v = pi W w → len W w ≤ v.length := by
 have h := Classical.choose_spec (least_of (p := fun n => ∃ v : List (Fin 3), v.length = n ∧ pi W v = pi W w) ⟨w.length, w, rfl, rfl⟩)
 exact ⟨h.1, fun v hv => h.2 v.length ⟨v, rfl, hv⟩⟩
theorem len_le (w : List (Fin 3)) : len W w ≤ w.length := (len_spec W w).2 w rfl
theorem len_congr {u v : List (Fin 3)} (h : pi W u = pi W v) : len W u = len W v := by
 obtain ⟨⟨u', hu, eu⟩, lu⟩ := len_spec W u
 obtain ⟨⟨v', hv, ev⟩, lv⟩ := len_spec W v
 have a := lu v' (by rw [ev, h])
 have b := lv u' (by rw [eu, h])
 omega
theorem len_parity (w : List (Fin 3)) : len W w % 2 = w.length % 2 := by
 obtain ⟨⟨u', hu, eu⟩, lu⟩ := len_spec W w
 rw [← hu]; exact parity W eu
theorem len_nil : len W [] = 0 := by have := len_le W []; simpa using this
theorem len_zero {w : List (Fin 3)} (h : len W w = 0) : pi W w = one := by
 obtain ⟨⟨u', hu, eu⟩, lu⟩ := len_spec W w
 rw [h] at hu
 rw [← eu, List.eq_nil_of_length_eq_zero hu]; rfl
theorem pi_back (w : List (Fin 3)) (s : Fin 3) : pi W (w ++ [s] ++ [s]) = pi W w := by
 rw [pi_snoc, pi_snoc, act_act]
theorem len_snoc_le (w : List (Fin 3)) (s : Fin 3) : len W (w ++ [s]) ≤ len W w + 1 := by
 obtain ⟨⟨u, hu, eu⟩, _⟩ := len_spec W w
 have := (len_spec W (w ++ [s])).2 (u ++ [s]) (by rw [pi_snoc, pi_snoc, eu])
 simpa [hu] using this
theorem len_snoc (w : List (Fin 3)) (s : Fin 3) : len W (w ++ [s]) = len W w + 1 ∨ len W (w ++ [s]) + 1 = len W w := by
 have a := len_snoc_le W w s
 have b := len_snoc_le W (w ++ [s]) s
 rw [len_congr W (pi_back W w s)] at b
 have c := len_parity W (w ++ [s])
 have d := len_parity W w
 simp at c
 omega
theorem len_append_le (w v : List (Fin 3)) : len W (w ++ v) ≤ len W w + v.length := by
 obtain ⟨⟨u, hu, eu⟩, _⟩ := len_spec W w
 have := (len_spec W (w ++ v)).2 (u ++ v) (pi_right W eu v)
 simpa [hu] using this
def Down (w : List (Fin 3)) (s : Fin 3) : Prop := len W (w ++ [s]) + 1 = len W w
theorem not_down {w : List (Fin 3)} {s : Fin 3} (h : ¬ Down W w s) : len W (w ++ [s]) = len W w + 1 := by
 rcases len_snoc W w s with a | a
 · exact a
 · exact (h a).elim
theorem down_congr {u v : List (Fin 3)} (h : pi W u = pi W v) (s : Fin 3) : Down W u s ↔ Down W v s := by
 unfold Down; rw [len_congr W h, len_congr W (pi_right W h [s])]
theorem down_snoc (w : List (Fin 3)) (s : Fin 3) : Down W (w ++ [s]) s ↔ ¬ Down W w s := by
 have := len_snoc W w s
 unfold Down
 rw [len_congr W (pi_back W w s)]
 omega
theorem pi_alt_back (w : List (Fin 3)) (a b : Fin 3) (k : Nat) : pi W (w ++ alt a b (k + 1) ++ [nx a b k]) = pi W (w ++ alt a b k) := by
 rw [alt_snoc, ← List.append_assoc]; exact pi_back W _ _
theorem descent (n : Nat) : ∀ (w : List (Fin 3)) (s t : Fin 3), len W w = n → s ≠ t →
 ∃ (v : List (Fin 3)) (a b : Fin 3) (k : Nat), pi W w = pi W (v ++ alt a b k) ∧ len W w = len W v + k ∧ ((a = s ∧ b = t) ∨ (a = t ∧ b = s)) ∧
  nx a b k = s ∧ ¬ Down W v b ∧ (0 < k → ¬ Down W v a) ∧ (Down W w t → 0 < k) := by
 induction n using Nat.strongRecOn with
 | ind n ih =>
  intro w s t hn hst
  by_cases hd : Down W w t
  · have hd' : len W (w ++ [t]) + 1 = len W w := hd
    obtain ⟨v, a, b, k, h1, h2, h3, h4, h5, h6, h7⟩ := ih (len W (w ++ [t])) (by omega) (w ++ [t]) t s rfl (Ne.symm hst)
    have h4' : nx a b k = t := h4
    refine ⟨v, a, b, k + 1, ?_, by omega, ?_, ?_, h5, ?_, fun _ => by omega⟩
    · rw [alt_snoc, ← List.append_assoc, pi_snoc, ← h1, h4', ← pi_snoc, pi_back]
    · rcases h3 with h | h
      · exact .inr h
      · exact .inl h
    · rw [nx_succ]
      rcases h3 with ⟨rfl, rfl⟩ | ⟨rfl, rfl⟩
      · have := nx_ne hst.symm k
        unfold nx at *
        split at h4'
        · rename_i h; rw [if_pos h]
        · exact (hst h4').elim
      · unfold nx at *
        split at h4'
        · exact (hst h4').elim
        · rename_i h; rw [if_neg h]
    · intro _
      rcases Nat.eq_zero_or_pos k with e | e
      · subst e
        have e2 : pi W (w ++ [t]) = pi W v := by simpa [alt] using h1
        have ha : a = t := h4'
        rw [ha, ← down_congr W e2, down_snoc]
        exact fun h => h hd
      · exact h6 e
  · refine ⟨w, s, t, 0, by simp [alt], rfl, .inl ⟨rfl, rfl⟩, rfl, hd, fun h => absurd h (by omega), fun h => (hd h).elim⟩
theorem root_pos (n : Nat) : ∀ (w : List (Fin 3)) (s : Fin 3), len W w = n → ¬ Down W w s → ∀ i, 0 ≤ pi W w s i := by
 induction n using Nat.strongRecOn with
 | ind n ih =>
  intro w s hn hs i
  rcases Nat.eq_zero_or_pos n with e | hpos
  · rw [len_zero W (hn.trans e)]
    unfold one; split
    · exact OR.le_of_lt OR.one_pos
    · exact OR.le_refl _
  · -- a side that leads down
    obtain ⟨⟨u, hu, eu⟩, _⟩ := len_spec W w
    have hune : u ≠ [] := by intro h; subst h; simp at hu; omega
    obtain ⟨u', t, rfl⟩ : ∃ u' t, u = u' ++ [t] := ⟨u.dropLast, u.getLast hune, (List.dropLast_concat_getLast hune).symm⟩
    have ht : Down W w t := by
     rw [← down_congr W eu]
     unfold Down
     rw [len_congr W (pi_back W u' t), len_congr W eu]
     have a := len_le W u'
     have b := len_snoc_le W u' t
     rw [len_congr W eu] at b
     simp at hu
     omega
    have hst : s ≠ t := by intro e; subst e; exact hs ht
    obtain ⟨v, a, b, k, h1, h2, h3, h4, h5, h6, h7⟩ := descent W n w s t hn hst
    have hk := h7 ht
    have hab : a ≠ b := by
     rcases h3 with ⟨h, h'⟩ | ⟨h, h'⟩
     · rw [h, h']; exact hst
     · rw [h, h']; exact hst.symm
    have A := fun i => ih (len W v) (by omega) v a rfl (h6 hk) i
    have B := fun i => ih (len W v) (by omega) v b rfl h5 i
    obtain ⟨k, rfl⟩ : ∃ j, k = j + 1 := ⟨k - 1, by omega⟩
    have hr := (row_cols W (pi W v) hab k i).1
    rw [h4] at hr
    have e : run W (pi W v) (alt a b (k + 1)) = pi W w := by rw [h1, pi, pi, run_append]
    rw [e] at hr
    rw [hr]
    have ang := W.angle a b hab
    by_cases hm : W.m a b = 0 ∨ k + 1 < W.m a b
    · have p2 := ang.pos (k + 1) (by omega) hm
      have p1 : 0 ≤ us (W.c a b) (k + 2) := by
       rcases hm with hm | hm
       · exact OR.le_of_lt (ang.pos (k + 2) (by omega) (.inl hm))
       · by_cases he : k + 2 = W.m a b
         · have hm0 : W.m a b ≠ 0 := by omega
           have := (ang.zero hm0).1
           rw [← he] at this
           rw [this]; exact OR.le_refl _
         · exact OR.le_of_lt (ang.pos (k + 2) (by omega) (.inr (by omega)))
      exact OR.add_nn (OR.mul_nn p1 (A i)) (OR.mul_nn (OR.le_of_lt p2) (B i))
    · -- too long: it could be made shorter
      exfalso
      have hm0 : W.m a b ≠ 0 := fun h => hm (.inl h)
      have hle : W.m a b ≤ k + 1 := by
       rcases Nat.lt_or_ge (k + 1) (W.m a b) with h | h
       · exact (hm (.inr h)).elim
       · exact h
      obtain ⟨j, hj⟩ : ∃ j, k + 1 = W.m a b + j := ⟨k + 1 - W.m a b, by omega⟩
      obtain ⟨q, hq⟩ : ∃ q, W.m a b = q + 1 := ⟨W.m a b - 1, by omega⟩
      have hb := braid W (pi W v) hab hm0
      have hbw : pi W (v ++ alt a b (W.m a b)) = pi W (v ++ alt b a (W.m a b)) := by
       rw [pi, pi, run_append, run_append]; exact hb
      have hx : nx a b (W.m a b) = nx b a q := by rw [hq, nx_succ]
      have hshort : pi W (v ++ alt a b (W.m a b) ++ [nx a b (W.m a b)]) = pi W (v ++ alt b a q) := by
       rw [pi_snoc, hbw, ← pi_snoc, hx]
       have := pi_alt_back W v b a q
       rw [hq]; exact this
      have hws : pi W (w ++ [s]) = pi W (v ++ alt a b (k + 2)) := by
       rw [pi_snoc, h1, ← pi_snoc, alt_snoc a b (k + 1), h4, List.append_assoc]
      have hsplit : pi W (v ++ alt a b (k + 2)) = pi W (v ++ alt b a q ++ alt (nx a b (W.m a b + 1)) (nx b a (W.m a b + 1)) j) := by
       have e : k + 2 = W.m a b + 1 + j := by omega
       rw [e, alt_add a b (W.m a b + 1) j, ← List.append_assoc, alt_snoc a b (W.m a b), ← List.append_assoc]
       exact pi_right W hshort _
      have hl := (len_spec W (w ++ [s])).2 _ (hws.trans hsplit).symm
      have l1 := len_append_le W v (alt b a q ++ alt (nx a b (W.m a b + 1)) (nx b a (W.m a b + 1)) j)
      rw [← List.append_assoc, ← len_congr W (hws.trans hsplit)] at l1
      simp [alt_length] at l1
      have := not_down W hs
      omega
theorem root_neg {w : List (Fin 3)} {s : Fin 3} (h : Down W w s) (i : Fin 3) : pi W w s i ≤ 0 := by
 have hn : ¬ Down W (w ++ [s]) s := by rw [down_snoc]; exact fun g => g h
 have := root_pos W _ (w ++ [s]) s rfl hn i
 rw [pi_snoc, act_self] at this
 exact OR.neg_nn.1 this
end
section
variable {K : Type} [OR K]
variable (W : Tri K)
def lex : List (Fin 3) → List (Fin 3) → Bool
 | _, [] => false
 | [], _ :: _ => true
 | a :: l, b :: r => decide (a < b) || (decide (a = b) && lex l r)
theorem lex_cons (a b : Fin 3) (l r : List (Fin 3)) : lex (a :: l) (b :: r) = true ↔ a < b ∨ (a = b ∧ lex l r = true) := by
 simp [lex]
theorem lex_irrefl (l : List (Fin 3)) : lex l l = false := by
 induction l with
 | nil => rfl
 | cons a l ih => simp [lex, ih]
theorem lex_trans {a b d : List (Fin 3)} (h : lex a b = true) (g : lex b d = true) : lex a d = true := by
 induction a generalizing b d with
 | nil =>
  cases b with
  | nil => simp [lex] at h
  | cons x b => cases d with
   | nil => simp [lex] at g
   | cons y d => rfl
 | cons x a ih =>
  cases b with
  | nil => simp [lex] at h
  | cons y b => cases d with
   | nil => simp [lex] at g
   | cons z d =>
    rw [lex_cons] at h g ⊢
    rcases h with h | ⟨rfl, h⟩ <;> rcases g with g | ⟨rfl, g⟩
    · exact .inl (Fin.lt_trans h g)
    · exact .inl h
    · exact .inl g
    · exact .inr ⟨rfl, ih h g⟩
theorem lex_total {a b : List (Fin 3)} (h : a ≠ b) (h1 : lex a b = false) : lex b a = true := by
 induction a generalizing b with
 | nil => cases b with
  | nil => exact (h rfl).elim
  | cons y b => simp [lex] at h1
 | cons x a ih => cases b with
  | nil => rfl
  | cons y b =>
   rw [lex_cons]
   simp only [lex, Bool.or_eq_false_iff, decide_eq_false_iff_not, Bool.and_eq_false_iff] at h1
   obtain ⟨h2, h3⟩ := h1
   by_cases e : x = y
   · subst e
     refine .inr ⟨rfl, ih (fun g => h (by rw [g])) ?_⟩
     rcases h3 with h3 | h3
     · exact (h3 rfl).elim
     · exact h3
   · left
     have : x.val ≠ y.val := fun g => e (Fin.ext g)
     have : ¬ x.val < y.val := h2
     show y.val < x.val
     omega
theorem lex_asymm {a b : List (Fin 3)} (h : lex a b = true) : lex b a = false := by
 cases g : lex b a with
 | false => rfl
 | true => have := lex_trans h g; rw [lex_irrefl] at this; exact this.symm
theorem lex_append_left (u v w : List (Fin 3)) : lex (u ++ v) (u ++ w) = lex v w := by
 induction u with
 | nil => rfl
 | cons a u ih =>
  show lex (a :: (u ++ v)) (a :: (u ++ w)) = _
  have : ¬ a < a := Fin.lt_irrefl a
  simp [lex, ih]
theorem lex_append_right {u v : List (Fin 3)} (hl : u.length = v.length) (x y : List (Fin 3)) (h : lex u v = true) : lex (u ++ x) (v ++ y) = true := by
 induction u generalizing v with
 | nil => cases v with
  | nil => simp [lex] at h
  | cons b v => simp at hl
 | cons a u ih => cases v with
  | nil => simp at hl
  | cons b v =>
   rw [lex_cons] at h
   show lex (a :: (u ++ x)) (b :: (v ++ y)) = true
   rw [lex_cons]
   rcases h with h | ⟨h, h2⟩
   · exact .inl h
   · exact .inr ⟨h, ih (by simpa using hl) h2⟩
theorem least_word (n : Nat) : ∀ (p : List (Fin 3) → Prop), (∃ v, v.length = n ∧ p v) →
 ∃ v, v.length = n ∧ p v ∧ ∀ v', v'.length = n → p v' → lex v' v = false := by
 induction n with
 | zero =>
  intro p ⟨v, hv, hp⟩
  refine ⟨v, hv, hp, fun v' hv' _ => ?_⟩
  rw [List.eq_nil_of_length_eq_zero hv]
  cases v' <;> rfl
 | succ n ih =>
  intro p ⟨v, hv, hp⟩
  have h := least_of (p := fun k => ∃ (a : Fin 3) (l : List (Fin 3)), a.val = k ∧ l.length = n ∧ p (a :: l))
   (by cases v with
       | nil => simp at hv
       | cons a l => exact ⟨a.val, a, l, rfl, by simpa using hv, hp⟩)
  obtain ⟨k, ⟨a, l, rfl, hl, hpa⟩, hmin⟩ := h
  obtain ⟨l', h1, h2, h3⟩ := ih (fun l => p (a :: l)) ⟨l, hl, hpa⟩
  refine ⟨a :: l', by simp [h1], h2, fun v' hv' hp' => ?_⟩
  cases v' with
  | nil => simp at hv'
  | cons b r =>
   have hb := hmin b.val ⟨b, r, rfl, by simpa using hv', hp'⟩
   cases e : lex (b :: r) (a :: l') with
   | false => rfl
   | true =>
    rw [lex_cons] at e
    rcases e with e | ⟨rfl, e⟩
    · have : b.val < a.val := e
      omega
    · rw [h3 r (by simpa using hv') hp'] at e; exact e.symm
noncomputable def nf (w : List (Fin 3)) : List (Fin 3) :=
 Classical.choose (least_word (len W w) (fun v => pi W v = pi W w) (len_spec W w).1)
theorem nf_spec (w : List (Fin 3)) : (nf W w).length = len W w ∧ pi W (nf W w) = pi W w ∧ ∀ v, v.length = len W w → pi W v = pi W w → lex v (nf W w) = false :=
 Classical.choose_spec (least_word (len W w) (fun v => pi W v = pi W w) (len_spec W w).1)
theorem nf_len (w : List (Fin 3)) : (nf W w).length = len W w := (nf_spec W w).1
theorem nf_pi (w : List (Fin 3)) : pi W (nf W w) = pi W w := (nf_spec W w).2.1
theorem nf_min {w v : List (Fin 3)} (hv : v.length = len W w) (h : pi W v = pi W w) : lex v (nf W w) = false := (nf_spec W w).2.2 v hv h
theorem nf_unique {w v : List (Fin 3)} (hv : v.length = len W w) (h : pi W v = pi W w)
 (hm : ∀ v', v'.length = len W w → pi W v' = pi W w → lex v' v = false) : nf W w = v := by
 refine Classical.byContradiction fun hne => ?_
 have a := nf_min W hv h
 have b := hm (nf W w) (nf_len W w) (nf_pi W w)
 have := lex_total hne b
 rw [a] at this; cases this
theorem nf_congr {u v : List (Fin 3)} (h : pi W u = pi W v) : nf W u = nf W v := by
 refine nf_unique W ((nf_len W v).trans (len_congr W h).symm) ((nf_pi W v).trans h.symm) fun v' h1 h2 => ?_
 exact nf_min W (h1.trans (len_congr W h)) (h2.trans h)
theorem nf_nf (w : List (Fin 3)) : nf W (nf W w) = nf W w := nf_congr W (nf_pi W w)
theorem nf_le (w : List (Fin 3)) : (nf W w).length ≤ w.length := by rw [nf_len]; exact len_le W w
theorem nf_nil : nf W [] = [] := List.eq_nil_of_length_eq_zero (by rw [nf_len, len_nil])
theorem nf_parity (w : List (Fin 3)) : (nf W w).length % 2 = w.length % 2 := by rw [nf_len, len_parity]
theorem nf_part {a b d : List (Fin 3)} (h : nf W (a ++ b ++ d) = a ++ b ++ d) : nf W b = b := by
 have hl : len W b = b.length := by
  have h1 := nf_len W (a ++ b ++ d)
  rw [h] at h1
  have h2 := (len_spec W (a ++ b ++ d)).2 (a ++ nf W b ++ d) (pi_middle W (nf_pi W b) a d)
  rw [← h1] at h2
  simp [nf_len] at h2
  have := len_le W b
  omega
 refine nf_unique W hl.symm rfl fun v' h1 h2 => ?_
 cases e : lex v' b with
 | false => rfl
 | true =>
  have hm := nf_min W (w := a ++ b ++ d) (v := a ++ v' ++ d) (by
   rw [← nf_len, h]; simp [h1, hl]) (pi_middle W h2 a d)
  rw [h, List.append_assoc, List.append_assoc, lex_append_left, lex_append_right (h1.trans hl) d d e] at hm
  exact hm
theorem nf_begin {a b : List (Fin 3)} (h : nf W (a ++ b) = a ++ b) : nf W a = a := nf_part W (a := []) (d := b) (by simpa using h)
noncomputable def cand (w : List (Fin 3)) (t : Fin 3) : List (Fin 3) := nf W (w ++ [t]) ++ [t]
theorem cand_pi (w : List (Fin 3)) (t : Fin 3) : pi W (cand W w t) = pi W w := by
 unfold cand
 rw [pi_snoc, nf_pi, ← pi_snoc, pi_back]
theorem cand_len {w : List (Fin 3)} {t : Fin 3} (h : Down W w t) : (cand W w t).length = len W w := by
 unfold cand; simp [nf_len]; exact h
theorem cand_min {w : List (Fin 3)} {t : Fin 3} (h : Down W w t) : lex (cand W w t) (nf W w) = false := nf_min W (cand_len W h) (cand_pi W w t)
theorem cand_one {w : List (Fin 3)} (h : len W w ≠ 0) : ∃ t, Down W w t ∧ nf W w = cand W w t := by
 have hne : nf W w ≠ [] := by intro e; have := nf_len W w; rw [e] at this; exact h (by simpa using this.symm)
 obtain ⟨x, t, hx⟩ : ∃ x t, nf W w = x ++ [t] := ⟨_, _, (List.dropLast_concat_getLast hne).symm⟩
 have hp : pi W x = pi W (w ++ [t]) := by
  rw [pi_snoc, ← nf_pi W w, hx, ← pi_snoc, pi_back]
 have hnx : nf W x = x := nf_begin W (b := [t]) (by rw [← hx]; exact nf_nf W w)
 refine ⟨t, ?_, ?_⟩
 · unfold Down
   rw [← len_congr W hp, ← nf_len, hnx, ← nf_len, hx]; simp
 · unfold cand; rw [← nf_congr W hp, hnx, hx]
def Falls : List (Fin 3) → Fin 3 → Fin 3 → Nat → Prop
 | _, _, _, 0 => True
 | w, i, j, n + 1 => Down W w i ∧ Falls (w ++ [i]) j i n
theorem falls_congr {u v : List (Fin 3)} (h : pi W u = pi W v) (i j : Fin 3) (n : Nat) : Falls W u i j n ↔ Falls W v i j n := by
 induction n generalizing u v i j with
 | zero => exact Iff.rfl
 | succ n ih => simp only [Falls]; rw [down_congr W h, ih (pi_right W h [i])]
theorem falls_len {w : List (Fin 3)} {i j : Fin 3} {n : Nat} (h : Falls W w i j n) : len W (w ++ alt i j n) + n = len W w := by
 induction n generalizing w i j with
 | zero => simp [alt]
 | succ n ih =>
  obtain ⟨h1, h2⟩ := h
  have := ih h2
  have e : w ++ [i] ++ alt j i n = w ++ alt i j (n + 1) := by simp [alt]
  rw [e] at this
  unfold Down at h1
  omega
theorem alt_reverse (i j : Fin 3) (n : Nat) : (alt i j (n + 1)).reverse = alt (nx i j n) (nx j i n) (n + 1) := by
 induction n generalizing i j with
 | zero => rfl
 | succ n ih =>
  have e : alt i j (n + 1 + 1) = i :: alt j i (n + 1) := rfl
  rw [e, List.reverse_cons, ih, nx_succ, nx_succ]
  rw [alt_snoc (nx j i n) (nx i j n) (n + 1)]
  congr 2
  unfold nx; split <;> split <;> first | rfl | (exfalso; omega)
theorem nx_comp (s t : Fin 3) (q : Nat) : nx (nx s t q) (nx t s q) q = s := by
 unfold nx; split <;> rfl
theorem m_nx (s t : Fin 3) (q : Nat) : W.m (nx t s q) (nx s t q) = W.m s t := by
 unfold nx; split
 · exact W.msym t s
 · rfl
theorem braid_pi (v : List (Fin 3)) {a b : Fin 3} (hab : a ≠ b) (hm : W.m a b ≠ 0) : pi W (v ++ alt a b (W.m a b)) = pi W (v ++ alt b a (W.m a b)) := by
 have := braid W (pi W v) hab hm
 rw [pi, pi, run_append, run_append]; exact this
theorem around {x : List (Fin 3)} {s t : Fin 3} {q : Nat} (hst : s ≠ t) (hq : W.m s t = q + 2) :
 pi W (x ++ [s]) = pi W (x ++ alt t s (q + 1) ++ alt (nx s t q) (nx t s q) (q + 2)) ∧ t = nx (nx s t q) (nx t s q) (q + 1) := by
 have hx : pi W x = pi W (x ++ alt t s (q + 1) ++ (alt t s (q + 1)).reverse) := by
  rw [pi, pi, run_append, run_append, run_turn]
 rw [alt_reverse] at hx
 have hab : nx t s q ≠ nx s t q := nx_ne hst.symm q
 have hs : nx (nx t s q) (nx s t q) (q + 1) = s := by rw [nx_succ, nx_comp]
 have hy : pi W (x ++ [s]) = pi W (x ++ alt t s (q + 1) ++ alt (nx t s q) (nx s t q) (q + 2)) := by
  rw [pi_snoc, hx, ← pi_snoc, alt_snoc (nx t s q) (nx s t q) (q + 1), List.append_assoc, hs]
 have hmab : W.m (nx t s q) (nx s t q) = q + 2 := by rw [m_nx, hq]
 have hb := braid_pi W (x ++ alt t s (q + 1)) hab (by rw [hmab]; omega)
 rw [hmab] at hb
 exact ⟨hy.trans hb, by rw [nx_succ, nx_comp]⟩
theorem down_other {x : List (Fin 3)} {s t : Fin 3} (hst : s ≠ t) (hs : ¬ Down W x s) :
 Down W (x ++ [s]) t ↔ W.m s t ≠ 0 ∧ Falls W x t s (W.m s t - 1) := by
 constructor
 · intro ht
   have hds : Down W (x ++ [s]) s := by rw [down_snoc]; exact hs
   have hfall : ∀ n, (W.m s t = 0 ∨ n ≤ W.m s t) → Falls W (x ++ [s]) s t n := by
    intro n
    obtain ⟨v, a, b, k, h1, h2, h3, h4, h5, h6, h7⟩ := descent W _ (x ++ [s]) t s rfl (Ne.symm hst)
    have hk := h7 hds
    have hab : a ≠ b := by
     rcases h3 with ⟨h, h'⟩ | ⟨h, h'⟩
     · rw [h, h']; exact hst.symm
     · rw [h, h']; exact hst
    have hmm : W.m a b = W.m s t := by
     rcases h3 with ⟨h, h'⟩ | ⟨h, h'⟩
     · rw [h, h']; exact W.msym t s
     · rw [h, h']
    have hkm : ¬ (W.m a b = 0 ∨ k < W.m a b) := by
     intro hm
     obtain ⟨k, rfl⟩ : ∃ j, k = j + 1 := ⟨k - 1, by omega⟩
     have ang := W.angle a b hab
     have A := root_pos W _ v a rfl (h6 hk)
     have B := root_pos W _ v b rfl h5
     obtain ⟨i, hi⟩ := column W (x ++ [s]) t
     have hr := (row_cols W (pi W v) hab k i).1
     rw [h4] at hr
     have e : run W (pi W v) (alt a b (k + 1)) = pi W (x ++ [s]) := by rw [h1, pi, pi, run_append]
     rw [e] at hr
     have p2 := ang.pos (k + 1) (by omega) hm
     have p1 : 0 ≤ us (W.c a b) (k + 2) := by
      rcases hm with hm | hm
      · exact OR.le_of_lt (ang.pos (k + 2) (by omega) (.inl hm))
      · by_cases he : k + 2 = W.m a b
        · have hm0 : W.m a b ≠ 0 := by omega
          have := (ang.zero hm0).1
          rw [← he] at this
          rw [this]; exact OR.le_refl _
        · exact OR.le_of_lt (ang.pos (k + 2) (by omega) (.inr (by omega)))
     have g1 := OR.add_nn (OR.mul_nn p1 (A i)) (OR.mul_nn (OR.le_of_lt p2) (B i))
     rw [← hr] at g1
     exact hi (OR.le_antisymm (root_neg W ht i) g1)
    intro hn
    rw [← hmm] at hn
    have hnk : n ≤ k := by
     rcases hn with hn | hn
     · exact (hkm (.inl hn)).elim
     · rcases Nat.lt_or_ge k (W.m a b) with h | h
       · exact (hkm (.inr h)).elim
       · omega
    have hgo : ∀ j, j ≤ k → ∀ (y : List (Fin 3)) (p q : Fin 3), pi W y = pi W (v ++ alt a b j) → ((p = a ∧ q = b) ∨ (p = b ∧ q = a)) →
     (0 < j → p = nx a b (j - 1)) → len W y = len W v + j → ∀ n, n ≤ j → Falls W y p q n := by
     intro j
     induction j with
     | zero => intro _ y p q _ _ _ _ n hn; have : n = 0 := by omega
               subst this; exact trivial
     | succ j ih =>
      intro hj y p q hy hpq hp hly n hn
      cases n with
      | zero => exact trivial
      | succ n =>
       have hp' : p = nx a b j := hp (by omega)
       have hy' : pi W (y ++ [p]) = pi W (v ++ alt a b j) := by
        rw [pi_snoc, hy, ← pi_snoc, hp', pi_alt_back]
       have hlv : len W (y ++ [p]) ≤ len W v + j := by
        rw [len_congr W hy']
        have := len_append_le W v (alt a b j)
        rwa [alt_length] at this
       have hdown : Down W y p := by
        rcases len_snoc W y p with h | h
        · omega
        · exact h
       refine ⟨hdown, ih (by omega) (y ++ [p]) q p hy' (by rcases hpq with ⟨h, h'⟩ | ⟨h, h'⟩; exact .inr ⟨h', h⟩; exact .inl ⟨h', h⟩) ?_ (by unfold Down at hdown; omega) n (by omega)⟩
       intro hj0
       obtain ⟨j, rfl⟩ : ∃ i, j = i + 1 := ⟨j - 1, by omega⟩
       have : p = nx b a j := by rw [hp', nx_succ]
       have hne := nx_ne hab j
       show q = nx a b j
       unfold nx at *
       rcases hpq with ⟨h, h'⟩ | ⟨h, h'⟩ <;> subst h <;> subst h' <;> split <;> split at this <;> first | rfl | contradiction | (exfalso; exact hab this) | (exfalso; exact hab this.symm)
    refine hgo k (Nat.le_refl _) (x ++ [s]) s t h1 (by rcases h3 with ⟨h, h'⟩ | ⟨h, h'⟩; exact .inr ⟨h'.symm, h.symm⟩; exact .inl ⟨h.symm, h'.symm⟩) ?_ h2 n hnk
    intro _
    obtain ⟨k, rfl⟩ : ∃ j, k = j + 1 := ⟨k - 1, by omega⟩
    show s = nx a b k
    have : nx b a k = t := by rw [← nx_succ]; exact h4
    unfold nx at *
    rcases h3 with ⟨h, h'⟩ | ⟨h, h'⟩ <;> subst h <;> subst h' <;> split <;> split at this <;> first | rfl | contradiction | (exfalso; exact hst this) | (exfalso; exact hst this.symm)
   have hm0 : W.m s t ≠ 0 := by
    intro h0
    have := falls_len W (hfall (len W (x ++ [s]) + 1) (.inl h0))
    omega
   refine ⟨hm0, ?_⟩
   obtain ⟨q, hq⟩ : ∃ q, W.m s t = q + 1 := ⟨W.m s t - 1, by omega⟩
   have h := hfall (q + 1) (.inr (by omega))
   rw [hq]
   exact (falls_congr W (pi_back W x s) t s q).1 h.2
 · rintro ⟨hm0, hf⟩
   obtain ⟨q, hq⟩ : ∃ q, W.m s t = q + 2 := ⟨W.m s t - 2, by have := (W.angle s t hst).two; omega⟩
   rw [hq] at hf
   have hf' : Falls W x t s (q + 1) := hf
   have hl := falls_len W hf'
   obtain ⟨hy2, ht⟩ := around W (x := x) hst hq
   have hyt : pi W (x ++ [s] ++ [t]) = pi W (x ++ alt t s (q + 1) ++ alt (nx s t q) (nx t s q) (q + 1)) := by
    rw [pi_snoc, hy2, ← pi_snoc]
    have := pi_alt_back W (x ++ alt t s (q + 1)) (nx s t q) (nx t s q) (q + 1)
    rw [← ht] at this
    exact this
   have hlen : len W (x ++ [s] ++ [t]) ≤ len W (x ++ alt t s (q + 1)) + (q + 1) := by
    rw [len_congr W hyt]
    have := len_append_le W (x ++ alt t s (q + 1)) (alt (nx s t q) (nx t s q) (q + 1))
    rwa [alt_length] at this
   have := not_down W hs
   rcases len_snoc W (x ++ [s]) t with h | h
   · omega
   · exact h
theorem up_other {x : List (Fin 3)} {s t : Fin 3} (hst : s ≠ t) (hm : W.m s t ≠ 0) :
 pi W (x ++ alt t s (W.m s t - 1) ++ alt (if W.m s t % 2 = 0 then s else t) (if W.m s t % 2 = 0 then t else s) (W.m s t - 1) ++ [t]) = pi W (x ++ [s]) := by
 obtain ⟨q, hq⟩ : ∃ q, W.m s t = q + 2 := ⟨W.m s t - 2, by have := (W.angle s t hst).two; omega⟩
 obtain ⟨hy2, ht⟩ := around W (x := x) hst hq
 have e1 : (if (q + 2) % 2 = 0 then s else t) = nx s t q := by
  unfold nx; split <;> split <;> first | rfl | (exfalso; omega)
 have e2 : (if (q + 2) % 2 = 0 then t else s) = nx t s q := by
  unfold nx; split <;> split <;> first | rfl | (exfalso; omega)
 rw [hy2, hq, e1, e2, alt_snoc (nx s t q) (nx t s q) (q + 1), ← ht, ← List.append_assoc]
 rfl
end
section
structure Tl where
 word : List (Fin 3)
 to : Fin 3 → Option Nat
 down : Fin 3 → Bool
 lev : Nat
def upd {α : Type} (f : Fin 3 → α) (i : Fin 3) (v : α) : Fin 3 → α := fun j => if j = i then v else f j
theorem upd_same {α : Type} (f : Fin 3 → α) (i : Fin 3) (v : α) : upd f i v i = v := by simp [upd]
theorem upd_ne {α : Type} (f : Fin 3 → α) {i j : Fin 3} (v : α) (h : j ≠ i) : upd f i v j = f j := by simp [upd, h]
def link (st : List Tl) (near far : Nat) (s : Fin 3) : List Tl :=
 (st.modify near fun n => { n with to := upd n.to s (some far) }).modify far fun n => { n with to := upd n.to s (some near), down := upd n.down s true }
def lowest (st : List Tl) : Nat → Fin 3 → Fin 3 → Nat → Option (Option Nat)
 | x, _, _, 0 => some (some x)
 | x, i, j, n + 1 => (st[x]?).bind fun nd => if nd.down i then (nd.to i).bind fun x' => lowest st x' j i n else some none
def climb (step : List Tl → Nat → Fin 3 → Option (List Tl × Nat)) : Nat → List Tl → Nat → Fin 3 → Fin 3 → Option (List Tl × Nat)
 | 0, st, x, _, _ => some (st, x)
 | n + 1, st, x, a, b => (step st x a).bind fun r => climb step n r.1 r.2 b a
def better (B : Nat) (st : List Tl) (z y : Nat) (t : Fin 3) : Option (List Tl) :=
 (st[z]?).bind fun nz => (st[y]?).bind fun ny => if z = y ∨ B < nz.word.length then none else some (if lex (nz.word ++ [t]) ny.word then st.modify y fun n => { n with word := nz.word ++ [t] } else st)
def round (m : Fin 3 → Fin 3 → Nat) (B : Nat) (step : List Tl → Nat → Fin 3 → Option (List Tl × Nat)) (st : List Tl) (x y : Nat) (s t : Fin 3) : Option (List Tl) :=
 if t = s ∨ m s t = 0 then some st else
 (lowest st x t s (m s t - 1)).bind fun o => match o with
   | none => some st
   | some v => (climb step (m s t - 1) st v (if m s t % 2 = 0 then s else t) (if m s t % 2 = 0 then t else s)).bind fun r => better B (link r.1 r.2 y t) r.2 y t
def fresh (nd : Tl) (s : Fin 3) : Tl := { word := nd.word ++ [s], to := fun _ => none, down := fun _ => false, lev := nd.lev + 1 }
def step (m : Fin 3 → Fin 3 → Nat) : Nat → List Tl → Nat → Fin 3 → Option (List Tl × Nat)
 | 0, _, _, _ => none
 | f + 1, st, x, s => (st[x]?).bind fun nd => if f < nd.word.length then none else match nd.to s with
  | some y => some (st, y)
  | none =>
   (round m f (step m f) (link (st ++ [fresh nd s]) x st.length s) x st.length s 0).bind fun a =>
   (round m f (step m f) a x st.length s 1).bind fun b =>
   (round m f (step m f) b x st.length s 2).bind fun c => some (c, st.length)
def walk (m : Fin 3 → Fin 3 → Nat) (f : Nat) : List Tl → Nat → List (Fin 3) → Option (List Tl × Nat)
 | st, x, [] => some (st, x)
 | st, x, s :: w => (step m f st x s).bind fun r => walk m f r.1 r.2 w
def first : Tl := { word := [], to := fun _ => none, down := fun _ => false, lev := 0 }
theorem round_cases {m : Fin 3 → Fin 3 → Nat} {B : Nat} {step : List Tl → Nat → Fin 3 → Option (List Tl × Nat)} {st : List Tl} {x y : Nat} {s t : Fin 3} {st' : List Tl} (h : round m B step st x y s t = some st') :
 (t = s ∧ st' = st) ∨ (t ≠ s ∧ m s t = 0 ∧ st' = st) ∨ (t ≠ s ∧ ∃ q, m s t = q + 1 ∧
   ((lowest st x t s q = some none ∧ st' = st) ∨
    ∃ v st2 z nz ny, lowest st x t s q = some (some v) ∧ climb step q st v (if (q + 1) % 2 = 0 then s else t) (if (q + 1) % 2 = 0 then t else s) = some (st2, z) ∧
     (link st2 z y t)[z]? = some nz ∧ (link st2 z y t)[y]? = some ny ∧ z ≠ y ∧ nz.word.length ≤ B ∧
     ((lex (nz.word ++ [t]) ny.word = true ∧ st' = (link st2 z y t).modify y fun n => { n with word := nz.word ++ [t] }) ∨ (lex (nz.word ++ [t]) ny.word = false ∧ st' = link st2 z y t)))) := by
 unfold round at h
 by_cases hts : t = s
 · rw [if_pos (.inl hts)] at h; cases h; exact .inl ⟨hts, rfl⟩
 by_cases hm : m s t = 0
 · rw [if_pos (.inr hm)] at h; cases h; exact .inr (.inl ⟨hts, hm, rfl⟩)
 rw [if_neg (by rintro (h | h); exact hts h; exact hm h)] at h
 obtain ⟨q, hq⟩ : ∃ q, m s t = q + 1 := ⟨m s t - 1, by omega⟩
 rw [hq] at h
 refine .inr (.inr ⟨hts, q, hq, ?_⟩)
 have e : q + 1 - 1 = q := rfl
 rw [e] at h
 cases hl : lowest st x t s q with
 | none => rw [hl] at h; cases h
 | some o =>
  rw [hl] at h
  simp only [Option.bind_some] at h
  cases o with
  | none => simp only [Option.some.injEq] at h; exact .inl ⟨rfl, h.symm⟩
  | some v =>
   right
   simp only at h
   cases hc : climb step q st v (if (q + 1) % 2 = 0 then s else t) (if (q + 1) % 2 = 0 then t else s) with
   | none => rw [hc] at h; cases h
   | some r =>
    obtain ⟨st2, z⟩ := r
    rw [hc] at h
    simp only [Option.bind_some, better] at h
    cases hz : (link st2 z y t)[z]? with
    | none => rw [hz] at h; cases h
    | some nz =>
     rw [hz] at h
     simp only [Option.bind_some] at h
     cases hy : (link st2 z y t)[y]? with
     | none => rw [hy] at h; cases h
     | some ny =>
      rw [hy] at h
      simp only [Option.bind_some] at h
      by_cases hg : z = y ∨ B < nz.word.length
      · rw [if_pos hg] at h; cases h
      · rw [if_neg hg] at h
        refine ⟨v, st2, z, nz, ny, rfl, hc, hz, hy, fun e => hg (.inl e), by omega, ?_⟩
        cases hx : lex (nz.word ++ [t]) ny.word with
        | true => rw [hx] at h; simp only [if_true, Option.some.injEq] at h; exact .inl ⟨rfl, h.symm⟩
        | false => rw [hx] at h; simp only [Bool.false_eq_true, if_false, Option.some.injEq] at h; exact .inr ⟨rfl, h.symm⟩
theorem climb_succ {step : List Tl → Nat → Fin 3 → Option (List Tl × Nat)} {n : Nat} {st : List Tl} {x : Nat} {a b : Fin 3} {r : List Tl × Nat} (h : climb step (n + 1) st x a b = some r) :
 ∃ st1 x1, step st x a = some (st1, x1) ∧ climb step n st1 x1 b a = some r := by
 simp only [climb] at h
 cases hs : step st x a with
 | none => rw [hs] at h; cases h
 | some p => rw [hs] at h; exact ⟨p.1, p.2, rfl, h⟩
variable {K : Type} [OR K]
variable (W : Tri K)
def At (st : List Tl) (P : Nat → Prop) (k : Nat) (w : List (Fin 3)) : Prop := P k ∧ ∃ nd, st[k]? = some nd ∧ nd.word = w
structure Ok (st : List Tl) (P : Nat → Prop) (E : Nat → Fin 3 → Prop) : Prop where
 nf : ∀ k nd, P k → st[k]? = some nd → nf W nd.word = nd.word
 down : ∀ k nd i, P k → st[k]? = some nd → (nd.down i = true ↔ Down W nd.word i)
 known : ∀ k nd i, P k → st[k]? = some nd → Down W nd.word i → nd.to i ≠ none ∧ ¬ E k i
 next : ∀ k nd i k', P k → st[k]? = some nd → ¬ E k i → nd.to i = some k' → At st P k' (Cox.nf W (nd.word ++ [i]))
 root : ∀ k nd, P k → st[k]? = some nd → nd.word = [] → k = 0
structure Ext (st : List Tl) (P : Nat → Prop) (st' : List Tl) (P' : Nat → Prop) (L : Nat) : Prop where
 len : st.length ≤ st'.length
 more : ∀ k, P k → P' k
 old : ∀ k, k < st.length → P' k → P k
 out : ∀ k, k < st.length → ¬ P k → st'[k]? = st[k]?
 same : ∀ k nd, P k → st[k]? = some nd → L ≤ nd.word.length → st'[k]? = some nd
 kept : ∀ k nd, P k → st[k]? = some nd → ∃ nd', st'[k]? = some nd' ∧ nd'.word = nd.word ∧ nd'.down = nd.down ∧ nd'.lev = nd.lev
theorem Ext.refl (st : List Tl) (P : Nat → Prop) (L : Nat) : Ext st P st P L :=
 ⟨Nat.le_refl _, fun _ h => h, fun _ _ h => h, fun _ _ _ => rfl, fun _ _ _ h _ => h, fun k nd _ h => ⟨nd, h, rfl, rfl, rfl⟩⟩
theorem Ext.weaken {st st' : List Tl} {P P' : Nat → Prop} {L L' : Nat} (h : Ext st P st' P' L) (hl : L ≤ L') : Ext st P st' P' L' :=
 ⟨h.len, h.more, h.old, h.out, fun k nd a b c => h.same k nd a b (by omega), h.kept⟩
theorem Ext.trans {st st' st'' : List Tl} {P P' P'' : Nat → Prop} {L : Nat} (h : Ext st P st' P' L) (g : Ext st' P' st'' P'' L) : Ext st P st'' P'' L where
 len := Nat.le_trans h.len g.len
 more k hp := g.more k (h.more k hp)
 old k hk hp := h.old k hk (g.old k (Nat.lt_of_lt_of_le hk h.len) hp)
 out k hk hp := by
  rw [g.out k (Nat.lt_of_lt_of_le hk h.len) (fun hp' => hp (h.old k hk hp')), h.out k hk hp]
 same k nd hp hn hl := g.same k nd (h.more k hp) (h.same k nd hp hn hl) hl
 kept k nd hp hn := by
  obtain ⟨nd', h1, h2, h3, h4⟩ := h.kept k nd hp hn
  obtain ⟨nd'', g1, g2, g3, g4⟩ := g.kept k nd' (h.more k hp) h1
  exact ⟨nd'', g1, g2.trans h2, g3.trans h3, g4.trans h4⟩
theorem Ext.at {st st' : List Tl} {P P' : Nat → Prop} {L : Nat} (h : Ext st P st' P' L) {k : Nat} {w : List (Fin 3)} (ha : At st P k w) : At st' P' k w := by
 obtain ⟨hp, nd, hn, hw⟩ := ha
 obtain ⟨nd', h1, h2, _⟩ := h.kept k nd hp hn
 exact ⟨h.more k hp, nd', h1, h2.trans hw⟩
theorem At.lt {st : List Tl} {P : Nat → Prop} {k : Nat} {w : List (Fin 3)} (h : At st P k w) : k < st.length := by
 obtain ⟨_, nd, hn, _⟩ := h
 exact (List.getElem?_eq_some_iff.1 hn).1
theorem getElem?_link {st : List Tl} {near far : Nat} {s : Fin 3} (hne : near ≠ far) (k : Nat) :
 (link st near far s)[k]? = if k = near then st[k]?.map (fun n => { n with to := upd n.to s (some far) })
   else if k = far then st[k]?.map (fun n => { n with to := upd n.to s (some near), down := upd n.down s true }) else st[k]? := by
 unfold link
 rw [List.getElem?_modify, List.getElem?_modify]
 by_cases h1 : k = near
 · subst h1
   cases h : st[k]? <;> simp [Ne.symm hne]
 · by_cases h2 : k = far
   · subst h2
     cases h : st[k]? <;> simp [h1, hne]
   · have h3 : ¬ near = k := fun e => h1 e.symm
     have h4 : ¬ far = k := fun e => h2 e.symm
     cases h : st[k]? <;> simp [h1, h2, h3, h4]
theorem length_link (st : List Tl) (near far : Nat) (s : Fin 3) : (link st near far s).length = st.length := by
 unfold link; simp
theorem lowest_ok {st : List Tl} {P : Nat → Prop} {E : Nat → Fin 3 → Prop} (ho : Ok W st P E) (n : Nat) : ∀ (x : Nat) (i j : Fin 3) (w : List (Fin 3)), At st P x w →
 (Falls W w i j n → ∃ v, lowest st x i j n = some (some v) ∧ At st P v (nf W (w ++ alt i j n))) ∧ (¬ Falls W w i j n → lowest st x i j n = some none) := by
 induction n with
 | zero =>
  intro x i j w hx
  refine ⟨fun _ => ⟨x, rfl, ?_⟩, fun h => (h trivial).elim⟩
  obtain ⟨hp, nd, hn, hw⟩ := hx
  refine ⟨hp, nd, hn, ?_⟩
  have := ho.nf x nd hp hn
  rw [hw] at this ⊢
  simp only [alt, List.append_nil]; exact this.symm
 | succ n ih =>
  intro x i j w ⟨hp, nd, hn, hw⟩
  have hd := ho.down x nd i hp hn
  rw [hw] at hd
  by_cases h : Down W w i
  · obtain ⟨hne, hE⟩ := ho.known x nd i hp hn (by rw [hw]; exact h)
    cases ht : nd.to i with
    | none => exact (hne ht).elim
    | some x' =>
     have ha := ho.next x nd i x' hp hn hE ht
     rw [hw] at ha
     obtain ⟨g1, g2⟩ := ih x' j i _ ha
     have e : lowest st x i j (n + 1) = lowest st x' j i n := by
      simp only [lowest, hn, Option.bind_some, hd.2 h, if_true, ht]
     have hc := falls_congr W (nf_pi W (w ++ [i])) j i n
     rw [e]
     constructor
     · intro hf
       obtain ⟨v, e1, e2⟩ := g1 (hc.2 hf.2)
       refine ⟨v, e1, ?_⟩
       have : pi W (nf W (w ++ [i]) ++ alt j i n) = pi W (w ++ alt i j (n + 1)) := by
        rw [pi_right W (nf_pi W (w ++ [i])) (alt j i n)]; simp [alt]
       rwa [nf_congr W this] at e2
     · intro hf
       exact g2 fun hf' => hf ⟨h, hc.1 hf'⟩
  · constructor
    · intro hf; exact (h hf.1).elim
    · intro _
      have : nd.down i = false := by
       cases hb : nd.down i with
       | false => rfl
       | true => exact (h (hd.1 hb)).elim
      simp only [lowest, hn, Option.bind_some, this]; rfl
def Apart (st : List Tl) (P : Nat → Prop) (E : Nat → Fin 3 → Prop) (L : Nat) : Prop :=
 ∀ k i, E k i → k < st.length ∧ ∀ nd, P k → st[k]? = some nd → L ≤ nd.word.length
theorem Apart.ext {st st' : List Tl} {P P' : Nat → Prop} {E : Nat → Fin 3 → Prop} {L L' : Nat} (h : Apart st P E L) (x : Ext st P st' P' L') : Apart st' P' E L := by
 intro k i he
 obtain ⟨h1, h2⟩ := h k i he
 refine ⟨Nat.lt_of_lt_of_le h1 x.len, fun nd hp hn => ?_⟩
 have hp0 := x.old k h1 hp
 have hn0 : st[k]? = some st[k] := List.getElem?_eq_getElem h1
 obtain ⟨nd', g1, g2, _⟩ := x.kept k _ hp0 hn0
 rw [hn] at g1; cases g1
 rw [g2]; exact h2 _ hp0 hn0
theorem Apart.mono {st : List Tl} {P : Nat → Prop} {E : Nat → Fin 3 → Prop} {L L' : Nat} (h : Apart st P E L) (hl : L' ≤ L) : Apart st P E L' :=
 fun k i he => ⟨(h k i he).1, fun nd a b => Nat.le_trans hl ((h k i he).2 nd a b)⟩
theorem modify_eq (st : List Tl) (y k : Nat) (f : Tl → Tl) : (st.modify y f)[k]? = if k = y then st[k]?.map f else st[k]? := by
 rw [List.getElem?_modify]
 by_cases h : k = y
 · subst h; cases st[k]? <;> simp
 · have h2 : ¬ y = k := fun e => h e.symm
   cases st[k]? <;> simp [h, h2]
end
end Go.Proofs.Ytkndmibmmoikbaa.Cox
