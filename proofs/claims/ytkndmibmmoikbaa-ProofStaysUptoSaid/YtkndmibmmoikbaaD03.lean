/- Chapter 10: Real. -/
import Derived.Test.YtkndmibmmoikbaaD00
set_option linter.all false
set_option maxRecDepth 100000
set_option maxHeartbeats 16000000
namespace Go.Proofs.Ytkndmibmmoikbaa.Cox
theorem arch (e : Rat) (he : 0 < e) : ∃ k : Nat, ∀ n, k ≤ n → 1 < e * ((2 ^ n : Nat) : Rat) := by
 refine ⟨e.den, fun n hn => ?_⟩
 have h1 : e * (e.den : Rat) = (e.num : Rat) := by
  have h0 : ((e.den : Nat) : Rat) ≠ 0 := by
   have : (0 : Rat) < ((e.den : Nat) : Rat) := Rat.natCast_pos.2 e.den_pos
   grind
  have h := Rat.mkRat_self e
  rw [Rat.mkRat_eq_div] at h
  grind
 have h2 : 0 < e.num := by
  have := (Rat.lt_iff 0 e).1 he
  simpa using this
 have h3 : e.den < 2 ^ n := Nat.lt_of_lt_of_le Nat.lt_two_pow_self (Nat.pow_le_pow_right (by omega) hn)
 have h4 : ((e.den : Nat) : Rat) < ((2 ^ n : Nat) : Rat) := Rat.natCast_lt_natCast.2 h3
 have h5 : (1 : Rat) ≤ (e.num : Rat) := by
  have : ((1 : Int) : Rat) ≤ (e.num : Rat) := Rat.intCast_le_intCast.2 (by omega)
  simpa using this
 have h6 := Rat.mul_pos he (show (0 : Rat) < ((2 ^ n : Nat) : Rat) - e.den by grind)
 grind
instance : OR Rat where
 add_assoc := Rat.add_assoc
 add_comm := Rat.add_comm
 zero_add := Rat.zero_add
 add_neg := by intro a; grind
 mul_assoc := Rat.mul_assoc
 mul_comm := Rat.mul_comm
 one_mul := Rat.one_mul
 mul_add := Rat.mul_add
 sub_eq := by intro a b; grind
 lt_irrefl := by intro a; grind
 lt_trans := by intro a b c; grind
 lt_total := by intro a b; grind
 add_lt := by intro a b c; grind
 mul_pos := fun a b h g => Rat.mul_pos h g
 one_pos := by grind
 le_iff := by intro a b; grind
def Comes (f : Nat → Rat) : Prop := ∀ e : Rat, 0 < e → ∃ N, ∀ m n, N ≤ m → N ≤ n → f m - f n < e
def Near (f g : Nat → Rat) : Prop := ∀ e : Rat, 0 < e → ∃ N, ∀ n, N ≤ n → f n - g n < e ∧ g n - f n < e
theorem Comes.bound {f : Nat → Rat} (h : Comes f) : ∃ B : Rat, 0 < B ∧ ∃ N, ∀ n, N ≤ n → f n < B ∧ -B < f n := by
 obtain ⟨N, hN⟩ := h 1 (by grind)
 rcases (by grind : 0 ≤ f N ∨ f N ≤ 0) with h0 | h0
 · refine ⟨f N + 2, by grind, N, fun n hn => ?_⟩
   have h1 := hN n N hn (Nat.le_refl _)
   have h2 := hN N n (Nat.le_refl _) hn
   grind
 · refine ⟨2 - f N, by grind, N, fun n hn => ?_⟩
   have h1 := hN n N hn (Nat.le_refl _)
   have h2 := hN N n (Nat.le_refl _) hn
   grind
theorem Comes.const (q : Rat) : Comes fun _ => q := fun e he => ⟨0, fun _ _ _ _ => by grind⟩
theorem Comes.add {f g : Nat → Rat} (hf : Comes f) (hg : Comes g) : Comes fun n => f n + g n := by
 intro e he
 obtain ⟨N, hN⟩ := hf (e / 2) (by grind)
 obtain ⟨M, hM⟩ := hg (e / 2) (by grind)
 refine ⟨max N M, fun m n hm hn => ?_⟩
 have h1 := hN m n (by omega) (by omega)
 have h2 := hM m n (by omega) (by omega)
 grind
theorem Comes.neg {f : Nat → Rat} (hf : Comes f) : Comes fun n => -f n := by
 intro e he
 obtain ⟨N, hN⟩ := hf e he
 refine ⟨N, fun m n hm hn => ?_⟩
 have h1 := hN n m hn hm
 grind
theorem lt_mul {p q P Q : Rat} (h1 : p < P) (h2 : -P < p) (h3 : q < Q) (h4 : -Q < q) : p * q < P * Q := by
 have g1 := Rat.mul_pos (show (0 : Rat) < P - p by grind) (show (0 : Rat) < Q + q by grind)
 have g2 := Rat.mul_pos (show (0 : Rat) < P + p by grind) (show (0 : Rat) < Q - q by grind)
 grind
theorem half_of {A e : Rat} (hA : 0 < A) (he : 0 < e) : ∃ d : Rat, 0 < d ∧ A * d = e / 2 := by
 refine ⟨e / 2 * A⁻¹, Rat.mul_pos (by grind) (Rat.inv_pos.2 hA), ?_⟩
 have : A * A⁻¹ = 1 := Rat.mul_inv_cancel A (by grind)
 grind
theorem Near.mul {f f' g g' : Nat → Rat} {A B : Rat} {N0 : Nat} (hf : ∀ n, N0 ≤ n → f n < A ∧ -A < f n) (hg : ∀ n, N0 ≤ n → g' n < B ∧ -B < g' n) {e d1 d2 : Rat} (h1 : B * d1 = e / 2) (h2 : A * d2 = e / 2) {m n : Nat} (hm : N0 ≤ m) (hn : N0 ≤ n)
 (k1 : f m - f' n < d1) (k2 : f' n - f m < d1) (k3 : g m - g' n < d2) (k4 : g' n - g m < d2) : f m * g m - f' n * g' n < e := by
 have a1 := lt_mul (hf m hm).1 (hf m hm).2 k3 (by grind : -d2 < g m - g' n)
 have a2 := lt_mul (hg n hn).1 (hg n hn).2 k1 (by grind : -d1 < f m - f' n)
 grind
theorem Comes.mul {f g : Nat → Rat} (hf : Comes f) (hg : Comes g) : Comes fun n => f n * g n := by
 intro e he
 obtain ⟨A, hA, N1, h1⟩ := hf.bound
 obtain ⟨B, hB, N2, h2⟩ := hg.bound
 obtain ⟨d1, hd1, e1⟩ := half_of hB he
 obtain ⟨d2, hd2, e2⟩ := half_of hA he
 obtain ⟨M1, m1⟩ := hf d1 hd1
 obtain ⟨M2, m2⟩ := hg d2 hd2
 refine ⟨max (max N1 N2) (max M1 M2), fun m n hm hn => ?_⟩
 exact Near.mul (N0 := max N1 N2) (fun n hn => h1 n (by omega)) (fun n hn => h2 n (by omega)) e1 e2 (by omega) (by omega) (m1 m n (by omega) (by omega)) (m1 n m (by omega) (by omega)) (m2 m n (by omega) (by omega)) (m2 n m (by omega) (by omega))
def Seqs := { f : Nat → Rat // Comes f }
theorem Near.refl (f : Nat → Rat) : Near f f := fun e he => ⟨0, fun _ _ => by grind⟩
theorem Near.symm {f g : Nat → Rat} (h : Near f g) : Near g f := fun e he => by
 obtain ⟨N, hN⟩ := h e he
 exact ⟨N, fun n hn => ⟨(hN n hn).2, (hN n hn).1⟩⟩
theorem Near.trans {f g k : Nat → Rat} (h : Near f g) (h' : Near g k) : Near f k := fun e he => by
 obtain ⟨N, hN⟩ := h (e / 2) (by grind)
 obtain ⟨M, hM⟩ := h' (e / 2) (by grind)
 refine ⟨max N M, fun n hn => ?_⟩
 have := hN n (by omega)
 have := hM n (by omega)
 grind
instance seqsSetoid : Setoid Seqs := ⟨fun f g => Near f.1 g.1, fun _ => Near.refl _, Near.symm, Near.trans⟩
def Re := Quotient seqsSetoid
def Re.mk (f : Nat → Rat) (h : Comes f) : Re := Quotient.mk seqsSetoid ⟨f, h⟩
theorem Re.eq {f g : Nat → Rat} {hf : Comes f} {hg : Comes g} (h : ∀ n, f n = g n) : Re.mk f hf = Re.mk g hg := by
 have : f = g := funext h
 subst this; rfl
theorem Re.ind {P : Re → Prop} (h : ∀ f hf, P (Re.mk f hf)) (x : Re) : P x := Quotient.ind (fun f => h f.1 f.2) x
def Re.add (x y : Re) : Re := Quotient.liftOn₂ x y (fun f g => Re.mk (fun n => f.1 n + g.1 n) (f.2.add g.2)) (by
 intro _ _ _ _ h1 h2
 refine Quotient.sound fun e he => ?_
 obtain ⟨N, hN⟩ := h1 (e / 2) (by grind)
 obtain ⟨M, hM⟩ := h2 (e / 2) (by grind)
 refine ⟨max N M, fun n hn => ?_⟩
 have := hN n (by omega)
 have := hM n (by omega)
 grind)
def Re.neg (x : Re) : Re := Quotient.liftOn x (fun f => Re.mk (fun n => -f.1 n) f.2.neg) (by
 intro _ _ h1
 refine Quotient.sound fun e he => ?_
 obtain ⟨N, hN⟩ := h1 e he
 refine ⟨N, fun n hn => ?_⟩
 have := hN n (by omega)
 grind)
def Re.mul (x y : Re) : Re := Quotient.liftOn₂ x y (fun f g => Re.mk (fun n => f.1 n * g.1 n) (f.2.mul g.2)) (by
 intro f g f' g' h1 h2
 refine Quotient.sound fun e he => ?_
 obtain ⟨A, hA, N1, k1⟩ := f.2.bound
 obtain ⟨B, hB, N2, k2⟩ := g'.2.bound
 obtain ⟨A', hA', N1', k1'⟩ := f'.2.bound
 obtain ⟨B', hB', N2', k2'⟩ := g.2.bound
 obtain ⟨d1, hd1, e1⟩ := half_of hB he
 obtain ⟨d2, hd2, e2⟩ := half_of hA he
 obtain ⟨d1', hd1', e1'⟩ := half_of hB' he
 obtain ⟨d2', hd2', e2'⟩ := half_of hA' he
 obtain ⟨M1, m1⟩ := h1 d1 hd1
 obtain ⟨M2, m2⟩ := h2 d2 hd2
 obtain ⟨M1', m1'⟩ := h1 d1' hd1'
 obtain ⟨M2', m2'⟩ := h2 d2' hd2'
 refine ⟨max (max (max N1 N2) (max N1' N2')) (max (max M1 M2) (max M1' M2')), fun n hn => ⟨?_, ?_⟩⟩
 · exact Near.mul (N0 := max N1 N2) (fun n hn => k1 n (by omega)) (fun n hn => k2 n (by omega)) e1 e2 (by omega) (by omega) (m1 n (by omega)).1 (m1 n (by omega)).2 (m2 n (by omega)).1 (m2 n (by omega)).2
 · exact Near.mul (N0 := max N1' N2') (fun n hn => k1' n (by omega)) (fun n hn => k2' n (by omega)) e1' e2' (by omega) (by omega) (m1' n (by omega)).2 (m1' n (by omega)).1 (m2' n (by omega)).2 (m2' n (by omega)).1)
def Less (f g : Nat → Rat) : Prop := ∃ e : Rat, 0 < e ∧ ∃ N, ∀ n, N ≤ n → e < g n - f n
theorem Less.near {f g f' g' : Nat → Rat} (h : Less f g) (h1 : Near f f') (h2 : Near g g') : Less f' g' := by
 obtain ⟨e, he, N, hN⟩ := h
 obtain ⟨N1, k1⟩ := h1 (e / 4) (by grind)
 obtain ⟨N2, k2⟩ := h2 (e / 4) (by grind)
 refine ⟨e / 2, by grind, max N (max N1 N2), fun n hn => ?_⟩
 have := hN n (by omega)
 have := k1 n (by omega)
 have := k2 n (by omega)
 grind
def Re.lt (x y : Re) : Prop := Quotient.liftOn₂ x y (fun f g => Less f.1 g.1) (by
 intro f g f' g' h1 h2
 exact propext ⟨fun h => h.near h1 h2, fun h => h.near h1.symm h2.symm⟩)
theorem less_total {f g : Nat → Rat} (hf : Comes f) (hg : Comes g) : Less f g ∨ Near f g ∨ Less g f := by
 by_cases h : Near f g
 · exact .inr (.inl h)
 · simp only [Near, Classical.not_forall, not_exists] at h
   obtain ⟨e, he, h⟩ := h
   obtain ⟨N, hN⟩ := hf (e / 4) (by grind)
   obtain ⟨M, hM⟩ := hg (e / 4) (by grind)
   obtain ⟨n, hn, hne⟩ := h (max N M)
   by_cases k : f n - g n < e
   · left
     refine ⟨e / 4, by grind, max N M, fun q hq => ?_⟩
     have := hN n q (by omega) (by omega)
     have := hN q n (by omega) (by omega)
     have := hM n q (by omega) (by omega)
     have := hM q n (by omega) (by omega)
     have : ¬ (g n - f n < e) := fun k2 => hne ⟨k, k2⟩
     grind
   · right; right
     refine ⟨e / 4, by grind, max N M, fun q hq => ?_⟩
     have := hN n q (by omega) (by omega)
     have := hN q n (by omega) (by omega)
     have := hM n q (by omega) (by omega)
     have := hM q n (by omega) (by omega)
     grind
def Re.con (q : Rat) : Re := Re.mk (fun _ => q) (Comes.const q)
noncomputable instance : OR Re where
 add := Re.add
 mul := Re.mul
 neg := Re.neg
 sub x y := Re.add x (Re.neg y)
 zero := Re.con 0
 one := Re.con 1
 lt := Re.lt
 le x y := Re.lt x y ∨ x = y
 add_assoc a b c := by
  induction a using Re.ind with | _ f hf => induction b using Re.ind with | _ g hg => induction c using Re.ind with | _ k hk => exact Re.eq fun n => Rat.add_assoc _ _ _
 add_comm a b := by
  induction a using Re.ind with | _ f hf => induction b using Re.ind with | _ g hg => exact Re.eq fun n => Rat.add_comm _ _
 zero_add a := by
  induction a using Re.ind with | _ f hf => exact Re.eq fun n => Rat.zero_add _
 add_neg a := by
  induction a using Re.ind with | _ f hf => exact Re.eq fun n => by show f n + -f n = 0; grind
 mul_assoc a b c := by
  induction a using Re.ind with | _ f hf => induction b using Re.ind with | _ g hg => induction c using Re.ind with | _ k hk => exact Re.eq fun n => Rat.mul_assoc _ _ _
 mul_comm a b := by
  induction a using Re.ind with | _ f hf => induction b using Re.ind with | _ g hg => exact Re.eq fun n => Rat.mul_comm _ _
 one_mul a := by
  induction a using Re.ind with | _ f hf => exact Re.eq fun n => Rat.one_mul _
 mul_add a b c := by
  induction a using Re.ind with | _ f hf => induction b using Re.ind with | _ g hg => induction c using Re.ind with | _ k hk => exact Re.eq fun n => Rat.mul_add _ _ _
 sub_eq a b := rfl
 lt_irrefl a := by
  induction a using Re.ind with | _ f hf =>
  rintro ⟨e, he, N, h⟩
  have := h N (Nat.le_refl _)
  grind
 lt_trans a b c := by
  induction a using Re.ind with | _ f hf => induction b using Re.ind with | _ g hg => induction c using Re.ind with | _ k hk =>
  rintro ⟨e, he, N, h⟩ ⟨e', he', N', h'⟩
  refine ⟨e, he, max N N', fun n hn => ?_⟩
  have := h n (by omega)
  have := h' n (by omega)
  grind
 lt_total a b := by
  induction a using Re.ind with | _ f hf => induction b using Re.ind with | _ g hg =>
  rcases less_total hf hg with h | h | h
  · exact .inl h
  · exact .inr (.inl (Quotient.sound h))
  · exact .inr (.inr h)
 add_lt a b c := by
  induction a using Re.ind with | _ f hf => induction b using Re.ind with | _ g hg => induction c using Re.ind with | _ k hk =>
  rintro ⟨e, he, N, h⟩
  refine ⟨e, he, N, fun n hn => ?_⟩
  have := h n (by omega)
  show e < g n + k n - (f n + k n)
  grind
 mul_pos a b := by
  induction a using Re.ind with | _ f hf => induction b using Re.ind with | _ g hg =>
  rintro ⟨e, he, N, h⟩ ⟨e', he', N', h'⟩
  refine ⟨e * e', Rat.mul_pos he he', max N N', fun n hn => ?_⟩
  have h1 := h n (by omega)
  have h2 := h' n (by omega)
  show e * e' < f n * g n - 0
  have h3 := Rat.mul_pos he (show (0 : Rat) < g n - e' by grind)
  have h4 := Rat.mul_pos (show (0 : Rat) < g n by grind) (show (0 : Rat) < f n - e by grind)
  grind
 one_pos := ⟨1/2, by grind, 0, fun n hn => by show (1:Rat)/2 < 1 - 0; grind⟩
 le_iff a b := Iff.rfl
theorem Re.us (f : Nat → Rat) (hf : Comes f) (k : Nat) : ∃ h, us (Re.mk f hf) k = Re.mk (fun n => us (f n) k) h ∧ ∃ h', Cox.us (Re.mk f hf) (k + 1) = Re.mk (fun n => Cox.us (f n) (k + 1)) h' := by
 induction k with
 | zero => exact ⟨Comes.const 0, rfl, Comes.const 1, rfl⟩
 | succ k ih =>
  obtain ⟨h, e, h', e'⟩ := ih
  have hc : (fun n => f n * Cox.us (f n) (k + 1) + -Cox.us (f n) k) = fun n => Cox.us (f n) (k + 1 + 1) := funext fun n => by
   show f n * Cox.us (f n) (k + 1) + -Cox.us (f n) k = f n * Cox.us (f n) (k + 1) - Cox.us (f n) k
   grind
  refine ⟨h', e', hc ▸ (hf.mul h').add h.neg, ?_⟩
  show Re.mk f hf * Cox.us (Re.mk f hf) (k + 1) - Cox.us (Re.mk f hf) k = _
  rw [e, e']
  exact Re.eq fun n => by
   show f n * Cox.us (f n) (k + 1) + -Cox.us (f n) k = f n * Cox.us (f n) (k + 1) - Cox.us (f n) k
   grind
theorem us_two (k : Nat) : us (2 : Rat) k = (k : Rat) ∧ us (2 : Rat) (k + 1) = ((k + 1 : Nat) : Rat) := by
 induction k with
 | zero => exact ⟨rfl, rfl⟩
 | succ k ih =>
  refine ⟨ih.2, ?_⟩
  show 2 * us (2 : Rat) (k + 1) - us (2 : Rat) k = _
  rw [ih.1, ih.2]
  push_cast
  grind
def Good (m : Nat) (q : Rat) : Prop := ∀ k, 0 < k → k ≤ m → 0 < us q k
open Classical in
noncomputable def halves (m : Nat) : Nat → Rat × Rat
 | 0 => (0, 2)
 | n + 1 => if Good m (((halves m n).1 + (halves m n).2) / 2) then ((halves m n).1, ((halves m n).1 + (halves m n).2) / 2) else (((halves m n).1 + (halves m n).2) / 2, (halves m n).2)
theorem halves_good {m : Nat} (hm : 2 ≤ m) (n : Nat) : ¬ Good m (halves m n).1 ∧ Good m (halves m n).2 ∧ ((halves m n).2 - (halves m n).1) * ((2 ^ n : Nat) : Rat) = 2 := by
 induction n with
 | zero =>
  refine ⟨fun h => ?_, fun k h _ => ?_, by simp [halves]; grind⟩
  · have := h 2 (by omega) hm
    have e : us (0 : Rat) 2 = 0 := by show (0 : Rat) * 1 - 0 = 0; grind
    simp only [halves] at this
    rw [e] at this
    grind
  · show 0 < us (2 : Rat) k
    rw [(us_two k).1]
    exact Rat.natCast_pos.2 h
 | succ n ih =>
  obtain ⟨h1, h2, h3⟩ := ih
  have e : ((2 ^ (n + 1) : Nat) : Rat) = 2 * ((2 ^ n : Nat) : Rat) := by rw [Nat.pow_succ]; push_cast; grind
  rw [e]
  simp only [halves]
  by_cases g : Good m (((halves m n).1 + (halves m n).2) / 2)
  · rw [if_pos g]; exact ⟨h1, g, by grind⟩
  · rw [if_neg g]; exact ⟨g, h2, by grind⟩
theorem halves_in {m : Nat} (hm : 2 ≤ m) (n k : Nat) : (halves m n).1 ≤ (halves m (n + k)).1 ∧ (halves m (n + k)).2 ≤ (halves m n).2 ∧ (halves m (n + k)).1 < (halves m (n + k)).2 := by
 have lt : ∀ n, (halves m n).1 < (halves m n).2 := by
  intro n
  have h := (halves_good hm n).2.2
  have p : (0 : Rat) < ((2 ^ n : Nat) : Rat) := Rat.natCast_pos.2 (Nat.two_pow_pos n)
  have : ¬ (halves m n).2 ≤ (halves m n).1 := by
   intro hle
   have := Rat.mul_nonneg (show (0 : Rat) ≤ (halves m n).1 - (halves m n).2 by grind) (show (0 : Rat) ≤ ((2 ^ n : Nat) : Rat) by grind)
   grind
  grind
 induction k with
 | zero => exact ⟨by grind, by grind, lt n⟩
 | succ k ih =>
  have l1 := lt (n + k)
  refine ⟨?_, ?_, lt _⟩
  · show _ ≤ (halves m (n + k + 1)).1
    simp only [halves]
    split <;> simp only <;> grind
  · show (halves m (n + k + 1)).2 ≤ _
    simp only [halves]
    split <;> simp only <;> grind
theorem halves_small {m : Nat} (hm : 2 ≤ m) (e : Rat) (he : 0 < e) : ∃ N, ∀ n, N ≤ n → (halves m n).2 - (halves m n).1 < e := by
 obtain ⟨k, hk⟩ := arch (e / 2) (by grind)
 refine ⟨k, fun n hn => ?_⟩
 have h1 := hk n hn
 have h2 := (halves_good hm n).2.2
 have p : (0 : Rat) < ((2 ^ n : Nat) : Rat) := Rat.natCast_pos.2 (Nat.two_pow_pos n)
 have : ¬ e ≤ (halves m n).2 - (halves m n).1 := by
  intro hle
  have := Rat.mul_nonneg (show (0 : Rat) ≤ ((halves m n).2 - (halves m n).1) - e by grind) (show (0 : Rat) ≤ ((2 ^ n : Nat) : Rat) by grind)
  grind
 grind
theorem halves_comes {m : Nat} (hm : 2 ≤ m) : (Comes fun n => (halves m n).1) ∧ (Comes fun n => (halves m n).2) ∧ Near (fun n => (halves m n).1) (fun n => (halves m n).2) := by
 refine ⟨fun e he => ?_, fun e he => ?_, fun e he => ?_⟩
 · obtain ⟨N, hN⟩ := halves_small hm e he
   refine ⟨N, fun i j hi hj => ?_⟩
   have h0 := hN N (Nat.le_refl _)
   obtain ⟨i', rfl⟩ := Nat.exists_eq_add_of_le hi
   obtain ⟨j', rfl⟩ := Nat.exists_eq_add_of_le hj
   have h1 := halves_in hm N i'
   have h2 := halves_in hm N j'
   show (halves m (N + i')).1 - (halves m (N + j')).1 < e
   grind
 · obtain ⟨N, hN⟩ := halves_small hm e he
   refine ⟨N, fun i j hi hj => ?_⟩
   have h0 := hN N (Nat.le_refl _)
   obtain ⟨i', rfl⟩ := Nat.exists_eq_add_of_le hi
   obtain ⟨j', rfl⟩ := Nat.exists_eq_add_of_le hj
   have h1 := halves_in hm N i'
   have h2 := halves_in hm N j'
   show (halves m (N + i')).2 - (halves m (N + j')).2 < e
   grind
 · obtain ⟨N, hN⟩ := halves_small hm e he
   refine ⟨N, fun n hn => ?_⟩
   have h0 := hN n hn
   have h1 := (halves_in hm n 0).2.2
   show (halves m n).1 - (halves m n).2 < e ∧ (halves m n).2 - (halves m n).1 < e
   simp only [Nat.add_zero] at h1
   grind
theorem Re.nonneg {f : Nat → Rat} {hf : Comes f} (h : ∀ n, 0 < f n) : ¬ Re.mk f hf < (0 : Re) := by
 rintro ⟨e, he, N, hN⟩
 have h1 := hN N (Nat.le_refl _)
 have h2 := h N
 change e < 0 - f N at h1
 grind
theorem Re.often {f : Nat → Rat} {hf : Comes f} (h : ∀ N, ∃ n, N ≤ n ∧ f n ≤ 0) : ¬ (0 : Re) < Re.mk f hf := by
 rintro ⟨e, he, N, hN⟩
 obtain ⟨n, hn, h2⟩ := h N
 have h1 := hN n hn
 change e < f n - 0 at h1
 grind
theorem often_one (m : Nat) (P : Nat → Nat → Prop) (h : ∀ n, ∃ k, 0 < k ∧ k ≤ m ∧ P k n) : ∃ k, 0 < k ∧ k ≤ m ∧ ∀ N, ∃ n, N ≤ n ∧ P k n := by
 refine Classical.byContradiction fun hc => ?_
 have hc' : ∀ k, 0 < k → k ≤ m → ∃ N, ∀ n, N ≤ n → ¬ P k n := by
  intro k h1 h2
  refine Classical.byContradiction fun g => hc ⟨k, h1, h2, fun N => Classical.byContradiction fun g2 => g ⟨N, fun n hn hp => g2 ⟨n, hn, hp⟩⟩⟩
 have : ∀ j, j ≤ m → ∃ N, ∀ k, 0 < k → k ≤ j → ∀ n, N ≤ n → ¬ P k n := by
  intro j
  induction j with
  | zero => exact fun _ => ⟨0, fun k h1 h2 => by omega⟩
  | succ j ih =>
   intro hj
   obtain ⟨N, hN⟩ := ih (by omega)
   obtain ⟨M, hM⟩ := hc' (j + 1) (by omega) hj
   refine ⟨max N M, fun k h1 h2 n hn => ?_⟩
   by_cases e : k = j + 1
   · subst e; exact hM n (by omega)
   · exact hN k h1 (by omega) n (by omega)
 obtain ⟨N, hN⟩ := this m (Nat.le_refl _)
 obtain ⟨k, h1, h2, h3⟩ := h N
 exact hN k h1 h2 N (Nat.le_refl _) h3
theorem cosine (m : Nat) (hm : 2 ≤ m) : ∃ c : Re, Angle c m := by
 obtain ⟨hl, hh, hn⟩ := halves_comes hm
 have hc : Re.mk _ hl = Re.mk _ hh := Quotient.sound hn
 have A : ∀ k, 0 < k → k ≤ m → ¬ us (Re.mk _ hh) k < (0 : Re) := by
  intro k h1 h2
  obtain ⟨h, e, _⟩ := Re.us _ hh k
  rw [e]
  exact Re.nonneg fun n => (halves_good hm n).2.1 k h1 h2
 obtain ⟨k0, p1, p2, p3⟩ := often_one m (fun k n => us (halves m n).1 k ≤ 0) (fun n => by
  have := (halves_good hm n).1
  simp only [Good, Classical.not_forall] at this
  obtain ⟨k, h1, h2, h3⟩ := this
  exact ⟨k, h1, h2, by grind⟩)
 have Z0 : us (Re.mk _ hh) k0 = 0 := by
  have h1 := A k0 p1 p2
  have h2 : ¬ (0 : Re) < us (Re.mk _ hh) k0 := by
   rw [← hc]
   obtain ⟨h, e, _⟩ := Re.us _ hl k0
   rw [e]
   exact Re.often p3
  rcases OR.lt_total (us (Re.mk _ hh) k0) 0 with h | h | h
  · exact (h1 h).elim
  · exact h
  · exact (h2 h).elim
 have hmin : ∃ k, us (Re.mk _ hh) k = 0 ∧ 0 < k ∧ k ≤ m ∧ ∀ j, 0 < j → j < k → us (Re.mk _ hh) j ≠ 0 := by
  have : ∀ n k, k ≤ n → us (Re.mk _ hh) k = 0 → 0 < k → k ≤ m → ∃ k, us (Re.mk _ hh) k = 0 ∧ 0 < k ∧ k ≤ m ∧ ∀ j, 0 < j → j < k → us (Re.mk _ hh) j ≠ 0 := by
   intro n
   induction n with
   | zero => intro k h1 _ h2; omega
   | succ n ih =>
    intro k h1 h2 h3 h4
    by_cases e : ∃ j, 0 < j ∧ j < k ∧ us (Re.mk _ hh) j = 0
    · obtain ⟨j, e1, e2, e3⟩ := e
      exact ih j (by omega) e3 e1 (by omega)
    · exact ⟨k, h2, h3, h4, fun j h5 h6 h7 => e ⟨j, h5, h6, h7⟩⟩
  exact this k0 k0 (Nat.le_refl _) Z0 p1 p2
 clear Z0 p1 p2 p3
 obtain ⟨k, q1, q2, q3, q4⟩ := hmin
 generalize hcc : Re.mk _ hh = c at *
 have pos : ∀ j, 0 < j → j < k → 0 < us c j := by
  intro j h1 h2
  rcases OR.lt_total (us c j) 0 with h | h | h
  · exact (A j h1 (by omega) h).elim
  · exact (q4 j h1 h2 h).elim
  · exact h
 have hk1 : k ≠ 1 := by
  rintro rfl
  have : us c 1 = (1 : Re) := rfl
  rw [this] at q1
  exact OR.one_ne q1
 have hkm : k = m := by
  rcases Nat.lt_or_ge k m with h | h
  · exfalso
    obtain ⟨j, rfl⟩ : ∃ j, k = j + 1 := ⟨k - 1, by omega⟩
    have h1 : us c (j + 2) = c * us c (j + 1) - us c j := rfl
    rw [q1, OR.mul_zero, OR.sub_eq, OR.zero_add] at h1
    have h2 := A (j + 2) (by omega) (by omega)
    rw [h1] at h2
    exact h2 (OR.neg_pos.1 (by rw [OR.neg_neg]; exact pos j (by omega) (by omega)))
  · omega
 subst hkm
 have hc2 : us c 2 = c := by
  show c * 1 - 0 = c
  rw [OR.mul_one, OR.sub_eq, OR.neg_zero, OR.add_zero]
 have two : (1 : Re) + 1 = Re.con 2 := Re.eq fun n => by show (1 : Rat) + 1 = 2; grind
 refine ⟨c, fun j h1 h2 => pos j h1 (by omega), fun _ => ⟨q1, ?_, ?_⟩, by omega⟩
 · rw [two]
   rcases OR.lt_total c (Re.con 2) with h | h | h
   · exact h
   · exfalso
     obtain ⟨h', e, _⟩ := Re.us (fun _ => 2) (Comes.const 2) k
     have e2 : us (Re.con 2) k = us (Re.mk (fun _ => 2) (Comes.const 2)) k := rfl
     rw [← h, q1, e] at e2
     have : (0 : Re) < Re.mk (fun _ => us (2 : Rat) k) h' := by
      refine ⟨1/2, by grind, 0, fun n hn => ?_⟩
      show (1 : Rat)/2 < us (2 : Rat) k - 0
      rw [(us_two k).1]
      have h5 : ((1 : Nat) : Rat) ≤ (k : Rat) := Rat.natCast_le_natCast.2 (by omega)
      have h6 : ((1 : Nat) : Rat) = 1 := rfl
      grind
     rw [← e2] at this
     exact OR.lt_irrefl _ this
   · exfalso
     rw [← hcc] at h
     obtain ⟨e, he, N, hN⟩ := h
     have h1 := hN N (Nat.le_refl _)
     have h2 := (halves_in (by omega : 2 ≤ k) 0 N).2.1
     simp only [halves, Nat.zero_add] at h2
     grind
 · rw [OR.le_iff]
   by_cases e : k = 2
   · right
     rw [← hc2, ← e, q1]
   · left
     rw [← hc2]
     exact pos 2 (by omega) (by omega)
theorem parallel : Angle (1 + 1 : Re) 0 := by
 refine ⟨fun k h _ => ?_, fun h => (h rfl).elim, by omega⟩
 have two : (1 : Re) + 1 = Re.con 2 := Re.eq fun n => by show (1 : Rat) + 1 = 2; grind
 rw [two]
 obtain ⟨h', e, _⟩ := Re.us (fun _ => 2) (Comes.const 2) k
 have e2 : us (Re.con 2) k = us (Re.mk (fun _ => 2) (Comes.const 2)) k := rfl
 rw [e2, e]
 refine ⟨1/2, by grind, 0, fun n hn => ?_⟩
 show (1 : Rat)/2 < us (2 : Rat) k - 0
 rw [(us_two k).1]
 have h5 : ((1 : Nat) : Rat) ≤ (k : Rat) := Rat.natCast_le_natCast.2 (by omega)
 have h6 : ((1 : Nat) : Rat) = 1 := rfl
 grind
theorem cosine_any (m : Nat) (hm : m ≠ 1) : ∃ c : Re, Angle c m := by
 by_cases h : m = 0
 · subst h; exact ⟨_, parallel⟩
 · exact cosine m (by omega)
end Go.Proofs.Ytkndmibmmoikbaa.Cox
