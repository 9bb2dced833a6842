/- Chapter 10: CoxB CoxC. -/
import Derived.Test.YtkndmibmmoikbaaD00
set_option linter.all false
set_option maxRecDepth 100000
set_option maxHeartbeats 16000000
set_option linter.unusedSectionVars false
set_option linter.unusedVariables false
namespace Go.Proofs.Ytkndmibmmoikbaa.Cox
section
variable {K : Type} [OR K]
variable (W : Tri K)
theorem turn0 (w : List (Fin 3)) : pi W (w ++ w.reverse) = pi W [] := pi_turn W w
theorem turn1 (w : List (Fin 3)) : pi W (w.reverse ++ w) = pi W [] := pi_turn' W w
theorem pi_rev {u v : List (Fin 3)} (h : pi W u = pi W v) : pi W u.reverse = pi W v.reverse := by
 have h1 : pi W (u.reverse ++ (v ++ v.reverse)) = pi W (u.reverse ++ []) := pi_left W (turn0 W v) _
 have h2 : pi W (u.reverse ++ u ++ v.reverse) = pi W (u.reverse ++ v ++ v.reverse) := pi_middle W h _ _
 have h3 : pi W (u.reverse ++ u ++ v.reverse) = pi W ([] ++ v.reverse) := pi_right W (turn1 W u) _
 simp only [List.append_nil, List.nil_append, List.append_assoc] at h1 h2 h3
 rw [← h1, ← h2, h3]
theorem len_rev (w : List (Fin 3)) : len W w.reverse = len W w := by
 have key : ∀ u : List (Fin 3), len W u.reverse ≤ len W u := fun u => by
  obtain ⟨⟨v, hv, ev⟩, _⟩ := len_spec W u
  have := (len_spec W u.reverse).2 v.reverse (pi_rev W ev)
  simpa [hv] using this
 have a := key w
 have b := key w.reverse
 rw [List.reverse_reverse] at b
 omega
theorem len_add (u v : List (Fin 3)) : len W (u ++ v) ≤ len W u + len W v := by
 obtain ⟨⟨v', hv, ev⟩, _⟩ := len_spec W v
 have := len_append_le W u v'
 rw [len_congr W (pi_left W ev u)] at this
 omega
def Bl (u v : List (Fin 3)) : Prop := len W u + len W (u.reverse ++ v) = len W v
theorem Bl.refl (u : List (Fin 3)) : Bl W u u := by
 unfold Bl
 rw [len_congr W (turn1 W u), len_nil]; rfl
theorem Bl.congr {u u' v v' : List (Fin 3)} (hu : pi W u = pi W u') (hv : pi W v = pi W v') (h : Bl W u v) : Bl W u' v' := by
 unfold Bl at *
 rw [← len_congr W hu, ← len_congr W hv, ← h]
 congr 1
 refine len_congr W ?_
 rw [pi_right W (pi_rev W hu.symm) v', pi_left W hv.symm u.reverse]
theorem Bl.trans {u v z : List (Fin 3)} (h : Bl W u v) (g : Bl W v z) : Bl W u z := by
 unfold Bl at *
 have h1 : pi W (u.reverse ++ z) = pi W ((u.reverse ++ v) ++ (v.reverse ++ z)) := by
  have : pi W (u.reverse ++ (v ++ v.reverse) ++ z) = pi W (u.reverse ++ [] ++ z) := pi_middle W (turn0 W v) _ _
  simp only [List.append_nil, List.append_assoc] at this ⊢
  exact this.symm
 have h2 := len_add W (u.reverse ++ v) (v.reverse ++ z)
 rw [← len_congr W h1] at h2
 have h3 : len W z ≤ len W u + len W (u.reverse ++ z) := by
  have := len_add W u (u.reverse ++ z)
  rw [← List.append_assoc, len_congr W (pi_right W (turn0 W u) z)] at this
  simpa using this
 omega
theorem Bl.of_way {u v : List (Fin 3)} (h : len W (u ++ v) = len W u + v.length) : Bl W u (u ++ v) := by
 unfold Bl
 have h1 : pi W (u.reverse ++ (u ++ v)) = pi W v := by
  rw [← List.append_assoc]
  have := pi_right W (turn1 W u) v
  simpa using this
 rw [len_congr W h1]
 have h2 := len_add W u v
 have h3 := len_le W v
 omega
theorem row_mul (z x : List (Fin 3)) (s i : Fin 3) : pi W (z ++ x) s i = pi W z 0 i * pi W x s 0 + pi W z 1 i * pi W x s 1 + pi W z 2 i * pi W x s 2 := by
 rw [pi_append]; rfl
theorem down_of_neg {w : List (Fin 3)} {s : Fin 3} (h : ∀ i, pi W w s i ≤ 0) : Down W w s := by
 refine Classical.byContradiction fun hn => ?_
 have hp := root_pos W _ w s rfl hn
 obtain ⟨i, hi⟩ := column W w s
 exact hi (OR.le_antisymm (h i) (hp i))
theorem up_of_pos {w : List (Fin 3)} {s : Fin 3} (h : ∀ i, 0 ≤ pi W w s i) : ¬ Down W w s := by
 intro hn
 obtain ⟨i, hi⟩ := column W w s
 exact hi (OR.le_antisymm (root_neg W hn i) (h i))
theorem one_row (t i : Fin 3) (h : i ≠ t) (x : List (Fin 3)) (s : Fin 3) : pi W ([t] ++ x) s i = pi W x s i := by
 rw [row_mul]
 have e : ∀ k : Fin 3, pi W [t] k i = one k i := by
  intro k
  have : pi W [t] k i = one k i + W.c t k * one t i := rfl
  rw [this]
  have h0 : (one t i : K) = 0 := by unfold one; rw [if_neg (Ne.symm h)]
  rw [h0, OR.mul_zero, OR.add_zero]
 rw [e, e, e]
 generalize pi W x s = r
 match i with
 | 0 => exact (OR.ring [r 0, r 1, r 2] (.add (.add (.mul .o (.v 0)) (.mul .z (.v 1))) (.mul .z (.v 2))) (.v 0) (by decide +kernel))
 | 1 => exact (OR.ring [r 0, r 1, r 2] (.add (.add (.mul .z (.v 0)) (.mul .o (.v 1))) (.mul .z (.v 2))) (.v 1) (by decide +kernel))
 | 2 => exact (OR.ring [r 0, r 1, r 2] (.add (.add (.mul .z (.v 0)) (.mul .z (.v 1))) (.mul .o (.v 2))) (.v 2) (by decide +kernel))
theorem crossed {x : List (Fin 3)} {s t : Fin 3} (h1 : ¬ Down W x s) (h2 : Down W ([t] ++ x) s) (z : List (Fin 3)) : Down W (z ++ x) s ↔ Down W z t := by
 have hz : ∀ i, i ≠ t → pi W x s i = 0 := fun i hi => by
  have a := root_pos W _ x s rfl h1 i
  have b := root_neg W h2 i
  rw [one_row W t i hi] at b
  exact OR.le_antisymm b a
 have hr : ∀ i, pi W (z ++ x) s i = pi W z t i * pi W x s t := by
  intro i
  rw [row_mul]
  have h0 := hz 0
  have h1' := hz 1
  have h2' := hz 2
  match t with
  | 0 =>
   rw [h1' (by decide), h2' (by decide)]
   exact (OR.ring [pi W z 0 i, pi W z 1 i, pi W z 2 i, pi W x s 0] (.add (.add (.mul (.v 0) (.v 3)) (.mul (.v 1) .z)) (.mul (.v 2) .z)) (.mul (.v 0) (.v 3)) (by decide +kernel))
  | 1 =>
   rw [h0 (by decide), h2' (by decide)]
   exact (OR.ring [pi W z 0 i, pi W z 1 i, pi W z 2 i, pi W x s 1] (.add (.add (.mul (.v 0) .z) (.mul (.v 1) (.v 3))) (.mul (.v 2) .z)) (.mul (.v 1) (.v 3)) (by decide +kernel))
  | 2 =>
   rw [h0 (by decide), h1' (by decide)]
   exact (OR.ring [pi W z 0 i, pi W z 1 i, pi W z 2 i, pi W x s 2] (.add (.add (.mul (.v 0) .z) (.mul (.v 1) .z)) (.mul (.v 2) (.v 3))) (.mul (.v 2) (.v 3)) (by decide +kernel))
 have hp := root_pos W _ x s rfl h1 t
 constructor
 · intro h
   refine Classical.byContradiction fun hn => ?_
   have hq := root_pos W _ z t rfl hn
   exact up_of_pos W (fun i => by rw [hr]; exact OR.mul_nn (hq i) hp) h
 · intro h
   refine down_of_neg W fun i => ?_
   rw [hr]
   have a := root_neg W h i
   have := OR.mul_nn (OR.neg_nn.2 a) hp
   rw [OR.neg_mul] at this
   exact OR.neg_nn.1 this
theorem crosses (y : List (Fin 3)) : ∀ (x : List (Fin 3)) (s : Fin 3), ¬ Down W x s → Down W (y.reverse ++ x) s →
 ∃ a t b, y = a ++ t :: b ∧ ∀ u : List (Fin 3), Down W (u.reverse ++ x) s ↔ Down W (u.reverse ++ a) t := by
 induction y with
 | nil => intro x s h1 h2; exact (h1 (by simpa using h2)).elim
 | cons t y ih =>
  intro x s h1 h2
  by_cases h3 : Down W ([t] ++ x) s
  · exact ⟨[], t, y, rfl, fun u => by rw [List.append_nil]; exact crossed W h1 h3 _⟩
  · rw [List.reverse_cons, List.append_assoc] at h2
    obtain ⟨a, t', b, rfl, hu⟩ := ih ([t] ++ x) s h3 h2
    refine ⟨t :: a, t', b, rfl, fun u => ?_⟩
    have := hu (t :: u)
    rw [List.reverse_cons] at this
    have e : pi W (u.reverse ++ [t] ++ ([t] ++ x)) = pi W (u.reverse ++ x) := by
     have h := pi_right W (pi_back W u.reverse t) x
     simpa using h
    rw [down_congr W e] at this
    rw [this]
    simp
theorem beyond {u y : List (Fin 3)} (h : Bl W u y) {x : List (Fin 3)} {s : Fin 3} (h1 : ¬ Down W x s) (h2 : Down W (u.reverse ++ x) s) : Down W (y.reverse ++ x) s := by
 obtain ⟨⟨u', lu, eu⟩, _⟩ := len_spec W u
 obtain ⟨⟨v, lv, ev⟩, _⟩ := len_spec W (u.reverse ++ y)
 have h2' : Down W (u'.reverse ++ x) s := (down_congr W (pi_right W (pi_rev W eu) x) s).2 h2
 obtain ⟨a, t, b, rfl, hu⟩ := crosses W u' x s h1 h2'
 have ey : pi W (a ++ t :: b ++ v) = pi W y := by
  rw [pi_left W ev, pi_right W eu, ← List.append_assoc]
  have := pi_right W (turn0 W u) y
  simpa using this
 have hy : Down W (y.reverse ++ x) s ↔ Down W ((a ++ t :: b ++ v).reverse ++ x) s := down_congr W (pi_right W (pi_rev W ey.symm) x) s
 rw [hy, hu]
 have e1 : pi W ((a ++ t :: b ++ v).reverse ++ a) = pi W ((b ++ v).reverse ++ [t]) := by
  have : (a ++ t :: b ++ v).reverse ++ a = ((b ++ v).reverse ++ [t]) ++ (a.reverse ++ a) := by simp
  rw [this, pi_left W (turn1 W a)]
  simp
 rw [down_congr W e1, down_snoc]
 intro hd
 have e2 : len W ((b ++ v).reverse ++ [t]) + 1 = len W (b ++ v).reverse := hd
 have e3 : (b ++ v).reverse ++ [t] = (t :: (b ++ v)).reverse := by simp
 rw [e3, len_rev, len_rev] at e2
 have e4 := len_le W (b ++ v)
 have e5 := len_add W a (t :: (b ++ v))
 have e6 : a ++ t :: (b ++ v) = a ++ t :: b ++ v := by simp
 rw [e6, len_congr W ey] at e5
 have e7 := len_le W a
 have e8 : len W u + len W (u.reverse ++ y) = len W y := h
 simp only [List.length_append, List.length_cons] at lu e4
 omega
noncomputable def sig (u : List (Fin 3)) : List (Fin 3) → List (Fin 3) → List Bool
 | _, [] => []
 | p, t :: y => (@decide (Down W (u.reverse ++ p) t) (Classical.propDecidable _)) :: sig u (p ++ [t]) y
theorem sig_length (u y : List (Fin 3)) : ∀ p, (sig W u p y).length = y.length := by
 induction y with
 | nil => intro p; rfl
 | cons t y ih => intro p; simp [sig, ih]
theorem sig_at {u u' : List (Fin 3)} (y : List (Fin 3)) : ∀ p, sig W u p y = sig W u' p y → ∀ a t b, y = a ++ t :: b → (Down W (u.reverse ++ (p ++ a)) t ↔ Down W (u'.reverse ++ (p ++ a)) t) := by
 induction y with
 | nil => intro p _ a t b h; simp at h
 | cons r y ih =>
  intro p h a t b hy
  simp only [sig, List.cons.injEq] at h
  cases a with
  | nil =>
   simp only [List.nil_append, List.cons.injEq] at hy
   obtain ⟨rfl, rfl⟩ := hy
   rw [List.append_nil]
   have := h.1
   exact @decide_eq_decide _ _ (Classical.propDecidable _) (Classical.propDecidable _) |>.1 this
  | cons a0 a =>
   simp only [List.cons_append, List.cons.injEq] at hy
   obtain ⟨rfl, rfl⟩ := hy
   have := ih _ h.2 a t b rfl
   simpa using this
theorem sig_inj {u u' y : List (Fin 3)} (h : Bl W u y) (h' : Bl W u' y) (hs : sig W u [] y = sig W u' [] y) : pi W u = pi W u' := by
 have hs' := sig_at W y [] hs
 simp only [List.nil_append] at hs'
 refine Classical.byContradiction fun hne => ?_
 have hl : len W (u'.reverse ++ u) ≠ 0 := by
  intro h0
  have h1 := len_zero W h0
  have h2 : pi W (u' ++ (u'.reverse ++ u)) = pi W (u' ++ []) := pi_left W (by rw [h1]; rfl) u'
  rw [← List.append_assoc, pi_right W (turn0 W u') u] at h2
  simp only [List.nil_append, List.append_nil] at h2
  exact hne h2
 obtain ⟨s, hd, _⟩ := cand_one W hl
 have hnil : ∀ t, ¬ Down W [] t := by
  intro i h
  unfold Down at h
  rw [len_nil] at h; omega
 have hu : ¬ Down W (u.reverse ++ u) s := by
  rw [down_congr W (turn1 W u)]; exact hnil s
 by_cases hx : Down W u s
 · have hx1 : ¬ Down W (u ++ [s]) s := by rw [down_snoc]; exact fun g => g hx
   have hx2 : Down W (u.reverse ++ (u ++ [s])) s := by
    rw [← List.append_assoc, down_snoc]; exact hu
   obtain ⟨a, t, b, hy, hc⟩ := crosses W y (u ++ [s]) s hx1 (beyond W h hx1 hx2)
   have h1 := (hc u).1 hx2
   have h2 := (hc u').2 ((hs' a t b hy).1 h1)
   rw [← List.append_assoc, down_snoc] at h2
   exact h2 hd
 · obtain ⟨a, t, b, hy, hc⟩ := crosses W y u s hx (beyond W h' hx hd)
   have h1 := (hc u').1 hd
   exact hu ((hc u).2 ((hs' a t b hy).2 h1))
end
end Go.Proofs.Ytkndmibmmoikbaa.Cox
set_option linter.unusedSectionVars false
set_option linter.unusedVariables false
namespace Go.Proofs.Ytkndmibmmoikbaa.Cox
def Phi : Nat → Nat → Nat
 | 0, _ => 1
 | _ + 1, 0 => 1
 | d + 1, n + 1 => Phi (d + 1) n + Phi d n
theorem phi_le (n : Nat) : ∀ d, Phi d n ≤ (n + 1) ^ d := by
 induction n with
 | zero => intro d; cases d <;> simp [Phi]
 | succ n ih =>
  intro d
  cases d with
  | zero => simp [Phi]
  | succ d =>
   have a := ih (d + 1)
   have b := ih d
   have e : (n + 1 + 1) ^ (d + 1) = (n + 1 + 1) ^ d * (n + 1) + (n + 1 + 1) ^ d := by rw [Nat.pow_succ, Nat.mul_add, Nat.mul_one]
   have c : (n + 1) ^ d ≤ (n + 1 + 1) ^ d := Nat.pow_le_pow_left (by omega) d
   have f : (n + 1) ^ (d + 1) ≤ (n + 1 + 1) ^ d * (n + 1) := by
    rw [Nat.pow_succ]; exact Nat.mul_le_mul_right _ c
   show Phi (d + 1) n + Phi d n ≤ _
   omega
theorem phi_mono (d : Nat) : ∀ {n k : Nat}, n ≤ k → Phi d n ≤ Phi d k := by
 intro n k h
 obtain ⟨j, rfl⟩ : ∃ j, k = n + j := ⟨k - n, by omega⟩
 induction j with
 | zero => exact Nat.le_refl _
 | succ j ih =>
  refine Nat.le_trans (ih (by omega)) ?_
  cases d with
  | zero => simp [Phi]
  | succ d => show _ ≤ Phi (d + 1) (n + j) + Phi d (n + j); omega
def shat : Nat → Nat → (List Bool → Prop) → Prop
 | 0, _, S => ∃ t, S t
 | _ + 1, 0, _ => False
 | d + 1, n + 1, S => shat (d + 1) n (fun t => ∃ b, S (b :: t)) ∨ shat d n (fun t => ∀ b, S (b :: t))
theorem shat_places : ∀ (n d : Nat) (S : List Bool → Prop), shat d n S → ∃ is : List Nat, is.length = d ∧ (∀ i, i ∈ is → i < n) ∧ ∀ bs : List Bool, bs.length = d → ∃ t, S t ∧ is.map (fun i => t.getD i false) = bs := by
 intro n
 induction n with
 | zero =>
  intro d S h
  cases d with
  | zero =>
   obtain ⟨t, ht⟩ := h
   exact ⟨[], rfl, by simp, fun bs hb => ⟨t, ht, (List.eq_nil_of_length_eq_zero hb).symm⟩⟩
  | succ d => exact h.elim
 | succ n ih =>
  intro d S h
  cases d with
  | zero =>
   obtain ⟨t, ht⟩ := h
   exact ⟨[], rfl, by simp, fun bs hb => ⟨t, ht, (List.eq_nil_of_length_eq_zero hb).symm⟩⟩
  | succ d =>
   rcases h with h | h
   · obtain ⟨is, h1, h2, h3⟩ := ih (d + 1) _ h
     refine ⟨is.map (· + 1), by simpa using h1, fun i hi => ?_, fun bs hb => ?_⟩
     · obtain ⟨j, hj, rfl⟩ := List.mem_map.1 hi
       have := h2 j hj; omega
     · obtain ⟨t, ⟨b, hb'⟩, ht⟩ := h3 bs hb
       refine ⟨b :: t, hb', ?_⟩
       rw [List.map_map]
       exact ht
   · obtain ⟨is, h1, h2, h3⟩ := ih d _ h
     refine ⟨0 :: is.map (· + 1), by simpa using h1, fun i hi => ?_, fun bs hb => ?_⟩
     · rcases List.mem_cons.1 hi with rfl | hi
       · omega
       · obtain ⟨j, hj, rfl⟩ := List.mem_map.1 hi
         have := h2 j hj; omega
     · cases bs with
       | nil => simp at hb
       | cons b bs =>
        obtain ⟨t, ht0, ht⟩ := h3 bs (by simpa using hb)
        refine ⟨b :: t, ht0 b, ?_⟩
        rw [List.map_cons, List.map_map]
        exact congrArg (b :: ·) ht
theorem nodup_split (a b : List (List Bool)) (ha : a.Nodup) (hb : b.Nodup) : (a ++ b.filter fun x => decide (x ∉ a)).Nodup := by
 rw [List.nodup_append]
 refine ⟨ha, hb.filter _, fun x hx y hy => ?_⟩
 rintro rfl
 have := (List.mem_filter.1 hy).2
 simp [hx] at this
theorem nodup_map {α β : Type} (f : α → β) (l : List α) (h : ∀ x, x ∈ l → ∀ y, y ∈ l → f x = f y → x = y) (hn : l.Nodup) : (l.map f).Nodup := by
 induction l with
 | nil => simp
 | cons a l ih =>
  rw [List.nodup_cons] at hn
  rw [List.map_cons, List.nodup_cons]
  refine ⟨fun hm => ?_, ih (fun x hx y hy => h x (by simp [hx]) y (by simp [hy])) hn.2⟩
  obtain ⟨x, hx, he⟩ := List.mem_map.1 hm
  have := h x (by simp [hx]) a (by simp) he
  subst this
  exact hn.1 hx
theorem filter_both {α : Type} (p : α → Bool) (l : List α) : (l.filter p).length + (l.filter fun x => !p x).length = l.length := by
 induction l with
 | nil => rfl
 | cons x l ih => cases h : p x <;> simp [h] <;> omega
theorem few : ∀ (n d : Nat) (S : List Bool → Prop) (L : List (List Bool)), L.Nodup → (∀ t, t ∈ L → t.length = n ∧ S t) → ¬ shat (d + 1) n S → L.length ≤ Phi d n := by
 intro n
 induction n with
 | zero =>
  intro d S L hn hL _
  have h1 : Phi d 0 = 1 := by cases d <;> rfl
  rw [h1]
  match L, hn, hL with
  | [], _, _ => simp
  | [_], _, _ => simp
  | a :: b :: L, hn, hL =>
   have ha := List.eq_nil_of_length_eq_zero (hL a (by simp)).1
   have hb := List.eq_nil_of_length_eq_zero (hL b (by simp)).1
   subst ha hb
   simp at hn
 | succ n ih =>
  intro d S L hn hL hs
  have hs1 : ¬ shat (d + 1) n (fun t => ∃ b, S (b :: t)) := fun h => hs (.inl h)
  have hs2 : ¬ shat d n (fun t => ∀ b, S (b :: t)) := fun h => hs (.inr h)
  have hhead : ∀ t, t ∈ L → t = t.headD false :: t.tail := by
   intro t ht
   have := (hL t ht).1
   cases t with
   | nil => simp at this
   | cons b t => rfl
  let M := fun b => (L.filter fun t => t.headD false == b).map List.tail
  have hM : ∀ b t, t ∈ M b → t.length = n ∧ S (b :: t) := by
   intro b t ht
   obtain ⟨r, hr, rfl⟩ := List.mem_map.1 ht
   obtain ⟨hr1, hr2⟩ := List.mem_filter.1 hr
   have h1 := hL r hr1
   have h2 := hhead r hr1
   have h3 : r.headD false = b := by simpa using hr2
   rw [h3] at h2
   refine ⟨by rw [List.length_tail]; omega, ?_⟩
   rw [← h2]; exact h1.2
  have hMn : ∀ b, (M b).Nodup := by
   intro b
   refine nodup_map _ _ ?_ (hn.filter _)
   intro x hx y hy hxy
   obtain ⟨hx1, hx2⟩ := List.mem_filter.1 hx
   obtain ⟨hy1, hy2⟩ := List.mem_filter.1 hy
   rw [hhead x hx1, hhead y hy1, hxy]
   have a : x.headD false = b := by simpa using hx2
   have c : y.headD false = b := by simpa using hy2
   rw [a, c]
  have hlen : (M true).length + (M false).length = L.length := by
   have := filter_both (fun t : List Bool => t.headD false == true) L
   simp only [M, List.length_map]
   rw [← this]
   congr 2
   refine List.filter_congr fun t _ => ?_
   cases t.headD false <;> rfl
  have hu : (M true ++ (M false).filter fun x => decide (x ∉ M true)).length ≤ Phi d n := by
   refine ih d _ _ (nodup_split _ _ (hMn true) (hMn false)) (fun t ht => ?_) hs1
   rcases List.mem_append.1 ht with ht | ht
   · exact ⟨(hM true t ht).1, true, (hM true t ht).2⟩
   · have ht := (List.mem_filter.1 ht).1
     exact ⟨(hM false t ht).1, false, (hM false t ht).2⟩
  have hsplit := filter_both (fun x => decide (x ∉ M true)) (M false)
  have hi : ∀ t, t ∈ (M false).filter (fun x => !decide (x ∉ M true)) → t.length = n ∧ ∀ b, S (b :: t) := by
   intro t ht
   obtain ⟨h1, h2⟩ := List.mem_filter.1 ht
   have h3 : t ∈ M true := by simpa using h2
   refine ⟨(hM false t h1).1, fun b => ?_⟩
   cases b
   · exact (hM false t h1).2
   · exact (hM true t h3).2
  rw [List.length_append] at hu
  cases d with
  | zero =>
   have h0 : (M false).filter (fun x => !decide (x ∉ M true)) = [] := by
    refine List.eq_nil_iff_forall_not_mem.2 fun t ht => hs2 (by cases n <;> exact ⟨t, (hi t ht).2⟩)
   rw [h0] at hsplit
   simp only [List.length_nil] at hsplit
   have h1 : Phi 0 n = 1 := by cases n <;> rfl
   have h2 : Phi 0 (n + 1) = 1 := rfl
   omega
  | succ d =>
   have := ih d _ _ ((hMn false).filter _) hi hs2
   show L.length ≤ Phi (d + 1) n + Phi d n
   omega
section
variable {K : Type} [OR K]
theorem rel_two (a b : Fin 3 → K) (h01 : a 0 * b 1 - a 1 * b 0 = 0) (h02 : a 0 * b 2 - a 2 * b 0 = 0) (h12 : a 1 * b 2 - a 2 * b 1 = 0) :
 ∃ p q : K, ¬ (p = 0 ∧ q = 0) ∧ ∀ i, p * a i + q * b i = 0 := by
 by_cases z : ∀ i, a i = 0
 · exact ⟨1, 0, fun h => OR.one_ne h.1, fun i => by rw [z i, OR.mul_zero, OR.zero_mul, OR.add_zero]⟩
 · have : ∃ i, a i ≠ 0 := Classical.byContradiction fun h => z fun i => Classical.byContradiction fun g => h ⟨i, g⟩
   obtain ⟨i, hi⟩ := this
   refine ⟨-(b i), a i, fun h => hi h.2, fun k => ?_⟩
   have key : a i * b k - a k * b i = 0 := by
    have self : ∀ x y : K, x * y - x * y = 0 := fun x y => (OR.ring [x, y] (.sub (.mul (.v 0) (.v 1)) (.mul (.v 0) (.v 1))) .z (by decide +kernel))
    have flip : ∀ x y u v : K, x * y - u * v = 0 → u * v - x * y = 0 := fun x y u v h => by
     rw [OR.eq_of_sub h]; exact self u v
    match i, k with
    | 0, 0 => exact self _ _
    | 0, 1 => exact h01
    | 0, 2 => exact h02
    | 1, 0 => exact flip _ _ _ _ h01
    | 1, 1 => exact self _ _
    | 1, 2 => exact h12
    | 2, 0 => exact flip _ _ _ _ h02
    | 2, 1 => exact flip _ _ _ _ h12
    | 2, 2 => exact self _ _
   have e : -(b i) * a k + a i * b k = a i * b k - a k * b i := (OR.ring [b i, a k, a i, b k] (.add (.mul (.neg (.v 0)) (.v 1)) (.mul (.v 2) (.v 3))) (.sub (.mul (.v 2) (.v 3)) (.mul (.v 1) (.v 0))) (by decide +kernel))
   rw [e, key]
theorem rel_four (a b c d : Fin 3 → K) : ∃ p q r s : K, ¬ (p = 0 ∧ q = 0 ∧ r = 0 ∧ s = 0) ∧ ∀ i, p * a i + q * b i + r * c i + s * d i = 0 := by
 by_cases hD : a 0 * (b 1 * c 2 - b 2 * c 1) - a 1 * (b 0 * c 2 - b 2 * c 0) + a 2 * (b 0 * c 1 - b 1 * c 0) = 0
 · -- three rows depend on each other
   have key : ∃ p q r : K, ¬ (p = 0 ∧ q = 0 ∧ r = 0) ∧ ∀ i, p * a i + q * b i + r * c i = 0 := by
    by_cases m01 : a 0 * b 1 - a 1 * b 0 = 0
    · by_cases m02 : a 0 * b 2 - a 2 * b 0 = 0
      · by_cases m12 : a 1 * b 2 - a 2 * b 1 = 0
        · obtain ⟨p, q, hpq, h⟩ := rel_two a b m01 m02 m12
          exact ⟨p, q, 0, fun h => hpq ⟨h.1, h.2.1⟩, fun i => by rw [h i, OR.zero_mul, OR.add_zero]⟩
        ·
         refine ⟨b 1 * c 2 - b 2 * c 1, c 1 * a 2 - c 2 * a 1, a 1 * b 2 - a 2 * b 1, fun h => m12 h.2.2, fun k => ?_⟩
         match k with
         | 0 =>
          have e : (b 1 * c 2 - b 2 * c 1) * a 0 + (c 1 * a 2 - c 2 * a 1) * b 0 + (a 1 * b 2 - a 2 * b 1) * c 0 = (a 0 * (b 1 * c 2 - b 2 * c 1) - a 1 * (b 0 * c 2 - b 2 * c 0) + a 2 * (b 0 * c 1 - b 1 * c 0)) := (OR.ring [a 0, a 1, a 2, b 0, b 1, b 2, c 0, c 1, c 2] (.add (.add (.mul (.sub (.mul (.v 4) (.v 8)) (.mul (.v 5) (.v 7))) (.v 0)) (.mul (.sub (.mul (.v 7) (.v 2)) (.mul (.v 8) (.v 1))) (.v 3))) (.mul (.sub (.mul (.v 1) (.v 5)) (.mul (.v 2) (.v 4))) (.v 6))) (.add (.sub (.mul (.v 0) (.sub (.mul (.v 4) (.v 8)) (.mul (.v 5) (.v 7)))) (.mul (.v 1) (.sub (.mul (.v 3) (.v 8)) (.mul (.v 5) (.v 6))))) (.mul (.v 2) (.sub (.mul (.v 3) (.v 7)) (.mul (.v 4) (.v 6))))) (by decide +kernel))
          rw [e, hD]
         | 1 =>
          have e : (b 1 * c 2 - b 2 * c 1) * a 1 + (c 1 * a 2 - c 2 * a 1) * b 1 + (a 1 * b 2 - a 2 * b 1) * c 1 = 0 := (OR.ring [a 0, a 1, a 2, b 0, b 1, b 2, c 0, c 1, c 2] (.add (.add (.mul (.sub (.mul (.v 4) (.v 8)) (.mul (.v 5) (.v 7))) (.v 1)) (.mul (.sub (.mul (.v 7) (.v 2)) (.mul (.v 8) (.v 1))) (.v 4))) (.mul (.sub (.mul (.v 1) (.v 5)) (.mul (.v 2) (.v 4))) (.v 7))) .z (by decide +kernel))
          exact e
         | 2 =>
          have e : (b 1 * c 2 - b 2 * c 1) * a 2 + (c 1 * a 2 - c 2 * a 1) * b 2 + (a 1 * b 2 - a 2 * b 1) * c 2 = 0 := (OR.ring [a 0, a 1, a 2, b 0, b 1, b 2, c 0, c 1, c 2] (.add (.add (.mul (.sub (.mul (.v 4) (.v 8)) (.mul (.v 5) (.v 7))) (.v 2)) (.mul (.sub (.mul (.v 7) (.v 2)) (.mul (.v 8) (.v 1))) (.v 5))) (.mul (.sub (.mul (.v 1) (.v 5)) (.mul (.v 2) (.v 4))) (.v 8))) .z (by decide +kernel))
          exact e
      ·
       refine ⟨b 0 * c 2 - b 2 * c 0, c 0 * a 2 - c 2 * a 0, a 0 * b 2 - a 2 * b 0, fun h => m02 h.2.2, fun k => ?_⟩
       match k with
       | 0 =>
        have e : (b 0 * c 2 - b 2 * c 0) * a 0 + (c 0 * a 2 - c 2 * a 0) * b 0 + (a 0 * b 2 - a 2 * b 0) * c 0 = 0 := (OR.ring [a 0, a 1, a 2, b 0, b 1, b 2, c 0, c 1, c 2] (.add (.add (.mul (.sub (.mul (.v 3) (.v 8)) (.mul (.v 5) (.v 6))) (.v 0)) (.mul (.sub (.mul (.v 6) (.v 2)) (.mul (.v 8) (.v 0))) (.v 3))) (.mul (.sub (.mul (.v 0) (.v 5)) (.mul (.v 2) (.v 3))) (.v 6))) .z (by decide +kernel))
        exact e
       | 1 =>
        have e : (b 0 * c 2 - b 2 * c 0) * a 1 + (c 0 * a 2 - c 2 * a 0) * b 1 + (a 0 * b 2 - a 2 * b 0) * c 1 = -(a 0 * (b 1 * c 2 - b 2 * c 1) - a 1 * (b 0 * c 2 - b 2 * c 0) + a 2 * (b 0 * c 1 - b 1 * c 0)) := (OR.ring [a 0, a 1, a 2, b 0, b 1, b 2, c 0, c 1, c 2] (.add (.add (.mul (.sub (.mul (.v 3) (.v 8)) (.mul (.v 5) (.v 6))) (.v 1)) (.mul (.sub (.mul (.v 6) (.v 2)) (.mul (.v 8) (.v 0))) (.v 4))) (.mul (.sub (.mul (.v 0) (.v 5)) (.mul (.v 2) (.v 3))) (.v 7))) (.neg (.add (.sub (.mul (.v 0) (.sub (.mul (.v 4) (.v 8)) (.mul (.v 5) (.v 7)))) (.mul (.v 1) (.sub (.mul (.v 3) (.v 8)) (.mul (.v 5) (.v 6))))) (.mul (.v 2) (.sub (.mul (.v 3) (.v 7)) (.mul (.v 4) (.v 6)))))) (by decide +kernel))
        rw [e, hD, OR.neg_zero]
       | 2 =>
        have e : (b 0 * c 2 - b 2 * c 0) * a 2 + (c 0 * a 2 - c 2 * a 0) * b 2 + (a 0 * b 2 - a 2 * b 0) * c 2 = 0 := (OR.ring [a 0, a 1, a 2, b 0, b 1, b 2, c 0, c 1, c 2] (.add (.add (.mul (.sub (.mul (.v 3) (.v 8)) (.mul (.v 5) (.v 6))) (.v 2)) (.mul (.sub (.mul (.v 6) (.v 2)) (.mul (.v 8) (.v 0))) (.v 5))) (.mul (.sub (.mul (.v 0) (.v 5)) (.mul (.v 2) (.v 3))) (.v 8))) .z (by decide +kernel))
        exact e
    ·
     refine ⟨b 0 * c 1 - b 1 * c 0, c 0 * a 1 - c 1 * a 0, a 0 * b 1 - a 1 * b 0, fun h => m01 h.2.2, fun k => ?_⟩
     match k with
     | 0 =>
      have e : (b 0 * c 1 - b 1 * c 0) * a 0 + (c 0 * a 1 - c 1 * a 0) * b 0 + (a 0 * b 1 - a 1 * b 0) * c 0 = 0 := (OR.ring [a 0, a 1, a 2, b 0, b 1, b 2, c 0, c 1, c 2] (.add (.add (.mul (.sub (.mul (.v 3) (.v 7)) (.mul (.v 4) (.v 6))) (.v 0)) (.mul (.sub (.mul (.v 6) (.v 1)) (.mul (.v 7) (.v 0))) (.v 3))) (.mul (.sub (.mul (.v 0) (.v 4)) (.mul (.v 1) (.v 3))) (.v 6))) .z (by decide +kernel))
      exact e
     | 1 =>
      have e : (b 0 * c 1 - b 1 * c 0) * a 1 + (c 0 * a 1 - c 1 * a 0) * b 1 + (a 0 * b 1 - a 1 * b 0) * c 1 = 0 := (OR.ring [a 0, a 1, a 2, b 0, b 1, b 2, c 0, c 1, c 2] (.add (.add (.mul (.sub (.mul (.v 3) (.v 7)) (.mul (.v 4) (.v 6))) (.v 1)) (.mul (.sub (.mul (.v 6) (.v 1)) (.mul (.v 7) (.v 0))) (.v 4))) (.mul (.sub (.mul (.v 0) (.v 4)) (.mul (.v 1) (.v 3))) (.v 7))) .z (by decide +kernel))
      exact e
     | 2 =>
      have e : (b 0 * c 1 - b 1 * c 0) * a 2 + (c 0 * a 1 - c 1 * a 0) * b 2 + (a 0 * b 1 - a 1 * b 0) * c 2 = (a 0 * (b 1 * c 2 - b 2 * c 1) - a 1 * (b 0 * c 2 - b 2 * c 0) + a 2 * (b 0 * c 1 - b 1 * c 0)) := (OR.ring [a 0, a 1, a 2, b 0, b 1, b 2, c 0, c 1, c 2] (.add (.add (.mul (.sub (.mul (.v 3) (.v 7)) (.mul (.v 4) (.v 6))) (.v 2)) (.mul (.sub (.mul (.v 6) (.v 1)) (.mul (.v 7) (.v 0))) (.v 5))) (.mul (.sub (.mul (.v 0) (.v 4)) (.mul (.v 1) (.v 3))) (.v 8))) (.add (.sub (.mul (.v 0) (.sub (.mul (.v 4) (.v 8)) (.mul (.v 5) (.v 7)))) (.mul (.v 1) (.sub (.mul (.v 3) (.v 8)) (.mul (.v 5) (.v 6))))) (.mul (.v 2) (.sub (.mul (.v 3) (.v 7)) (.mul (.v 4) (.v 6))))) (by decide +kernel))
      rw [e, hD]
   obtain ⟨p, q, r, hp, h⟩ := key
   exact ⟨p, q, r, 0, fun h => hp ⟨h.1, h.2.1, h.2.2.1⟩, fun i => by rw [h i, OR.zero_mul, OR.add_zero]⟩
 · refine ⟨-(d 0 * (b 1 * c 2 - b 2 * c 1) - d 1 * (b 0 * c 2 - b 2 * c 0) + d 2 * (b 0 * c 1 - b 1 * c 0)), -(a 0 * (d 1 * c 2 - d 2 * c 1) - a 1 * (d 0 * c 2 - d 2 * c 0) + a 2 * (d 0 * c 1 - d 1 * c 0)), -(a 0 * (b 1 * d 2 - b 2 * d 1) - a 1 * (b 0 * d 2 - b 2 * d 0) + a 2 * (b 0 * d 1 - b 1 * d 0)), (a 0 * (b 1 * c 2 - b 2 * c 1) - a 1 * (b 0 * c 2 - b 2 * c 0) + a 2 * (b 0 * c 1 - b 1 * c 0)), fun h => hD h.2.2.2, fun i => ?_⟩
   match i with
   | 0 => exact (OR.ring [a 0, a 1, a 2, b 0, b 1, b 2, c 0, c 1, c 2, d 0, d 1, d 2] (.add (.add (.add (.mul (.neg (.add (.sub (.mul (.v 9) (.sub (.mul (.v 4) (.v 8)) (.mul (.v 5) (.v 7)))) (.mul (.v 10) (.sub (.mul (.v 3) (.v 8)) (.mul (.v 5) (.v 6))))) (.mul (.v 11) (.sub (.mul (.v 3) (.v 7)) (.mul (.v 4) (.v 6)))))) (.v 0)) (.mul (.neg (.add (.sub (.mul (.v 0) (.sub (.mul (.v 10) (.v 8)) (.mul (.v 11) (.v 7)))) (.mul (.v 1) (.sub (.mul (.v 9) (.v 8)) (.mul (.v 11) (.v 6))))) (.mul (.v 2) (.sub (.mul (.v 9) (.v 7)) (.mul (.v 10) (.v 6)))))) (.v 3))) (.mul (.neg (.add (.sub (.mul (.v 0) (.sub (.mul (.v 4) (.v 11)) (.mul (.v 5) (.v 10)))) (.mul (.v 1) (.sub (.mul (.v 3) (.v 11)) (.mul (.v 5) (.v 9))))) (.mul (.v 2) (.sub (.mul (.v 3) (.v 10)) (.mul (.v 4) (.v 9)))))) (.v 6))) (.mul (.add (.sub (.mul (.v 0) (.sub (.mul (.v 4) (.v 8)) (.mul (.v 5) (.v 7)))) (.mul (.v 1) (.sub (.mul (.v 3) (.v 8)) (.mul (.v 5) (.v 6))))) (.mul (.v 2) (.sub (.mul (.v 3) (.v 7)) (.mul (.v 4) (.v 6))))) (.v 9))) .z (by decide +kernel))
   | 1 => exact (OR.ring [a 0, a 1, a 2, b 0, b 1, b 2, c 0, c 1, c 2, d 0, d 1, d 2] (.add (.add (.add (.mul (.neg (.add (.sub (.mul (.v 9) (.sub (.mul (.v 4) (.v 8)) (.mul (.v 5) (.v 7)))) (.mul (.v 10) (.sub (.mul (.v 3) (.v 8)) (.mul (.v 5) (.v 6))))) (.mul (.v 11) (.sub (.mul (.v 3) (.v 7)) (.mul (.v 4) (.v 6)))))) (.v 1)) (.mul (.neg (.add (.sub (.mul (.v 0) (.sub (.mul (.v 10) (.v 8)) (.mul (.v 11) (.v 7)))) (.mul (.v 1) (.sub (.mul (.v 9) (.v 8)) (.mul (.v 11) (.v 6))))) (.mul (.v 2) (.sub (.mul (.v 9) (.v 7)) (.mul (.v 10) (.v 6)))))) (.v 4))) (.mul (.neg (.add (.sub (.mul (.v 0) (.sub (.mul (.v 4) (.v 11)) (.mul (.v 5) (.v 10)))) (.mul (.v 1) (.sub (.mul (.v 3) (.v 11)) (.mul (.v 5) (.v 9))))) (.mul (.v 2) (.sub (.mul (.v 3) (.v 10)) (.mul (.v 4) (.v 9)))))) (.v 7))) (.mul (.add (.sub (.mul (.v 0) (.sub (.mul (.v 4) (.v 8)) (.mul (.v 5) (.v 7)))) (.mul (.v 1) (.sub (.mul (.v 3) (.v 8)) (.mul (.v 5) (.v 6))))) (.mul (.v 2) (.sub (.mul (.v 3) (.v 7)) (.mul (.v 4) (.v 6))))) (.v 10))) .z (by decide +kernel))
   | 2 => exact (OR.ring [a 0, a 1, a 2, b 0, b 1, b 2, c 0, c 1, c 2, d 0, d 1, d 2] (.add (.add (.add (.mul (.neg (.add (.sub (.mul (.v 9) (.sub (.mul (.v 4) (.v 8)) (.mul (.v 5) (.v 7)))) (.mul (.v 10) (.sub (.mul (.v 3) (.v 8)) (.mul (.v 5) (.v 6))))) (.mul (.v 11) (.sub (.mul (.v 3) (.v 7)) (.mul (.v 4) (.v 6)))))) (.v 2)) (.mul (.neg (.add (.sub (.mul (.v 0) (.sub (.mul (.v 10) (.v 8)) (.mul (.v 11) (.v 7)))) (.mul (.v 1) (.sub (.mul (.v 9) (.v 8)) (.mul (.v 11) (.v 6))))) (.mul (.v 2) (.sub (.mul (.v 9) (.v 7)) (.mul (.v 10) (.v 6)))))) (.v 5))) (.mul (.neg (.add (.sub (.mul (.v 0) (.sub (.mul (.v 4) (.v 11)) (.mul (.v 5) (.v 10)))) (.mul (.v 1) (.sub (.mul (.v 3) (.v 11)) (.mul (.v 5) (.v 9))))) (.mul (.v 2) (.sub (.mul (.v 3) (.v 10)) (.mul (.v 4) (.v 9)))))) (.v 8))) (.mul (.add (.sub (.mul (.v 0) (.sub (.mul (.v 4) (.v 8)) (.mul (.v 5) (.v 7)))) (.mul (.v 1) (.sub (.mul (.v 3) (.v 8)) (.mul (.v 5) (.v 6))))) (.mul (.v 2) (.sub (.mul (.v 3) (.v 7)) (.mul (.v 4) (.v 6))))) (.v 11))) .z (by decide +kernel))
theorem pos_add_nn {a b : K} (ha : 0 < a) (hb : 0 ≤ b) : 0 < a + b := by
 rcases (OR.le_iff _ _).1 hb with h | h
 · exact OR.add_pos ha h
 · rw [← h, OR.add_zero]; exact ha
theorem both_zero {a b : K} (ha : 0 ≤ a) (hb : 0 ≤ b) (h : a + b = 0) : a = 0 ∧ b = 0 := by
 have h1 : a = 0 := by
  rcases (OR.le_iff _ _).1 ha with g | g
  · have := pos_add_nn g hb; rw [h] at this; exact (OR.lt_irrefl _ this).elim
  · exact g.symm
 exact ⟨h1, by rw [h1, OR.zero_add] at h; exact h⟩
theorem sum_pos {a b c : K} (ha : 0 ≤ a) (hb : 0 ≤ b) (hc : 0 ≤ c) (h : ¬ (a = 0 ∧ b = 0 ∧ c = 0)) : 0 < a + b + c := by
 have h1 : 0 ≤ a + b + c := OR.add_nn (OR.add_nn ha hb) hc
 rcases (OR.le_iff _ _).1 h1 with g | g
 · exact g
 · obtain ⟨e, e3⟩ := both_zero (OR.add_nn ha hb) hc g.symm
   obtain ⟨e1, e2⟩ := both_zero ha hb e
   exact (h ⟨e1, e2, e3⟩).elim
variable (W : Tri K)
def val (u p : List (Fin 3)) (t : Fin 3) : K := pi W (u.reverse ++ p) t 0 + pi W (u.reverse ++ p) t 1 + pi W (u.reverse ++ p) t 2
theorem val_up {u p : List (Fin 3)} {t : Fin 3} (h : ¬ Down W (u.reverse ++ p) t) : 0 < val W u p t := by
 have hp := root_pos W _ (u.reverse ++ p) t rfl h
 refine sum_pos (hp 0) (hp 1) (hp 2) fun ⟨a, b, c⟩ => ?_
 obtain ⟨i, hi⟩ := column W (u.reverse ++ p) t
 match i, hi with
 | 0, hi => exact hi a
 | 1, hi => exact hi b
 | 2, hi => exact hi c
theorem val_down {u p : List (Fin 3)} {t : Fin 3} (h : Down W (u.reverse ++ p) t) : val W u p t < 0 := by
 have hp := root_neg W h
 have key : 0 < (-(pi W (u.reverse ++ p) t 0)) + (-(pi W (u.reverse ++ p) t 1)) + (-(pi W (u.reverse ++ p) t 2)) := by
  refine sum_pos (OR.neg_nn.2 (hp 0)) (OR.neg_nn.2 (hp 1)) (OR.neg_nn.2 (hp 2)) fun ⟨a, b, c⟩ => ?_
  have z : ∀ x : K, -x = 0 → x = 0 := fun x h => by rw [← OR.neg_neg x, h, OR.neg_zero]
  obtain ⟨i, hi⟩ := column W (u.reverse ++ p) t
  match i, hi with
  | 0, hi => exact hi (z _ a)
  | 1, hi => exact hi (z _ b)
  | 2, hi => exact hi (z _ c)
 rw [← OR.neg_add, ← OR.neg_add] at key
 exact OR.neg_pos.1 key
theorem val_lin (u p : List (Fin 3)) (t : Fin 3) : val W u p t = (pi W u.reverse 0 0 + pi W u.reverse 0 1 + pi W u.reverse 0 2) * pi W p t 0 + (pi W u.reverse 1 0 + pi W u.reverse 1 1 + pi W u.reverse 1 2) * pi W p t 1 + (pi W u.reverse 2 0 + pi W u.reverse 2 1 + pi W u.reverse 2 2) * pi W p t 2 := by
 unfold val
 rw [row_mul, row_mul, row_mul]
 generalize pi W u.reverse = X
 generalize pi W p t = r
 exact (OR.ring [X 0 0, X 0 1, X 0 2, X 1 0, X 1 1, X 1 2, X 2 0, X 2 1, X 2 2, r 0, r 1, r 2] (.add (.add (.add (.add (.mul (.v 0) (.v 9)) (.mul (.v 3) (.v 10))) (.mul (.v 6) (.v 11))) (.add (.add (.mul (.v 1) (.v 9)) (.mul (.v 4) (.v 10))) (.mul (.v 7) (.v 11)))) (.add (.add (.mul (.v 2) (.v 9)) (.mul (.v 5) (.v 10))) (.mul (.v 8) (.v 11)))) (.add (.add (.mul (.add (.add (.v 0) (.v 1)) (.v 2)) (.v 9)) (.mul (.add (.add (.v 3) (.v 4)) (.v 5)) (.v 10))) (.mul (.add (.add (.v 6) (.v 7)) (.v 8)) (.v 11))) (by decide +kernel))
theorem sig_get {u : List (Fin 3)} (y : List (Fin 3)) : ∀ (p : List (Fin 3)) (i : Nat) (h : i < y.length), ((sig W u p y).getD i false = true ↔ Down W (u.reverse ++ (p ++ y.take i)) y[i]) := by
 induction y with
 | nil => intro p i h; simp at h
 | cons t y ih =>
  intro p i h
  cases i with
  | zero =>
   simp only [sig, List.getD_cons_zero, List.take_zero, List.append_nil, List.getElem_cons_zero]
   exact ⟨fun h => @of_decide_eq_true _ (Classical.propDecidable _) h, fun h => @decide_eq_true _ (Classical.propDecidable _) h⟩
  | succ i =>
   have := ih (p ++ [t]) i (by simpa using h)
   simp only [sig, List.getD_cons_succ, List.take_succ_cons, List.getElem_cons_succ]
   rw [this]
   simp
theorem term_nn {c v : K} (h1 : c < 0 → v < 0) (h2 : ¬ c < 0 → 0 < v) : 0 ≤ c * v ∧ (c ≠ 0 → c * v ≠ 0) := by
 rcases OR.lt_total c 0 with h | h | h
 · have a := OR.mul_pos _ _ (OR.neg_pos.2 h) (OR.neg_pos.2 (h1 h))
   rw [OR.neg_mul, OR.mul_neg, OR.neg_neg] at a
   exact ⟨OR.le_of_lt a, fun _ e => by rw [e] at a; exact OR.lt_irrefl _ a⟩
 · subst h
   rw [OR.zero_mul]
   exact ⟨OR.le_refl _, fun h => (h rfl).elim⟩
 · have a := OR.mul_pos _ _ h (h2 fun g => OR.lt_asymm h g)
   exact ⟨OR.le_of_lt a, fun _ e => by rw [e] at a; exact OR.lt_irrefl _ a⟩
theorem not_all (y : List (Fin 3)) : ¬ shat 4 y.length (fun t => ∃ u, t = sig W u [] y) := by
 intro h
 obtain ⟨is, h1, h2, h3⟩ := shat_places _ _ _ h
 match is, h1, h2, h3 with
 | [i, j, k, l], _, h2, h3 =>
  have hi := h2 i (by simp)
  have hj := h2 j (by simp)
  have hk := h2 k (by simp)
  have hl := h2 l (by simp)
  obtain ⟨p, q, r, s, hne, hz⟩ := rel_four (pi W (y.take i) y[i]) (pi W (y.take j) y[j]) (pi W (y.take k) y[k]) (pi W (y.take l) y[l])
  let dec := fun c : K => @decide (c < 0) (Classical.propDecidable _)
  obtain ⟨t, ⟨u, rfl⟩, ht⟩ := h3 [dec p, dec q, dec r, dec s] rfl
  simp only [List.map_cons, List.map_nil, List.cons.injEq, and_true] at ht
  obtain ⟨t1, t2, t3, t4⟩ := ht
  have one : ∀ (m : Nat) (hm : m < y.length) (c : K), (sig W u [] y).getD m false = dec c → 0 ≤ c * val W u (y.take m) y[m] ∧ (c ≠ 0 → c * val W u (y.take m) y[m] ≠ 0) := by
   intro m hm c e
   have g := sig_get W (u := u) y [] m hm
   rw [List.nil_append, e] at g
   refine term_nn (fun hc => val_down W (g.1 (@decide_eq_true _ (Classical.propDecidable _) hc))) (fun hc => val_up W fun hd => hc ?_)
   exact @of_decide_eq_true _ (Classical.propDecidable _) (g.2 hd)
  obtain ⟨a1, b1⟩ := one i hi p t1
  obtain ⟨a2, b2⟩ := one j hj q t2
  obtain ⟨a3, b3⟩ := one k hk r t3
  obtain ⟨a4, b4⟩ := one l hl s t4
  have hs : p * val W u (y.take i) y[i] + q * val W u (y.take j) y[j] + r * val W u (y.take k) y[k] + s * val W u (y.take l) y[l] = 0 := by
   rw [val_lin, val_lin, val_lin, val_lin]
   have z0 := hz 0
   have z1 := hz 1
   have z2 := hz 2
   generalize pi W (y.take i) y[i] = A at *
   generalize pi W (y.take j) y[j] = B at *
   generalize pi W (y.take k) y[k] = C at *
   generalize pi W (y.take l) y[l] = D at *
   generalize pi W u.reverse 0 0 + pi W u.reverse 0 1 + pi W u.reverse 0 2 = f0
   generalize pi W u.reverse 1 0 + pi W u.reverse 1 1 + pi W u.reverse 1 2 = f1
   generalize pi W u.reverse 2 0 + pi W u.reverse 2 1 + pi W u.reverse 2 2 = f2
   have e : p * (f0 * A 0 + f1 * A 1 + f2 * A 2) + q * (f0 * B 0 + f1 * B 1 + f2 * B 2) + r * (f0 * C 0 + f1 * C 1 + f2 * C 2) + s * (f0 * D 0 + f1 * D 1 + f2 * D 2)
    = f0 * (p * A 0 + q * B 0 + r * C 0 + s * D 0) + f1 * (p * A 1 + q * B 1 + r * C 1 + s * D 1) + f2 * (p * A 2 + q * B 2 + r * C 2 + s * D 2) :=
    (OR.ring [p, q, r, s, f0, f1, f2, A 0, A 1, A 2, B 0, B 1, B 2, C 0, C 1, C 2, D 0, D 1, D 2] (.add (.add (.add (.mul (.v 0) (.add (.add (.mul (.v 4) (.v 7)) (.mul (.v 5) (.v 8))) (.mul (.v 6) (.v 9)))) (.mul (.v 1) (.add (.add (.mul (.v 4) (.v 10)) (.mul (.v 5) (.v 11))) (.mul (.v 6) (.v 12))))) (.mul (.v 2) (.add (.add (.mul (.v 4) (.v 13)) (.mul (.v 5) (.v 14))) (.mul (.v 6) (.v 15))))) (.mul (.v 3) (.add (.add (.mul (.v 4) (.v 16)) (.mul (.v 5) (.v 17))) (.mul (.v 6) (.v 18))))) (.add (.add (.mul (.v 4) (.add (.add (.add (.mul (.v 0) (.v 7)) (.mul (.v 1) (.v 10))) (.mul (.v 2) (.v 13))) (.mul (.v 3) (.v 16)))) (.mul (.v 5) (.add (.add (.add (.mul (.v 0) (.v 8)) (.mul (.v 1) (.v 11))) (.mul (.v 2) (.v 14))) (.mul (.v 3) (.v 17))))) (.mul (.v 6) (.add (.add (.add (.mul (.v 0) (.v 9)) (.mul (.v 1) (.v 12))) (.mul (.v 2) (.v 15))) (.mul (.v 3) (.v 18))))) (by decide +kernel))
   rw [e, z0, z1, z2, OR.mul_zero, OR.mul_zero, OR.mul_zero, OR.add_zero, OR.add_zero]
  obtain ⟨hs', e4⟩ := both_zero (OR.add_nn (OR.add_nn a1 a2) a3) a4 hs
  obtain ⟨hs'', e3⟩ := both_zero (OR.add_nn a1 a2) a3 hs'
  obtain ⟨e1, e2⟩ := both_zero a1 a2 hs''
  refine hne ⟨Classical.byContradiction fun h => b1 h e1, Classical.byContradiction fun h => b2 h e2, Classical.byContradiction fun h => b3 h e3, Classical.byContradiction fun h => b4 h e4⟩
 | [], h1, _, _ => simp at h1
 | [_], h1, _, _ => simp at h1
 | [_, _], h1, _, _ => simp at h1
 | [_, _, _], h1, _, _ => simp at h1
 | _ :: _ :: _ :: _ :: _ :: _, h1, _, _ => simp at h1
theorem pairwise_map {α β : Type} (f : α → β) (l : List α) (R : α → α → Prop) (h : ∀ x, x ∈ l → ∀ y, y ∈ l → R x y → f x ≠ f y) (hp : l.Pairwise R) : (l.map f).Nodup := by
 induction l with
 | nil => simp
 | cons a l ih =>
  rw [List.pairwise_cons] at hp
  rw [List.map_cons, List.nodup_cons]
  refine ⟨fun hm => ?_, ih (fun x hx y hy => h x (by simp [hx]) y (by simp [hy])) hp.2⟩
  obtain ⟨x, hx, he⟩ := List.mem_map.1 hm
  exact h a (by simp) x (by simp [hx]) (hp.1 x hx) he.symm
theorem between_few (v : List (Fin 3)) (us : List (List (Fin 3))) (hp : us.Pairwise fun a b => pi W a ≠ pi W b) (hb : ∀ u, u ∈ us → Bl W u v) : us.length ≤ Phi 3 (len W v) := by
 obtain ⟨⟨y, hy, ey⟩, _⟩ := len_spec W v
 have hb' : ∀ u, u ∈ us → Bl W u y := fun u hu => Bl.congr W rfl ey.symm (hb u hu)
 have := few y.length 3 (fun t => ∃ u, t = sig W u [] y) (us.map fun u => sig W u [] y)
  (pairwise_map _ _ _ (fun a ha b hb2 hne he => hne (sig_inj W (hb' a ha) (hb' b hb2) he)) hp)
  (fun t ht => by
    obtain ⟨u, hu, rfl⟩ := List.mem_map.1 ht
    exact ⟨sig_length W u y [], u, rfl⟩)
  (not_all W y)
 rw [hy] at this
 simpa using this
end
end Go.Proofs.Ytkndmibmmoikbaa.Cox
