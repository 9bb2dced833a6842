/- Chapter 10: Tors CoxN CoxR. -/
import Derived.Test.YtkndmibmmoikbaaD00
import Derived.Test.YtkndmibmmoikbaaD02
set_option linter.all false
set_option maxRecDepth 100000
set_option maxHeartbeats 16000000
set_option linter.unusedSectionVars false
set_option linter.unusedVariables false
namespace Go.Proofs.Ytkndmibmmoikbaa.Cox
/- Turns of finite order: they are turns around a corner, or reflections. -/
section
variable {K : Type} [OR K]
theorem OR.nn_or (a : K) : 0 ≤ a ∨ a < 0 := by
 rcases OR.lt_total 0 a with h | h | h
 · exact .inl (OR.le_of_lt h)
 · exact .inl ((OR.le_iff 0 a).2 (.inr h))
 · exact .inr h
theorem OR.not_both {a : K} (h : 0 ≤ a) (g : a < 0) : False := OR.lt_irrefl _ (OR.lt_of_lt_of_le g h)
theorem OR.zero_of {a : K} (h : 0 ≤ a) (g : a ≤ 0) : a = 0 := OR.le_antisymm g h
theorem OR.pos_of {a : K} (h : 0 ≤ a) (g : a ≠ 0) : 0 < a := by
 rcases (OR.le_iff 0 a).1 h with h | h
 · exact h
 · exact (g h.symm).elim
theorem OR.np_mul' {a b : K} (ha : a ≤ 0) (hb : 0 ≤ b) : a * b ≤ 0 := by
 have := OR.mul_nn (OR.neg_nn.2 ha) hb
 rw [OR.neg_mul] at this
 exact OR.neg_nn.1 this
theorem OR.add_np {a b : K} (ha : a ≤ 0) (hb : b ≤ 0) : a + b ≤ 0 := by
 have := OR.add_nn (OR.neg_nn.2 ha) (OR.neg_nn.2 hb)
 rw [← OR.neg_add] at this
 exact OR.neg_nn.1 this
theorem OR.add_pos_nn {a b : K} (ha : 0 < a) (hb : 0 ≤ b) : 0 < a + b := by
 rcases (OR.le_iff 0 b).1 hb with h | h
 · exact OR.add_pos ha h
 · rw [← h, OR.add_zero]; exact ha
variable (W : Tri K)
def tot (f : Fin 3 → K) : K := f 0 + f 1 + f 2
theorem fixes (Y : Fin 3 → K) (hY : ∀ s, 0 ≤ Y s) (n : Nat) : ∀ y, len W y = n → (∀ r, pi W y r 0 * Y 0 + pi W y r 1 * Y 1 + pi W y r 2 * Y 2 = Y r) → ∀ s, s ∈ nf W y → Y s = 0 := by
 induction n with
 | zero =>
  intro y hy _ s hs
  have : nf W y = [] := List.eq_nil_of_length_eq_zero (by rw [nf_len, hy])
  rw [this] at hs
  cases hs
 | succ n ih =>
  intro y hy hI s hs
  have hne : nf W y ≠ [] := by
   intro e
   have := nf_len W y
   rw [e, hy] at this
   cases this
  obtain ⟨z, t, hz⟩ : ∃ z t, nf W y = z ++ [t] := ⟨_, _, (List.dropLast_concat_getLast hne).symm⟩
  have hpz : pi W z = pi W (y ++ [t]) := by
   have h1 := pi_right W (nf_pi W y) [t]
   rw [hz, pi_back] at h1
   exact h1
  have hnz : nf W z = z := nf_begin W (b := [t]) (by rw [← hz]; exact nf_nf W y)
  have hlz : len W z = n := by
   have h1 := nf_len W y
   rw [hz, hy] at h1
   have h2 := nf_len W z
   rw [hnz] at h2
   simp at h1
   omega
  have hd : Down W y t := by
   unfold Down
   rw [← len_congr W hpz, hlz, hy]
  have hYt : Y t = 0 := by
   have h1 := hI t
   have h2 : pi W y t 0 * Y 0 + pi W y t 1 * Y 1 + pi W y t 2 * Y 2 ≤ 0 :=
    OR.add_np (OR.add_np (OR.np_mul' (root_neg W hd 0) (hY 0)) (OR.np_mul' (root_neg W hd 1) (hY 1))) (OR.np_mul' (root_neg W hd 2) (hY 2))
   rw [h1] at h2
   exact OR.zero_of (hY t) h2
  rw [hz] at hs
  rcases List.mem_append.1 hs with hs | hs
  · refine ih z hlz (fun r => ?_) s (by rw [hnz]; exact hs)
    rw [hpz, pi_snoc]
    show (pi W y r 0 + W.c t r * pi W y t 0) * Y 0 + (pi W y r 1 + W.c t r * pi W y t 1) * Y 1 + (pi W y r 2 + W.c t r * pi W y t 2) * Y 2 = Y r
    have e : (pi W y r 0 + W.c t r * pi W y t 0) * Y 0 + (pi W y r 1 + W.c t r * pi W y t 1) * Y 1 + (pi W y r 2 + W.c t r * pi W y t 2) * Y 2
     = (pi W y r 0 * Y 0 + pi W y r 1 * Y 1 + pi W y r 2 * Y 2) + W.c t r * (pi W y t 0 * Y 0 + pi W y t 1 * Y 1 + pi W y t 2 * Y 2) :=
     (OR.ring [pi W y r 0, pi W y r 1, pi W y r 2, pi W y t 0, pi W y t 1, pi W y t 2, W.c t r, Y 0, Y 1, Y 2] (.add (.add (.mul (.add (.v 0) (.mul (.v 6) (.v 3))) (.v 7)) (.mul (.add (.v 1) (.mul (.v 6) (.v 4))) (.v 8))) (.mul (.add (.v 2) (.mul (.v 6) (.v 5))) (.v 9))) (.add (.add (.add (.mul (.v 0) (.v 7)) (.mul (.v 1) (.v 8))) (.mul (.v 2) (.v 9))) (.mul (.v 6) (.add (.add (.mul (.v 3) (.v 7)) (.mul (.v 4) (.v 8))) (.mul (.v 5) (.v 9))))) (by decide +kernel))
    rw [e, hI r, hI t, hYt, OR.mul_zero, OR.add_zero]
  · have : s = t := by simpa using hs
    rw [this]; exact hYt
structure Heavy (b : Fin 3 → K) : Prop where
 nn : ∀ i, 0 ≤ b i
 some : ∃ i, 0 < b i
 up : ∀ s, 0 ≤ W.c s 0 * b 0 + W.c s 1 * b 1 + W.c s 2 * b 2
def wt (b : Fin 3 → K) (X : Mat K) (i : Fin 3) : K := b 0 * X 0 i + b 1 * X 1 i + b 2 * X 2 i
theorem OR.le_add {a b : K} (h : 0 ≤ b) : a ≤ a + b := by
 rcases (OR.le_iff 0 b).1 h with h | h
 · refine OR.le_of_lt (OR.pos_sub.2 ?_)
   have : a + b - a = b := (OR.ring [a, b] (.sub (.add (.v 0) (.v 1)) (.v 0)) (.v 1) (by decide +kernel))
   rw [this]; exact h
 · rw [← h, OR.add_zero]; exact OR.le_refl _
theorem OR.le_trans {a b c : K} (h : a ≤ b) (g : b ≤ c) : a ≤ c := by
 rcases (OR.le_iff a b).1 h with h | h
 · exact OR.le_of_lt (OR.lt_of_lt_of_le h g)
 · rw [h]; exact g
theorem heavy_up {b : Fin 3 → K} (hb : Heavy W b) (n : Nat) : ∀ y, len W y = n → ∀ i, b i ≤ wt b (pi W y) i := by
 induction n with
 | zero =>
  intro y hy i
  rw [len_zero W hy]
  have : wt b (one : Mat K) i = b i := by
   unfold wt
   match i with
   | 0 => exact (OR.ring [b 0, b 1, b 2] (.add (.add (.mul (.v 0) .o) (.mul (.v 1) .z)) (.mul (.v 2) .z)) (.v 0) (by decide +kernel))
   | 1 => exact (OR.ring [b 0, b 1, b 2] (.add (.add (.mul (.v 0) .z) (.mul (.v 1) .o)) (.mul (.v 2) .z)) (.v 1) (by decide +kernel))
   | 2 => exact (OR.ring [b 0, b 1, b 2] (.add (.add (.mul (.v 0) .z) (.mul (.v 1) .z)) (.mul (.v 2) .o)) (.v 2) (by decide +kernel))
  rw [this]; exact OR.le_refl _
 | succ n ih =>
  intro y hy i
  have hne : nf W y ≠ [] := by
   intro e
   have := nf_len W y
   rw [e, hy] at this
   cases this
  obtain ⟨z, t, hz⟩ : ∃ z t, nf W y = z ++ [t] := ⟨_, _, (List.dropLast_concat_getLast hne).symm⟩
  have hnz : nf W z = z := nf_begin W (b := [t]) (by rw [← hz]; exact nf_nf W y)
  have hlz : len W z = n := by
   have h1 := nf_len W y
   rw [hz, hy] at h1
   have h2 := nf_len W z
   rw [hnz] at h2
   simp at h1
   omega
  have hd : ¬ Down W z t := by
   unfold Down
   rw [← hz, len_congr W (nf_pi W y), hy, hlz]
   omega
  rw [← nf_pi W y, hz, pi_snoc]
  have e : wt b (act W (pi W z) t) i = wt b (pi W z) i + (W.c t 0 * b 0 + W.c t 1 * b 1 + W.c t 2 * b 2) * pi W z t i := by
   show b 0 * (pi W z 0 i + W.c t 0 * pi W z t i) + b 1 * (pi W z 1 i + W.c t 1 * pi W z t i) + b 2 * (pi W z 2 i + W.c t 2 * pi W z t i) = b 0 * pi W z 0 i + b 1 * pi W z 1 i + b 2 * pi W z 2 i + (W.c t 0 * b 0 + W.c t 1 * b 1 + W.c t 2 * b 2) * pi W z t i
   exact (OR.ring [b 0, b 1, b 2, pi W z 0 i, pi W z 1 i, pi W z 2 i, pi W z t i, W.c t 0, W.c t 1, W.c t 2] (.add (.add (.mul (.v 0) (.add (.v 3) (.mul (.v 7) (.v 6)))) (.mul (.v 1) (.add (.v 4) (.mul (.v 8) (.v 6))))) (.mul (.v 2) (.add (.v 5) (.mul (.v 9) (.v 6))))) (.add (.add (.add (.mul (.v 0) (.v 3)) (.mul (.v 1) (.v 4))) (.mul (.v 2) (.v 5))) (.mul (.add (.add (.mul (.v 7) (.v 0)) (.mul (.v 8) (.v 1))) (.mul (.v 9) (.v 2))) (.v 6))) (by decide +kernel))
  rw [e]
  exact OR.le_trans (ih z hlz i) (OR.le_add (OR.mul_nn (hb.up t) (root_pos W _ z t rfl hd i)))
end
end Go.Proofs.Ytkndmibmmoikbaa.Cox
set_option linter.unusedSectionVars false
namespace Go.Proofs.Ytkndmibmmoikbaa.Cox
section
variable {K : Type} [OR K]
variable (W : Tri K)
theorem mul_np {a b : K} (ha : 0 ≤ a) (hb : b ≤ 0) : a * b ≤ 0 := by
 have h := OR.mul_nn ha (OR.neg_nn.2 hb)
 rw [OR.mul_neg] at h
 exact OR.neg_nn.1 h
theorem add_np {a b : K} (ha : a ≤ 0) (hb : b ≤ 0) : a + b ≤ 0 := by
 have h := OR.add_nn (OR.neg_nn.2 ha) (OR.neg_nn.2 hb)
 rw [← OR.neg_add] at h
 exact OR.neg_nn.1 h
theorem not_three {b : Fin 3 → K} (hb : Heavy W b) (w : List (Fin 3)) : ∃ s, ¬ Down W w s := by
 refine Classical.byContradiction fun h => ?_
 have hd : ∀ s, Down W w s := fun s => Classical.byContradiction fun g => h ⟨s, g⟩
 obtain ⟨i, hi⟩ := hb.some
 have h1 := heavy_up W hb _ w rfl i
 have h2 : wt b (pi W w) i ≤ 0 := by
  unfold wt
  exact add_np (add_np (mul_np (hb.nn 0) (root_neg W (hd 0) i)) (mul_np (hb.nn 1) (root_neg W (hd 1) i))) (mul_np (hb.nn 2) (root_neg W (hd 2) i))
 exact OR.lt_irrefl _ (OR.lt_of_lt_of_le hi (OR.le_trans h1 h2))
theorem two_down {b : Fin 3 → K} (hb : Heavy W b) {w : List (Fin 3)} {s t r : Fin 3} (hst : s ≠ t) (hs : Down W w s) (ht : Down W w t) (hr : Down W w r) : r = s ∨ r = t := by
 obtain ⟨q, hq⟩ := not_three W hb w
 have h1 : q ≠ s := fun e => hq (e ▸ hs)
 have h2 : q ≠ t := fun e => hq (e ▸ ht)
 have h3 : q ≠ r := fun e => hq (e ▸ hr)
 revert hst h1 h2 h3
 clear hs ht hr hq
 revert q s t r
 decide
end
end Go.Proofs.Ytkndmibmmoikbaa.Cox
set_option linter.unusedSectionVars false
set_option linter.unusedVariables false
namespace Go.Proofs.Ytkndmibmmoikbaa.Cox.G
open Go.Proofs.Ytkndmibmmoikbaa.Cox
variable {K : Type} [OR K]
variable (W : Tri K)
theorem start_ok {st : List Tl} {P : Nat → Prop} {E : Nat → Fin 3 → Prop} {x : Nat} {w : List (Fin 3)} {s : Fin 3} {nd : Tl} (ho : Ok W st P E) (hb : ∀ k, P k → k < st.length) (px : P x) (hn : st[x]? = some nd) (hnw : nd.word = w)
 (hE : Apart st P E (w.length + 1)) (ht : nd.to s = none) :
 ¬ Down W w s ∧ nf W w = w ∧ Half W st P (link (st ++ [fresh nd s]) x st.length s) P E w st.length s (fun _ => False) (fun k i => k = x ∧ i = s) := by
 have hx : At st P x w := ⟨px, nd, hn, hnw⟩
 have hw : nf W w = w := by rw [← hnw]; exact ho.nf x nd px hn
 have hlw : len W w = w.length := by rw [← nf_len, hw]
 have hs : ¬ Down W w s := fun h => by
  have := (ho.known x nd s px hn (by rw [hnw]; exact h)).1
  exact this ht
 have hxl : x < st.length := hb x px
 have hxy : x ≠ st.length := by omega
 have g := fun k => getElem?_link (st := st ++ [fresh nd s]) (s := s) hxy k
 have gx : (link (st ++ [fresh nd s]) x st.length s)[x]? = some { nd with to := upd nd.to s (some st.length) } := by
  rw [g, if_pos rfl, List.getElem?_append_left hxl, hn]; rfl
 have gy : (link (st ++ [fresh nd s]) x st.length s)[st.length]? = some { fresh nd s with to := upd (fresh nd s).to s (some x), down := upd (fresh nd s).down s true } := by
  rw [g, if_neg (Ne.symm hxy), if_pos rfl]
  simp
 have go : ∀ k, k ≠ x → k < st.length → (link (st ++ [fresh nd s]) x st.length s)[k]? = st[k]? := by
  intro k h1 h2
  rw [g, if_neg h1, if_neg (by omega), List.getElem?_append_left h2]
 have gl : (link (st ++ [fresh nd s]) x st.length s).length = st.length + 1 := by rw [length_link]; simp
 generalize hst1 : link (st ++ [fresh nd s]) x st.length s = st1 at g gx gy go gl
 have tiles : ∀ k nk, P k → st1[k]? = some nk → ∃ nd1, st[k]? = some nd1 ∧ nk.word = nd1.word ∧ nk.down = nd1.down ∧ nk.lev = nd1.lev ∧ (∀ i, ¬ (k = x ∧ i = s) → nk.to i = nd1.to i) ∧ (k ≠ x → nk = nd1) := by
  intro k nk hp h
  by_cases hk : k = x
  · subst hk
    rw [gx] at h; cases h
    exact ⟨nd, hn, rfl, rfl, rfl, fun i hi => upd_ne _ _ (fun e => hi ⟨rfl, e⟩), fun h => (h rfl).elim⟩
  · rw [go k hk (hb k hp)] at h
    exact ⟨nk, h, rfl, rfl, rfl, fun _ _ => rfl, fun _ => rfl⟩
 have tiles' : ∀ k, P k → ∃ nk, st1[k]? = some nk := by
  intro k hp
  have : k < st1.length := by rw [gl]; have := hb k hp; omega
  exact ⟨st1[k], List.getElem?_eq_getElem this⟩
 have at1 : ∀ k u, At st P k u → At st1 P k u := by
  rintro k u ⟨hp, n1, h1, hu⟩
  obtain ⟨nk, hk⟩ := tiles' k hp
  obtain ⟨n1', q1, q2, _⟩ := tiles k nk hp hk
  rw [h1] at q1; cases q1
  exact ⟨hp, nk, hk, q2.trans hu⟩
 have hds : Down W (w ++ [s]) s := by rw [down_snoc]; exact hs
 have hback : pi W (w ++ [s] ++ [s]) = pi W w := pi_back W w s
 have hcs : w ++ [s] = cand W (w ++ [s]) s := by unfold cand; rw [nf_congr W hback, hw]
 have half0 : Half W st P st1 P E w st.length s (fun _ => False) (fun k i => k = x ∧ i = s) := by
  refine ⟨⟨⟨?_, ?_, ?_, ?_, ?_⟩, ?_⟩, fun k hp => by rw [gl]; have := hb k hp; omega, fun h => by have := hb _ h; omega, Nat.le_refl _, ⟨by rw [gl]; omega, fun _ h => h, fun _ _ h => h, ?_, ?_, ?_⟩, ?_, ?_, fun k h1 h2 => .inr (by rw [gl] at h2; omega), fun k nd h1 hp _ => by have := hb k hp; omega, ?_⟩
  · intro k nk hp h
    obtain ⟨n1, q1, q2, _⟩ := tiles k nk hp h
    rw [q2]; exact ho.nf k n1 hp q1
  · intro k nk i hp h
    obtain ⟨n1, q1, q2, q3, _⟩ := tiles k nk hp h
    rw [q2, q3]; exact ho.down k n1 i hp q1
  · intro k nk i hp h hd
    obtain ⟨n1, q1, q2, q3, q4, q5, _⟩ := tiles k nk hp h
    rw [q2] at hd
    obtain ⟨k1, k2⟩ := ho.known k n1 i hp q1 hd
    have hz : ¬ (k = x ∧ i = s) := by
     rintro ⟨rfl, rfl⟩
     rw [hn] at q1; cases q1
     rw [hnw] at hd; exact hs hd
    refine ⟨by rw [q5 i hz]; exact k1, ?_⟩
    rintro (h | h)
    · exact k2 h
    · exact hz h
  · intro k nk i k' hp h he hto
    obtain ⟨n1, q1, q2, q3, q4, q5, _⟩ := tiles k nk hp h
    have hz : ¬ (k = x ∧ i = s) := fun h => he (.inr h)
    rw [q5 i hz] at hto
    rw [q2]
    exact at1 _ _ (ho.next k n1 i k' hp q1 (fun h => he (.inl h)) hto)
  · intro k nk hp h hwd
    obtain ⟨n1, q1, q2, _⟩ := tiles k nk hp h
    exact ho.root k n1 hp q1 (by rw [← q2]; exact hwd)
  · intro k nk i k' nk' hp h he hto h'
    obtain ⟨n1, q1, q2, q3, q4, q5, _⟩ := tiles k nk hp h
    have hz : ¬ (k = x ∧ i = s) := fun h => he (.inr h)
    rw [q5 i hz] at hto
    obtain ⟨pk', n1', g1, _⟩ := ho.next k n1 i k' hp q1 (fun h => he (.inl h)) hto
    have g2 := ho.back k n1 i k' n1' hp q1 (fun h => he (.inl h)) hto g1
    obtain ⟨n1'', r1, r2, r3, r4, r5, _⟩ := tiles k' nk' pk' h'
    rw [g1] at r1; cases r1
    have hz' : ¬ (k' = x ∧ i = s) := by
     rintro ⟨rfl, rfl⟩
     rw [hn] at g1; cases g1
     rw [ht] at g2; cases g2
    rw [r5 i hz']; exact g2
  · intro k hk hp
    have : k ≠ x := by rintro rfl; exact hp px
    exact go k this hk
  · intro k nk hp h hl
    have : k ≠ x := by
     rintro rfl
     rw [hn] at h; cases h
     rw [hnw] at hl; omega
    rw [go k this (hb k hp)]; exact h
  · intro k nk hp h
    obtain ⟨n1, h1⟩ := tiles' k hp
    obtain ⟨n1', q1, q2, q3, q4, _⟩ := tiles k n1 hp h1
    rw [h] at q1; cases q1
    exact ⟨n1, h1, q2, q3, q4⟩
  · intro k i h
    have := hE k i h
    refine ⟨by rw [gl]; omega, fun nk hp hk => ?_⟩
    obtain ⟨n1, q1, q2, _⟩ := tiles k nk hp hk
    rw [q2]; exact this.2 n1 hp q1
  · rintro k i ⟨rfl, rfl⟩
    refine ⟨px, _, gx, ?_, ?_, upd_same _ _ _, fun ny h => by rw [gy] at h; cases h; exact upd_same _ _ _⟩
    · show nd.word.length = _; rw [hnw]
    · show pi W (nd.word ++ [i]) = _; rw [hnw]
  · refine ⟨_, gy, ?_, ?_, ?_, ?_⟩
    · intro i
      show upd (fun _ => false) s true i = true ↔ _
      by_cases hi : i = s
      · subst hi; rw [upd_same]; exact ⟨fun _ => ⟨.inl rfl, hds⟩, fun _ => rfl⟩
      · rw [upd_ne _ _ hi]
        constructor
        · intro h; cases h
        · rintro ⟨a | a, _⟩
          · exact (hi a).elim
          · exact a.elim
    · rintro i (rfl | h) hd
      · refine ⟨?_, x, upd_same _ _ _, ?_, fun nk hk => by rw [gx] at hk; cases hk; exact upd_same _ _ _⟩
        · show lex (cand W (w ++ [i]) i) (nd.word ++ [i]) = false
          rw [hnw, ← hcs]; exact lex_irrefl _
        · rw [nf_congr W hback, hw]; exact at1 _ _ hx
      · exact h.elim
    · exact ⟨s, hds, by show nd.word ++ [s] = _; rw [hnw]; exact hcs⟩
    · intro i hi
      show upd (fun _ => none) s (some x) i = none
      by_cases his : i = s
      · subst his; exact (hi ⟨.inl rfl, hds⟩).elim
      · rw [upd_ne _ _ his]
 exact ⟨hs, hw, half0⟩
structure Climbs (f : Nat) (E : Nat → Fin 3 → Prop) (L n : Nat) (a b : Fin 3) (st : List Tl) (P : Nat → Prop) (x : Nat) (w : List (Fin 3)) : Prop where
 ok : Ok W st P E
 bound : ∀ k, P k → k < st.length
 at_ : At st P x (nf W w)
 len : len W w + n ≤ L
 fuel : L ≤ f
 apart : Apart st P E L
 way : Cox.len W (w ++ alt a b n) = Cox.len W w + n
theorem Climbs.step {f : Nat} {E : Nat → Fin 3 → Prop} {L n : Nat} {a b : Fin 3} {st : List Tl} {P : Nat → Prop} {x : Nat} {w : List (Fin 3)} (h : Climbs W f E L (n + 1) a b st P x w) :
 (nf W w).length < f ∧ Apart st P E ((nf W w).length + 1) ∧ ∃ st1 P1 y1, Cox.step W.m f st x a = some (st1, y1) ∧ Climbs W f E L n b a st1 P1 y1 (w ++ [a]) ∧ Ext st P st1 P1 L ∧ (∀ k, st.length ≤ k → k < st1.length → P1 k) := by
 have hlw : (nf W w).length = Cox.len W w := nf_len W w
 have hl := h.len
 have hf := h.fuel
 refine ⟨by omega, h.apart.mono (by omega), ?_⟩
 obtain ⟨st1, P1, y1, e1, o1, b1, a1, x1, n1, bl1⟩ := step_ok W f st P E x (nf W w) a h.ok h.bound h.at_ (by omega) (h.apart.mono (by omega))
 have hsp : w ++ [a] ++ alt b a n = w ++ alt a b (n + 1) := by simp [alt]
 have hway := h.way
 have hway2 : Cox.len W (w ++ [a] ++ alt b a n) = Cox.len W (w ++ [a]) + n := by
  have q1 := len_snoc_le W w a
  have q2 := len_append_le W (w ++ [a]) (alt b a n)
  rw [alt_length] at q2
  rw [hsp] at q2 ⊢
  omega
 have hc : nf W (nf W w ++ [a]) = nf W (w ++ [a]) := nf_congr W (pi_right W (nf_pi W w) [a])
 rw [hc] at a1
 have x1' := x1.weaken (show (nf W w).length + 1 ≤ L by omega)
 have hl1 := len_snoc_le W w a
 exact ⟨st1, P1, y1, e1, ⟨o1, b1, a1, by omega, hf, h.apart.ext x1, hway2⟩, x1', n1⟩
theorem round_falls {f : Nat} {st0 : List Tl} {P0 : Nat → Prop} {st : List Tl} {P : Nat → Prop} {E : Nat → Fin 3 → Prop} {x y : Nat} {w : List (Fin 3)} {s : Fin 3} (t : Fin 3) {done : Fin 3 → Prop} {F : Nat → Fin 3 → Prop}
 (hw : nf W w = w) (hs : ¬ Down W w s) (hf : w.length ≤ f) (hx0 : At st0 P0 x w) (hh : Half W st0 P0 st P E w y s done F) (hts : t ≠ s) (hm : W.m s t ≠ 0) :
 (¬ Down W (w ++ [s]) t ∧ lowest st x t s (W.m s t - 1) = some none) ∨ (Down W (w ++ [s]) t ∧ ∃ v, lowest st x t s (W.m s t - 1) = some (some v) ∧ v < st.length ∧
   Climbs W f (fun k i => E k i ∨ F k i) w.length (W.m s t - 1) (if W.m s t % 2 = 0 then s else t) (if W.m s t % 2 = 0 then t else s) st P v (w ++ alt t s (W.m s t - 1))) := by
 have hx := hh.ext.at hx0
 have hlw : len W w = w.length := by rw [← nf_len, hw]
 obtain ⟨l1, l2⟩ := lowest_ok W hh.ok.toOk (W.m s t - 1) x t s w hx
 by_cases hfall : Falls W w t s (W.m s t - 1)
 case neg => exact .inl ⟨fun h => hfall ((down_other W (Ne.symm hts) hs).1 h).2, l2 hfall⟩
 have hdt : Down W (w ++ [s]) t := (down_other W (Ne.symm hts) hs).2 ⟨hm, hfall⟩
 obtain ⟨v, e1, av⟩ := l1 hfall
 have hfl := falls_len W hfall
 have hup := up_other W (x := w) (Ne.symm hts) hm
 have hdl : len W (w ++ [s] ++ [t]) = w.length := by
  have a : len W (w ++ [s] ++ [t]) + 1 = len W (w ++ [s]) := hdt
  have := not_down W hs
  omega
 have hway : len W (w ++ alt t s (W.m s t - 1) ++ alt (if W.m s t % 2 = 0 then s else t) (if W.m s t % 2 = 0 then t else s) (W.m s t - 1)) = len W (w ++ alt t s (W.m s t - 1)) + (W.m s t - 1) := by
  have q : pi W (w ++ alt t s (W.m s t - 1) ++ alt (if W.m s t % 2 = 0 then s else t) (if W.m s t % 2 = 0 then t else s) (W.m s t - 1)) = pi W (w ++ [s] ++ [t]) := by
   rw [pi_snoc W (w ++ [s]), ← hup, ← pi_snoc, pi_back]
  rw [len_congr W q, hdl]
  omega
 refine .inr ⟨hdt, v, e1, av.lt, ⟨hh.ok, hh.bound, av, by omega, hf, ?_, hway⟩⟩
 intro k i h
 rcases h with h | h
 · exact (hh.apart.mono (by omega)) k i h
 · obtain ⟨_, nd, h2, h3, _⟩ := hh.sides k i h
   refine ⟨(List.getElem?_eq_some_iff.1 h2).1, fun nd' _ h' => ?_⟩
   rw [h2] at h'; cases h'; omega
theorem round_top {st0 : List Tl} {P0 : Nat → Prop} {st : List Tl} {P : Nat → Prop} {E : Nat → Fin 3 → Prop} {x y : Nat} {w : List (Fin 3)} {s : Fin 3} (t : Fin 3) {done : Fin 3 → Prop} {F : Nat → Fin 3 → Prop}
 (hw : nf W w = w) (hs : ¬ Down W w s) (hx0 : At st0 P0 x w) (hh : Half W st0 P0 st P E w y s done F) (hdn : ¬ done t) (hFx : F x s) (hts : t ≠ s) (hm : W.m s t ≠ 0) (hdt : Down W (w ++ [s]) t)
 {st1 : List Tl} {P1 : Nat → Prop} {z : Nat} (o1 : Ok W st1 P1 (fun k i => E k i ∨ F k i)) (x1 : Ext st P st1 P1 w.length)
 (az : At st1 P1 z (nf W (w ++ alt t s (W.m s t - 1) ++ alt (if W.m s t % 2 = 0 then s else t) (if W.m s t % 2 = 0 then t else s) (W.m s t - 1)))) :
 ¬ P1 y ∧ z ≠ y ∧ st1[y]? = st[y]? ∧ P1 z ∧ P1 x ∧ ∃ nz, st1[z]? = some nz ∧ nz.to t = none ∧ nz.word.length = w.length := by
 have hx := hh.ext.at hx0
 have hlw : len W w = w.length := by rw [← nf_len, hw]
 have hup := up_other W (x := w) (Ne.symm hts) hm
 generalize hr : w ++ alt t s (W.m s t - 1) ++ alt (if W.m s t % 2 = 0 then s else t) (if W.m s t % 2 = 0 then t else s) (W.m s t - 1) = r at hup az
 have hrz : pi W r = pi W (w ++ [s] ++ [t]) := by
  rw [pi_snoc W (w ++ [s]), ← hup, ← pi_snoc, pi_back]
 rw [nf_congr W hrz] at az
 have hlz : (nf W (w ++ [s] ++ [t])).length = w.length := by
  rw [nf_len]
  have a : len W (w ++ [s] ++ [t]) + 1 = len W (w ++ [s]) := hdt
  have := not_down W hs
  omega
 generalize hwz : nf W (w ++ [s] ++ [t]) = wz at az hlz
 have hzt : pi W (wz ++ [t]) = pi W (w ++ [s]) := by
  rw [← hwz, pi_snoc, nf_pi, ← pi_snoc, pi_back]
 have hcz : wz ++ [t] = cand W (w ++ [s]) t := by rw [← hwz]; rfl
 have hnz : ¬ Down W wz t := by
  intro h
  have a : len W (wz ++ [t]) + 1 = len W wz := h
  rw [len_congr W hzt] at a
  have := len_le W wz
  have := not_down W hs
  omega
 obtain ⟨pz, nz, hnz1, hnz2⟩ := az
 obtain ⟨ny, y1, y2, y3, y4, y5⟩ := hh.here
 have hyl : y < st.length := (List.getElem?_eq_some_iff.1 y1).1
 have hy1 : ¬ P1 y := fun h => hh.notP (x1.old y hyl h)
 have hyn : st1[y]? = some ny := by rw [x1.out y hyl hh.notP]; exact y1
 have hzy : z ≠ y := by rintro rfl; exact hy1 pz
 have hyt : ny.to t = none := y5 t fun h => by
  rcases h.1 with h | h
  · exact hts h
  · exact hdn h
 have hzt0 : nz.to t = none := by
  cases hq : nz.to t with
  | none => rfl
  | some q =>
   exfalso
   have hnE : ¬ (E z t ∨ F z t) := by
    rintro (h | h)
    · have := ((hh.apart.ext x1) z t h).2 nz pz hnz1
      rw [hnz2, hlz] at this; omega
    · obtain ⟨_, _, _, _, _, _, h6⟩ := hh.sides z t h
      rw [h6 ny y1] at hyt; cases hyt
   have aq := o1.next z nz t q pz hnz1 hnE hq
   rw [hnz2, nf_congr W hzt] at aq
   obtain ⟨pq, nq, hq1, hq2⟩ := aq
   have hdq : Down W nq.word s := by
    rw [hq2, down_congr W (nf_pi W (w ++ [s])), down_snoc]; exact hs
   obtain ⟨k1, k2⟩ := o1.known q nq s pq hq1 hdq
   cases hk : nq.to s with
   | none => exact (k1 hk).elim
   | some k =>
    obtain ⟨pk, nk, hk1, hk2⟩ := o1.next q nq s k pq hq1 k2 hk
    have e1 : nk.word = w := by
     rw [hk2, hq2, nf_congr W (pi_right W (nf_pi W (w ++ [s])) [s]), nf_congr W (pi_back W w s), hw]
    obtain ⟨hxP, nx, hx1, hx2⟩ := x1.at hx
    have e2 : k = x := o1.inj _ _ k x nk nx rfl pk hxP hk1 hx1 (e1.trans hx2.symm)
    subst e2
    have e3 := o1.back q nq s k nk pq hq1 k2 hk hk1
    obtain ⟨g1, nd, g2, g3, g4, g5, _⟩ := hh.sides k s hFx
    have g6 := x1.same k nd g1 g2 (by omega)
    rw [hk1] at g6; cases g6
    rw [e3] at g5; cases g5
    exact hy1 pq
 exact ⟨hy1, hzy, hyn.trans y1.symm, pz, (x1.at hx).1, nz, hnz1, hzt0, by rw [hnz2]; exact hlz⟩
theorem rounds_ok {f : Nat} {st : List Tl} {P : Nat → Prop} {E : Nat → Fin 3 → Prop} {x : Nat} {w : List (Fin 3)} {s : Fin 3} {nd : Tl} (ho : Ok W st P E) (hb : ∀ k, P k → k < st.length) (px : P x) (hn : st[x]? = some nd) (hnw : nd.word = w)
 (hE : Apart st P E (w.length + 1)) (ht : nd.to s = none) (hf : w.length < f + 1) {st' : List Tl} {y : Nat} (hstep : Cox.step W.m (f + 1) st x s = some (st', y)) :
 y = st.length ∧ nf W w = w ∧ ¬ Down W w s ∧ ∃ (S : Nat → List Tl) (Q : Nat → Nat → Prop) (F : Nat → Nat → Fin 3 → Prop), S 0 = link (st ++ [fresh nd s]) x st.length s ∧ S 3 = st' ∧
  (∀ t : Fin 3, round W.m f (Cox.step W.m f) (S t.val) x st.length s t = some (S (t.val + 1))) ∧
  (∀ k, k ≤ 3 → Half W st P (S k) (Q k) E w st.length s (fun i => i.val < k) (F k) ∧ F k x s) := by
 obtain ⟨hs, hw, h0⟩ := start_ok W ho hb px hn hnw hE ht
 have hx : At st P x w := ⟨px, nd, hn, hnw⟩
 obtain ⟨sa, Pa, Fa, ea, ha, fa⟩ := round_ok W (step_ok W f) 0 (x := x) hw hs (by omega) hx h0 (fun h => h) ⟨rfl, rfl⟩
 obtain ⟨sb, Pb, Fb, eb, hb', fb⟩ := round_ok W (step_ok W f) 1 (x := x) hw hs (by omega) hx ha (by rintro (h | h); exact h; cases h) (fa _ _ ⟨rfl, rfl⟩)
 obtain ⟨sc, Pc, Fc, ec, hc, fc⟩ := round_ok W (step_ok W f) 2 (x := x) hw hs (by omega) hx hb' (by rintro ((h | h) | h); exact h; cases h; cases h) (fb _ _ (fa _ _ ⟨rfl, rfl⟩))
 unfold Cox.step at hstep
 rw [hn, Option.bind_some, if_neg (by rw [hnw]; omega), ht] at hstep
 simp only [ea, eb, ec, Option.bind_some, Option.some.injEq, Prod.mk.injEq] at hstep
 obtain ⟨rfl, rfl⟩ := hstep
 have d0 : (fun _ : Fin 3 => False) = (fun i => i.val < 0) := by funext i; simp
 have d1 : (fun i : Fin 3 => False ∨ i = 0) = (fun i => i.val < 1) := by funext i; apply propext; constructor <;> (intro h; revert h; revert i; decide)
 have d2 : (fun i : Fin 3 => (False ∨ i = 0) ∨ i = 1) = (fun i => i.val < 2) := by funext i; apply propext; constructor <;> (intro h; revert h; revert i; decide)
 have d3 : (fun i : Fin 3 => ((False ∨ i = 0) ∨ i = 1) ∨ i = 2) = (fun i => i.val < 3) := by funext i; apply propext; constructor <;> (intro h; revert h; revert i; decide)
 rw [d0] at h0
 rw [d1] at ha
 rw [d2] at hb'
 rw [d3] at hc
 refine ⟨rfl, hw, hs, fun k => if k = 0 then link (st ++ [fresh nd s]) x st.length s else if k = 1 then sa else if k = 2 then sb else sc, fun k => if k = 0 then P else if k = 1 then Pa else if k = 2 then Pb else Pc,
  fun k => if k = 0 then (fun k i => k = x ∧ i = s) else if k = 1 then Fa else if k = 2 then Fb else Fc, rfl, rfl, ?_, ?_⟩
 · intro t
   match t with
   | 0 => exact ea
   | 1 => exact eb
   | 2 => exact ec
 · intro k hk
   have hk4 : k = 0 ∨ k = 1 ∨ k = 2 ∨ k = 3 := by omega
   rcases hk4 with rfl | rfl | rfl | rfl
   · exact ⟨h0, rfl, rfl⟩
   · exact ⟨ha, fa _ _ ⟨rfl, rfl⟩⟩
   · exact ⟨hb', fb _ _ (fa _ _ ⟨rfl, rfl⟩)⟩
   · exact ⟨hc, fc _ _ (fb _ _ (fa _ _ ⟨rfl, rfl⟩))⟩
end Go.Proofs.Ytkndmibmmoikbaa.Cox.G
