/- Chapter 10: CoxG. -/
import Derived.Test.YtkndmibmmoikbaaD01
set_option linter.all false
set_option maxRecDepth 100000
set_option maxHeartbeats 16000000
set_option linter.unusedSectionVars false
set_option linter.unusedVariables false
namespace Go.Proofs.Ytkndmibmmoikbaa.Cox.G
open Go.Proofs.Ytkndmibmmoikbaa.Cox
variable {K : Type} [OR K]
variable (W : Tri K)
structure Ok (st : List Tl) (P : Nat → Prop) (E : Nat → Fin 3 → Prop) : Prop extends Cox.Ok W st P E where
 back : ∀ k nd i k' nd', P k → st[k]? = some nd → ¬ E k i → nd.to i = some k' → st[k']? = some nd' → nd'.to i = some k
theorem Ok.inj {st : List Tl} {P : Nat → Prop} {E : Nat → Fin 3 → Prop} (h : Ok W st P E) : ∀ (n : Nat) (k k' : Nat) (nd nd' : Tl), nd.word.length = n → P k → P k' → st[k]? = some nd → st[k']? = some nd' → nd.word = nd'.word → k = k' := by
 intro n
 induction n with
 | zero =>
  intro k k' nd nd' hl hp hp' hn hn' he
  have h0 : nd.word = [] := List.eq_nil_of_length_eq_zero hl
  rw [h.root k nd hp hn h0, h.root k' nd' hp' hn' (he ▸ h0)]
 | succ n ih =>
  intro k k' nd nd' hl hp hp' hn hn' he
  have hl0 : len W nd.word ≠ 0 := by
   rw [← nf_len, h.nf k nd hp hn, hl]; omega
  obtain ⟨i, hi, _⟩ := cand_one W hl0
  obtain ⟨a1, a2⟩ := h.known k nd i hp hn hi
  obtain ⟨b1, b2⟩ := h.known k' nd' i hp' hn' (he ▸ hi)
  cases ha : nd.to i with
  | none => exact (a1 ha).elim
  | some a =>
   cases hb : nd'.to i with
   | none => exact (b1 hb).elim
   | some b =>
    obtain ⟨pa, na, na1, na2⟩ := h.next k nd i a hp hn a2 ha
    obtain ⟨pb, nb, nb1, nb2⟩ := h.next k' nd' i b hp' hn' b2 hb
    have hla : na.word.length = n := by
     rw [na2, nf_len]
     have q : len W (nd.word ++ [i]) + 1 = len W nd.word := hi
     have q2 : len W nd.word = n + 1 := by rw [← nf_len, h.nf k nd hp hn, hl]
     omega
    have hab := ih a b na nb hla pa pb na1 nb1 (by rw [na2, nb2, he])
    subst hab
    have h1 := h.back k nd i a na hp hn a2 ha na1
    have h2 := h.back k' nd' i a na hp' hn' b2 hb na1
    rw [h1] at h2; cases h2; rfl
def Gives (f : Nat) : Prop := ∀ (st : List Tl) (P : Nat → Prop) (E : Nat → Fin 3 → Prop) (x : Nat) (w : List (Fin 3)) (s : Fin 3), Ok W st P E → (∀ k, P k → k < st.length) → At st P x w → w.length < f →
 Apart st P E (w.length + 1) →
 ∃ st' P' y, step W.m f st x s = some (st', y) ∧ Ok W st' P' E ∧ (∀ k, P' k → k < st'.length) ∧ At st' P' y (nf W (w ++ [s])) ∧ Ext st P st' P' (w.length + 1) ∧ (∀ k, st.length ≤ k → k < st'.length → P' k) ∧ (∀ k nd, st.length ≤ k → st'[k]? = some nd → Bl W nd.word (w ++ [s]))
theorem climb_ok {f : Nat} (hg : Gives W f) (n : Nat) : ∀ (st : List Tl) (P : Nat → Prop) (E : Nat → Fin 3 → Prop) (x : Nat) (w : List (Fin 3)) (a b : Fin 3) (L : Nat), Ok W st P E → (∀ k, P k → k < st.length) → At st P x (nf W w) →
 len W w + n ≤ L → L ≤ f → Apart st P E L → len W (w ++ alt a b n) = len W w + n →
 ∃ st' P' y, climb (step W.m f) n st x a b = some (st', y) ∧ Ok W st' P' E ∧ (∀ k, P' k → k < st'.length) ∧ At st' P' y (nf W (w ++ alt a b n)) ∧ Ext st P st' P' L ∧ (∀ k, st.length ≤ k → k < st'.length → P' k) ∧ (∀ k nd, st.length ≤ k → st'[k]? = some nd → Bl W nd.word (w ++ alt a b n)) := by
 induction n with
 | zero => intro st P E x w a b L ho hb hx _ _ _ _; exact ⟨st, P, x, rfl, ho, hb, by simpa [alt] using hx, Ext.refl _ _ _, fun k h1 h2 => by omega, fun k nd h1 h2 => by have := (List.getElem?_eq_some_iff.1 h2).1; omega⟩
 | succ n ih =>
  intro st P E x w a b L ho hb hx hl hf hE hway
  have hlw : (nf W w).length = len W w := nf_len W w
  obtain ⟨st1, P1, y1, e1, o1, b1, a1, x1, n1, bl1⟩ := hg st P E x (nf W w) a ho hb hx (by omega) (hE.mono (by omega))
  have hsp : w ++ [a] ++ alt b a n = w ++ alt a b (n + 1) := by simp [alt]
  have hway2 : len W (w ++ [a] ++ alt b a n) = len W (w ++ [a]) + n := by
   have q1 := len_snoc_le W w a
   have q2 := len_append_le W (w ++ [a]) (alt b a n)
   rw [alt_length] at q2
   rw [hsp] at q2 ⊢
   omega
  have hbw : Bl W (w ++ [a]) (w ++ alt a b (n + 1)) := by
   rw [← hsp]
   exact Bl.of_way W (by rw [hway2, alt_length])
  have hc : nf W (nf W w ++ [a]) = nf W (w ++ [a]) := nf_congr W (pi_right W (nf_pi W w) [a])
  rw [hc] at a1
  have x1' := x1.weaken (show (nf W w).length + 1 ≤ L by omega)
  have hl1 := len_snoc_le W w a
  obtain ⟨st2, P2, y2, e2, o2, b2, a2, x2, n2, bl2⟩ := ih st1 P1 E y1 (w ++ [a]) b a L o1 b1 a1 (by omega) hf (hE.ext x1) hway2
  refine ⟨st2, P2, y2, ?_, o2, b2, ?_, x1'.trans x2, fun k h1 h2 => ?_, fun k nd h1 h2 => ?_⟩
  · simp only [climb, e1, Option.bind_some]; exact e2
  · have : w ++ [a] ++ alt b a n = w ++ alt a b (n + 1) := by simp [alt]
    rwa [this] at a2
  · rcases Nat.lt_or_ge k st1.length with h3 | h3
    · exact x2.more k (n1 k h1 h3)
    · exact n2 k h3 h2
  · rcases Nat.lt_or_ge k st1.length with h3 | h3
    · have h4 : st1[k]? = some st1[k] := List.getElem?_eq_getElem h3
      obtain ⟨nd', g1, g2, _⟩ := x2.kept k _ (n1 k h1 h3) h4
      rw [h2] at g1; cases g1
      rw [g2]
      exact (Bl.congr W rfl (pi_right W (nf_pi W w) [a]) (bl1 k _ h1 h4)).trans W hbw
    · have := bl2 k nd h3 h2
      rwa [hsp] at this
structure Half (st0 : List Tl) (P0 : Nat → Prop) (st : List Tl) (P : Nat → Prop) (E : Nat → Fin 3 → Prop) (w : List (Fin 3)) (y : Nat) (s : Fin 3) (done : Fin 3 → Prop) (F : Nat → Fin 3 → Prop) : Prop where
 ok : Ok W st P (fun k i => E k i ∨ F k i)
 bound : ∀ k, P k → k < st.length
 notP : ¬ P y
 new : st0.length ≤ y
 ext : Ext st0 P0 st P (w.length + 1)
 apart : Apart st P E (w.length + 1)
 sides : ∀ k i, F k i → P k ∧ ∃ nd, st[k]? = some nd ∧ nd.word.length = w.length ∧ pi W (nd.word ++ [i]) = pi W (w ++ [s]) ∧ nd.to i = some y ∧ (∀ ny, st[y]? = some ny → ny.to i = some k)
 all : ∀ k, st0.length ≤ k → k < st.length → P k ∨ k = y
 below : ∀ k nd, st0.length ≤ k → P k → st[k]? = some nd → Bl W nd.word (w ++ [s])
 here : ∃ ny, st[y]? = some ny ∧
  (∀ i, ny.down i = true ↔ (i = s ∨ done i) ∧ Down W (w ++ [s]) i) ∧
  (∀ i, (i = s ∨ done i) → Down W (w ++ [s]) i → lex (cand W (w ++ [s]) i) ny.word = false ∧ ∃ k, ny.to i = some k ∧ At st P k (nf W (w ++ [s] ++ [i])) ∧ (∀ nk, st[k]? = some nk → nk.to i = some y)) ∧
  (∃ i, Down W (w ++ [s]) i ∧ ny.word = cand W (w ++ [s]) i) ∧
  (∀ i, ¬ ((i = s ∨ done i) ∧ Down W (w ++ [s]) i) → ny.to i = none)
theorem half_congr {st0 : List Tl} {P0 : Nat → Prop} {st : List Tl} {P : Nat → Prop} {E : Nat → Fin 3 → Prop} {w : List (Fin 3)} {y : Nat} {s : Fin 3} {done done' : Fin 3 → Prop} {F : Nat → Fin 3 → Prop}
 (hh : Half W st0 P0 st P E w y s done F) (h : ∀ i, Down W (w ++ [s]) i → ((i = s ∨ done i) ↔ (i = s ∨ done' i))) : Half W st0 P0 st P E w y s done' F := by
 refine ⟨hh.ok, hh.bound, hh.notP, hh.new, hh.ext, hh.apart, hh.sides, hh.all, hh.below, ?_⟩
 obtain ⟨ny, h1, h2, h3, h4, h5⟩ := hh.here
 refine ⟨ny, h1, fun i => ?_, fun i hi hd => h3 i ((h i hd).2 hi) hd, h4, fun i hi => h5 i fun g => hi ⟨(h i g.2).1 g.1, g.2⟩⟩
 rw [h2 i]
 constructor
 · rintro ⟨a, b⟩; exact ⟨(h i b).1 a, b⟩
 · rintro ⟨a, b⟩; exact ⟨(h i b).2 a, b⟩
theorem round_ok {f : Nat} (hg : Gives W f) {st0 : List Tl} {P0 : Nat → Prop} {st : List Tl} {P : Nat → Prop} {E : Nat → Fin 3 → Prop} {x y : Nat} {w : List (Fin 3)} {s : Fin 3} (t : Fin 3) {done : Fin 3 → Prop} {F : Nat → Fin 3 → Prop}
 (hw : nf W w = w) (hs : ¬ Down W w s) (hf : w.length ≤ f) (hx0 : At st0 P0 x w) (hh : Half W st0 P0 st P E w y s done F) (hdn : ¬ done t) (hFx : F x s) :
 ∃ st' P' F', round W.m f (step W.m f) st x y s t = some st' ∧ Half W st0 P0 st' P' E w y s (fun i => done i ∨ i = t) F' ∧ (∀ k i, F k i → F' k i) := by
 have hx := hh.ext.at hx0
 have hlw : len W w = w.length := by rw [← nf_len, hw]
 have stay : (¬ Down W (w ++ [s]) t ∨ t = s) → Half W st0 P0 st P E w y s (fun i => done i ∨ i = t) F := by
  intro h
  refine half_congr W hh fun i hd => ?_
  constructor
  · rintro (a | a)
    · exact .inl a
    · exact .inr (.inl a)
  · rintro (a | a | a)
    · exact .inl a
    · exact .inr a
    · subst a
      rcases h with h | h
      · exact (h hd).elim
      · exact .inl h
 unfold round
 by_cases hts : t = s
 · rw [if_pos (.inl hts)]; exact ⟨st, P, F, rfl, stay (.inr hts), fun _ _ h => h⟩
 by_cases hm : W.m s t = 0
 · rw [if_pos (.inr hm)]
   exact ⟨st, P, F, rfl, stay (.inl fun h => ((down_other W (Ne.symm hts) hs).1 h).1 hm), fun _ _ h => h⟩
 rw [if_neg (by rintro (h | h); exact hts h; exact hm h)]
 obtain ⟨l1, l2⟩ := lowest_ok W hh.ok.toOk (W.m s t - 1) x t s w hx
 by_cases hfall : Falls W w t s (W.m s t - 1)
 case neg =>
  rw [l2 hfall]
  exact ⟨st, P, F, rfl, stay (.inl fun h => hfall ((down_other W (Ne.symm hts) hs).1 h).2), fun _ _ h => h⟩
 have hdt : Down W (w ++ [s]) t := (down_other W (Ne.symm hts) hs).2 ⟨hm, hfall⟩
 obtain ⟨v, e1, av⟩ := l1 hfall
 rw [e1]
 have hfl := falls_len W hfall
 have hup := up_other W (x := w) (Ne.symm hts) hm
 have hdl : len W (w ++ [s] ++ [t]) = w.length := by
  have a : len W (w ++ [s] ++ [t]) + 1 = len W (w ++ [s]) := hdt
  have := not_down W hs
  omega
 have hway : len W (w ++ alt t s (W.m s t - 1) ++ alt (if W.m s t % 2 = 0 then s else t) (if W.m s t % 2 = 0 then t else s) (W.m s t - 1)) = len W (w ++ alt t s (W.m s t - 1)) + (W.m s t - 1) := by
  have q : pi W (w ++ alt t s (W.m s t - 1) ++ alt (if W.m s t % 2 = 0 then s else t) (if W.m s t % 2 = 0 then t else s) (W.m s t - 1)) = pi W (w ++ [s] ++ [t]) := by
   rw [pi_snoc W (w ++ [s]), ← hup, ← pi_snoc, pi_back]
  rw [len_congr W q, hdl]
  omega
 obtain ⟨st1, P1, z, e2, o1, b1, az, x1, n1, bl1⟩ := climb_ok W hg (W.m s t - 1) st P (fun k i => E k i ∨ F k i) v (w ++ alt t s (W.m s t - 1))
  (if W.m s t % 2 = 0 then s else t) (if W.m s t % 2 = 0 then t else s) w.length hh.ok hh.bound av (by omega) hf (by
    intro k i h
    rcases h with h | h
    · exact (hh.apart.mono (by omega)) k i h
    · obtain ⟨_, nd, h2, h3, _⟩ := hh.sides k i h
      refine ⟨(List.getElem?_eq_some_iff.1 h2).1, fun nd' _ h' => ?_⟩
      rw [h2] at h'; cases h'; omega) hway
 generalize hr : w ++ alt t s (W.m s t - 1) ++ alt (if W.m s t % 2 = 0 then s else t) (if W.m s t % 2 = 0 then t else s) (W.m s t - 1) = r at hup az bl1
 have hrz : pi W r = pi W (w ++ [s] ++ [t]) := by
  rw [pi_snoc W (w ++ [s]), ← hup, ← pi_snoc, pi_back]
 rw [nf_congr W hrz] at az
 have hlz : (nf W (w ++ [s] ++ [t])).length = w.length := by
  rw [nf_len]
  have a : len W (w ++ [s] ++ [t]) + 1 = len W (w ++ [s]) := hdt
  have := not_down W hs
  omega
 generalize hwz : nf W (w ++ [s] ++ [t]) = wz at az hlz
 have hzt : pi W (wz ++ [t]) = pi W (w ++ [s]) := by
  rw [← hwz, pi_snoc, nf_pi, ← pi_snoc, pi_back]
 have hcz : wz ++ [t] = cand W (w ++ [s]) t := by rw [← hwz]; rfl
 have hnz : ¬ Down W wz t := by
  intro h
  have a : len W (wz ++ [t]) + 1 = len W wz := h
  rw [len_congr W hzt] at a
  have := len_le W wz
  have := not_down W hs
  omega
 obtain ⟨pz, nz, hnz1, hnz2⟩ := az
 obtain ⟨ny, y1, y2, y3, y4, y5⟩ := hh.here
 have hyl : y < st.length := (List.getElem?_eq_some_iff.1 y1).1
 have hy1 : ¬ P1 y := fun h => hh.notP (x1.old y hyl h)
 have hyn : st1[y]? = some ny := by rw [x1.out y hyl hh.notP]; exact y1
 have hzy : z ≠ y := by rintro rfl; exact hy1 pz
 have hyt : ny.to t = none := y5 t fun h => by
  rcases h.1 with h | h
  · exact hts h
  · exact hdn h
 have hzt0 : nz.to t = none := by
  cases hq : nz.to t with
  | none => rfl
  | some q =>
   exfalso
   have hnE : ¬ (E z t ∨ F z t) := by
    rintro (h | h)
    · have := ((hh.apart.ext x1) z t h).2 nz pz hnz1
      rw [hnz2, hlz] at this; omega
    · obtain ⟨_, _, _, _, _, _, h6⟩ := hh.sides z t h
      rw [h6 ny y1] at hyt; cases hyt
   have aq := o1.next z nz t q pz hnz1 hnE hq
   rw [hnz2, nf_congr W hzt] at aq
   obtain ⟨pq, nq, hq1, hq2⟩ := aq
   have hdq : Down W nq.word s := by
    rw [hq2, down_congr W (nf_pi W (w ++ [s])), down_snoc]; exact hs
   obtain ⟨k1, k2⟩ := o1.known q nq s pq hq1 hdq
   cases hk : nq.to s with
   | none => exact (k1 hk).elim
   | some k =>
    obtain ⟨pk, nk, hk1, hk2⟩ := o1.next q nq s k pq hq1 k2 hk
    have e1 : nk.word = w := by
     rw [hk2, hq2, nf_congr W (pi_right W (nf_pi W (w ++ [s])) [s]), nf_congr W (pi_back W w s), hw]
    obtain ⟨hxP, nx, hx1, hx2⟩ := x1.at hx
    have e2 : k = x := o1.inj _ _ k x nk nx rfl pk hxP hk1 hx1 (e1.trans hx2.symm)
    subst e2
    have e3 := o1.back q nq s k nk pq hq1 k2 hk hk1
    obtain ⟨g1, nd, g2, g3, g4, g5, _⟩ := hh.sides k s hFx
    have g6 := x1.same k nd g1 g2 (by omega)
    rw [hk1] at g6; cases g6
    rw [e3] at g5; cases g5
    exact hy1 pq
 simp only [Option.bind_some, e2]
 have g2 := fun k => getElem?_link (st := st1) (s := t) hzy k
 have l2z : (link st1 z y t)[z]? = some { nz with to := upd nz.to t (some y) } := by rw [g2, if_pos rfl, hnz1]; rfl
 have l2y : (link st1 z y t)[y]? = some { ny with to := upd ny.to t (some z), down := upd ny.down t true } := by
  rw [g2, if_neg (Ne.symm hzy), if_pos rfl, hyn]; rfl
 have hb : better f (link st1 z y t) z y t = some (if lex (wz ++ [t]) ny.word then (link st1 z y t).modify y fun n => { n with word := wz ++ [t] } else link st1 z y t) := by
  unfold better
  rw [l2z, l2y]
  simp only [Option.bind_some, hnz2]
  rw [if_neg (by rintro (h | h); exact hzy h; omega)]
 rw [hb]
 let word := if lex (wz ++ [t]) ny.word then wz ++ [t] else ny.word
 have hst : ∃ st3, (if lex (wz ++ [t]) ny.word then (link st1 z y t).modify y fun n => { n with word := wz ++ [t] } else link st1 z y t) = st3 ∧ st3.length = st1.length ∧
  (∀ k, k ≠ z → k ≠ y → st3[k]? = st1[k]?) ∧ st3[z]? = some { nz with to := upd nz.to t (some y) } ∧
  st3[y]? = some { ny with word := word, to := upd ny.to t (some z), down := upd ny.down t true } := by
  refine ⟨_, rfl, ?_, ?_, ?_, ?_⟩
  · split <;> simp [length_link]
  · intro k h1 h2
    have : (link st1 z y t)[k]? = st1[k]? := by rw [g2, if_neg h1, if_neg h2]
    split
    · rw [modify_eq, if_neg h2, this]
    · exact this
  · split
    · rw [modify_eq, if_neg hzy, l2z]
    · exact l2z
  · by_cases hx : lex (wz ++ [t]) ny.word = true
    · rw [if_pos hx, modify_eq, if_pos rfl, l2y]
      show some _ = some _
      simp only [word, if_pos hx]
    · rw [if_neg hx, l2y]
      simp only [word, if_neg hx]
 obtain ⟨st3, hst3, hlen3, h3o, h3z, h3y⟩ := hst
 rw [hst3]
 have tiles : ∀ k nd, P1 k → st3[k]? = some nd → ∃ nd1, st1[k]? = some nd1 ∧ nd.word = nd1.word ∧ nd.down = nd1.down ∧ nd.lev = nd1.lev ∧ (∀ i, ¬ (k = z ∧ i = t) → nd.to i = nd1.to i) ∧ (k = z → nd.to t = some y) ∧ (k ≠ z → nd = nd1) := by
  intro k nd hp hn
  by_cases hkz : k = z
  · subst hkz
    rw [h3z] at hn; cases hn
    refine ⟨nz, hnz1, rfl, rfl, rfl, fun i hi => upd_ne _ _ (fun e => hi ⟨rfl, e⟩), fun _ => upd_same _ _ _, fun h => (h rfl).elim⟩
  · have hky : k ≠ y := by rintro rfl; exact hy1 hp
    rw [h3o k hkz hky] at hn
    exact ⟨nd, hn, rfl, rfl, rfl, fun _ _ => rfl, fun h => (hkz h).elim, fun _ => rfl⟩
 have tiles' : ∀ k nd1, P1 k → st1[k]? = some nd1 → ∃ nd, st3[k]? = some nd := by
  intro k nd1 hp hn
  have : k < st3.length := by rw [hlen3]; exact b1 k hp
  exact ⟨st3[k], List.getElem?_eq_getElem this⟩
 have at3 : ∀ k u, At st1 P1 k u → At st3 P1 k u := by
  rintro k u ⟨hp, nd1, hn, hu⟩
  obtain ⟨nd, hn'⟩ := tiles' k nd1 hp hn
  obtain ⟨nd1', g1, g2, _⟩ := tiles k nd hp hn'
  rw [hn] at g1; cases g1
  exact ⟨hp, nd, hn', g2.trans hu⟩
 have ext3 : Ext st0 P0 st3 P1 (w.length + 1) := by
  have e01 : Ext st0 P0 st1 P1 (w.length + 1) := hh.ext.trans (x1.weaken (by omega))
  refine ⟨by rw [hlen3]; exact e01.len, e01.more, e01.old, ?_, ?_, ?_⟩
  · intro k hk hp
    have hkz : k ≠ z := by rintro rfl; exact hp (e01.old k hk pz)
    have hky : k ≠ y := by have := hh.new; omega
    rw [h3o k hkz hky]; exact e01.out k hk hp
  · intro k nd hp hn hl
    have h1 := e01.same k nd hp hn hl
    have hkz : k ≠ z := by
     rintro rfl
     rw [hnz1] at h1; cases h1
     rw [hnz2] at hl; omega
    have hky : k ≠ y := by rintro rfl; exact hy1 (e01.more k hp)
    rw [h3o k hkz hky]; exact h1
  · intro k nd hp hn
    obtain ⟨nd1, g1, g2, g3, g4⟩ := e01.kept k nd hp hn
    obtain ⟨nd3, hn3⟩ := tiles' k nd1 (e01.more k hp) g1
    obtain ⟨nd1', q1, q2, q3, q4, _⟩ := tiles k nd3 (e01.more k hp) hn3
    rw [g1] at q1; cases q1
    exact ⟨nd3, hn3, q2.trans g2, q3.trans g3, q4.trans g4⟩
 have hF3 : ∀ k i, F k i ∨ (k = z ∧ i = t) → P1 k ∧ ∃ nd, st3[k]? = some nd ∧ nd.word.length = w.length ∧ pi W (nd.word ++ [i]) = pi W (w ++ [s]) ∧ nd.to i = some y ∧ (∀ ny, st3[y]? = some ny → ny.to i = some k) := by
  intro k i h
  by_cases hz : k = z ∧ i = t
  · obtain ⟨rfl, rfl⟩ := hz
    refine ⟨pz, _, h3z, ?_, ?_, upd_same _ _ _, fun ny' h => by rw [h3y] at h; cases h; exact upd_same _ _ _⟩
    · show nz.word.length = _; rw [hnz2]; exact hlz
    · show pi W (nz.word ++ [i]) = _; rw [hnz2]; exact hzt
  · rcases h with h | h
    · obtain ⟨hp, nd, h2, h3, h4, h5, h6⟩ := hh.sides k i h
      have hs1 := x1.same k nd hp h2 (by omega)
      obtain ⟨nd3, hn3⟩ := tiles' k nd (x1.more k hp) hs1
      obtain ⟨nd1', q1, q2, q3, q4, q5, _⟩ := tiles k nd3 (x1.more k hp) hn3
      rw [hs1] at q1; cases q1
      refine ⟨x1.more k hp, nd3, hn3, by rw [q2]; exact h3, by rw [q2]; exact h4, by rw [q5 i hz]; exact h5, fun ny' h => ?_⟩
      rw [h3y] at h; cases h
      have h7 := h6 ny y1
      have hit : i ≠ t := by rintro rfl; rw [hyt] at h7; cases h7
      show upd ny.to t (some z) i = some k
      rw [upd_ne _ _ hit]; exact h7
    · exact (hz h).elim
 refine ⟨st3, P1, fun k i => F k i ∨ (k = z ∧ i = t), rfl, ?_, fun _ _ h => .inl h⟩
 refine ⟨⟨⟨?_, ?_, ?_, ?_, ?_⟩, ?_⟩, fun k hp => by rw [hlen3]; exact b1 k hp, hy1, hh.new, ext3, ?_, hF3, ?_, ?_, ?_⟩
 · intro k nd hp hn
   obtain ⟨nd1, q1, q2, _⟩ := tiles k nd hp hn
   rw [q2]; exact o1.nf k nd1 hp q1
 · intro k nd i hp hn
   obtain ⟨nd1, q1, q2, q3, _⟩ := tiles k nd hp hn
   rw [q2, q3]; exact o1.down k nd1 i hp q1
 · intro k nd i hp hn hd
   obtain ⟨nd1, q1, q2, q3, q4, q5, q6, _⟩ := tiles k nd hp hn
   rw [q2] at hd
   obtain ⟨k1, k2⟩ := o1.known k nd1 i hp q1 hd
   have hz : ¬ (k = z ∧ i = t) := by
    rintro ⟨rfl, rfl⟩
    rw [hnz1] at q1; cases q1
    rw [hnz2] at hd; exact hnz hd
   refine ⟨by rw [q5 i hz]; exact k1, ?_⟩
   rintro (h | h | h)
   · exact k2 (.inl h)
   · exact k2 (.inr h)
   · exact hz h
 · intro k nd i k' hp hn he ht
   obtain ⟨nd1, q1, q2, q3, q4, q5, q6, _⟩ := tiles k nd hp hn
   have hz : ¬ (k = z ∧ i = t) := fun h => he (.inr (.inr h))
   rw [q5 i hz] at ht
   rw [q2]
   exact at3 _ _ (o1.next k nd1 i k' hp q1 (fun h => he (by rcases h with h | h; exact .inl h; exact .inr (.inl h))) ht)
 · intro k nd hp hn hwd
   obtain ⟨nd1, q1, q2, _⟩ := tiles k nd hp hn
   exact o1.root k nd1 hp q1 (by rw [← q2]; exact hwd)
 · intro k nd i k' nd' hp hn he ht hn'
   obtain ⟨nd1, q1, q2, q3, q4, q5, q6, _⟩ := tiles k nd hp hn
   have hz : ¬ (k = z ∧ i = t) := fun h => he (.inr (.inr h))
   rw [q5 i hz] at ht
   have he1 : ¬ (E k i ∨ F k i) := fun h => he (by rcases h with h | h; exact .inl h; exact .inr (.inl h))
   obtain ⟨pk', nd1', g1, _⟩ := o1.next k nd1 i k' hp q1 he1 ht
   have g2 := o1.back k nd1 i k' nd1' hp q1 he1 ht g1
   obtain ⟨nd1'', r1, r2, r3, r4, r5, _⟩ := tiles k' nd' pk' hn'
   rw [g1] at r1; cases r1
   have hz' : ¬ (k' = z ∧ i = t) := by
    rintro ⟨rfl, rfl⟩
    rw [hnz1] at g1; cases g1
    rw [hzt0] at g2; cases g2
   rw [r5 i hz']; exact g2
 · intro k i h
   have := (hh.apart.ext x1) k i h
   refine ⟨by rw [hlen3]; exact this.1, fun nd hp hn => ?_⟩
   obtain ⟨nd1, q1, q2, _⟩ := tiles k nd hp hn
   rw [q2]; exact this.2 nd1 hp q1
 · intro k h1 h2
   rw [hlen3] at h2
   rcases Nat.lt_or_ge k st.length with h3 | h3
   · rcases hh.all k h1 h3 with h | h
     · exact .inl (x1.more k h)
     · exact .inr h
   · exact .inl (n1 k h3 h2)
 · intro k nd h1 hp hn
   obtain ⟨nd1, q1, q2, _⟩ := tiles k nd hp hn
   rw [q2]
   rcases Nat.lt_or_ge k st.length with h3 | h3
   · have hp0 := x1.old k h3 hp
     have h4 : st[k]? = some st[k] := List.getElem?_eq_getElem h3
     obtain ⟨nd', g1, g2, _⟩ := x1.kept k _ hp0 h4
     rw [q1] at g1; cases g1
     rw [g2]; exact hh.below k _ h1 hp0 h4
   · have g1 := bl1 k nd1 h3 q1
     have g2 : Bl W (w ++ [s] ++ [t]) (w ++ [s] ++ [t] ++ [t]) := by
      refine Bl.of_way W ?_
      rw [len_congr W (pi_back W (w ++ [s]) t), hdl]
      have := not_down W hs
      simp only [List.length_cons, List.length_nil]
      omega
     exact (Bl.congr W rfl hrz g1).trans W (Bl.congr W rfl (pi_back W (w ++ [s]) t) g2)
 · refine ⟨_, h3y, ?_, ?_, ?_, ?_⟩
   · intro i
     show upd ny.down t true i = true ↔ _
     by_cases hi : i = t
     · subst hi; rw [upd_same]; exact ⟨fun _ => ⟨.inr (.inr rfl), hdt⟩, fun _ => rfl⟩
     · rw [upd_ne _ _ hi, y2 i]
       constructor
       · rintro ⟨a, b⟩; refine ⟨?_, b⟩; rcases a with a | a; exact .inl a; exact .inr (.inl a)
       · rintro ⟨a | a | a, b⟩
         · exact ⟨.inl a, b⟩
         · exact ⟨.inr a, b⟩
         · exact (hi a).elim
   · intro i hi hd
     by_cases hit : i = t
     · subst hit
       refine ⟨?_, z, upd_same _ _ _, ?_, fun nk hk => by rw [h3z] at hk; cases hk; exact upd_same _ _ _⟩
       · show lex (cand W (w ++ [s]) i) word = false
         simp only [word]
         split
         · rw [← hcz]; exact lex_irrefl _
         · rename_i h; rw [← hcz]; simpa using h
       · rw [hwz]; exact at3 _ _ ⟨pz, nz, hnz1, hnz2⟩
     · have hi' : i = s ∨ done i := by
        rcases hi with a | a | a
        · exact .inl a
        · exact .inr a
        · exact (hit a).elim
       obtain ⟨h1, k, h2, h3, h4⟩ := y3 i hi' hd
       refine ⟨?_, k, ?_, at3 _ _ (x1.at h3), fun nk3 hk3 => ?_⟩
       · show lex (cand W (w ++ [s]) i) word = false
         simp only [word]
         split
         · rename_i hl
           cases hc : lex (cand W (w ++ [s]) i) (wz ++ [t]) with
           | false => rfl
           | true => rw [lex_trans hc hl] at h1; cases h1
         · exact h1
       · show upd ny.to t (some z) i = some k
         rw [upd_ne _ _ hit]; exact h2
       · obtain ⟨pk, nk, hk1, hk2⟩ := h3
         have hl : w.length ≤ nk.word.length := by
          rw [hk2, nf_len]
          have a : len W (w ++ [s] ++ [i]) + 1 = len W (w ++ [s]) := hd
          have := not_down W hs
          omega
         have hs1 := x1.same k nk pk hk1 hl
         obtain ⟨nk1, q1, q2, q3, q4, q5, _⟩ := tiles k nk3 (x1.more k pk) hk3
         rw [hs1] at q1; cases q1
         rw [q5 i (fun h => hit h.2)]; exact h4 nk hk1
   · show ∃ i, Down W (w ++ [s]) i ∧ word = cand W (w ++ [s]) i
     simp only [word]
     split
     · exact ⟨t, hdt, hcz⟩
     · exact y4
   · intro i hi
     show upd ny.to t (some z) i = none
     by_cases hit : i = t
     · subst hit; exact (hi ⟨.inr (.inr rfl), hdt⟩).elim
     · rw [upd_ne _ _ hit]
       refine y5 i fun h => hi ⟨?_, h.2⟩
       rcases h.1 with a | a
       · exact .inl a
       · exact .inr (.inl a)
theorem step_ok (f : Nat) : Gives W f := by
 induction f with
 | zero => intro st P E x w s _ _ _ h _; omega
 | succ f hg =>
  intro st P E x w s ho hb hx hf hE
  obtain ⟨px, nd, hn, hnw⟩ := hx
  have hx : At st P x w := ⟨px, nd, hn, hnw⟩
  have hw : nf W w = w := by rw [← hnw]; exact ho.nf x nd px hn
  have hlw : len W w = w.length := by rw [← nf_len, hw]
  have hxs : ¬ E x s := fun h => by
   have := (hE x s h).2 nd px hn
   rw [hnw] at this; omega
  unfold step
  rw [hn, Option.bind_some, if_neg (by rw [hnw]; omega)]
  cases ht : nd.to s with
  | some y =>
   have := ho.next x nd s y px hn hxs ht
   rw [hnw] at this
   exact ⟨st, P, y, rfl, ho, hb, this, Ext.refl _ _ _, fun k h1 h2 => by omega, fun k nd h1 h2 => by have := (List.getElem?_eq_some_iff.1 h2).1; omega⟩
  | none =>
   have hs : ¬ Down W w s := fun h => by
    have := (ho.known x nd s px hn (by rw [hnw]; exact h)).1
    exact this ht
   have hxl : x < st.length := hb x px
   have hxy : x ≠ st.length := by omega
   have g := fun k => getElem?_link (st := st ++ [fresh nd s]) (s := s) hxy k
   have gx : (link (st ++ [fresh nd s]) x st.length s)[x]? = some { nd with to := upd nd.to s (some st.length) } := by
    rw [g, if_pos rfl, List.getElem?_append_left hxl, hn]; rfl
   have gy : (link (st ++ [fresh nd s]) x st.length s)[st.length]? = some { fresh nd s with to := upd (fresh nd s).to s (some x), down := upd (fresh nd s).down s true } := by
    rw [g, if_neg (Ne.symm hxy), if_pos rfl]
    simp
   have go : ∀ k, k ≠ x → k < st.length → (link (st ++ [fresh nd s]) x st.length s)[k]? = st[k]? := by
    intro k h1 h2
    rw [g, if_neg h1, if_neg (by omega), List.getElem?_append_left h2]
   have gl : (link (st ++ [fresh nd s]) x st.length s).length = st.length + 1 := by rw [length_link]; simp
   generalize hst1 : link (st ++ [fresh nd s]) x st.length s = st1 at g gx gy go gl
   have tiles : ∀ k nk, P k → st1[k]? = some nk → ∃ nd1, st[k]? = some nd1 ∧ nk.word = nd1.word ∧ nk.down = nd1.down ∧ nk.lev = nd1.lev ∧ (∀ i, ¬ (k = x ∧ i = s) → nk.to i = nd1.to i) ∧ (k ≠ x → nk = nd1) := by
    intro k nk hp h
    by_cases hk : k = x
    · subst hk
      rw [gx] at h; cases h
      exact ⟨nd, hn, rfl, rfl, rfl, fun i hi => upd_ne _ _ (fun e => hi ⟨rfl, e⟩), fun h => (h rfl).elim⟩
    · rw [go k hk (hb k hp)] at h
      exact ⟨nk, h, rfl, rfl, rfl, fun _ _ => rfl, fun _ => rfl⟩
   have tiles' : ∀ k, P k → ∃ nk, st1[k]? = some nk := by
    intro k hp
    have : k < st1.length := by rw [gl]; have := hb k hp; omega
    exact ⟨st1[k], List.getElem?_eq_getElem this⟩
   have at1 : ∀ k u, At st P k u → At st1 P k u := by
    rintro k u ⟨hp, n1, h1, hu⟩
    obtain ⟨nk, hk⟩ := tiles' k hp
    obtain ⟨n1', q1, q2, _⟩ := tiles k nk hp hk
    rw [h1] at q1; cases q1
    exact ⟨hp, nk, hk, q2.trans hu⟩
   have hds : Down W (w ++ [s]) s := by rw [down_snoc]; exact hs
   have hback : pi W (w ++ [s] ++ [s]) = pi W w := pi_back W w s
   have hcs : w ++ [s] = cand W (w ++ [s]) s := by unfold cand; rw [nf_congr W hback, hw]
   have half0 : Half W st P st1 P E w st.length s (fun _ => False) (fun k i => k = x ∧ i = s) := by
    refine ⟨⟨⟨?_, ?_, ?_, ?_, ?_⟩, ?_⟩, fun k hp => by rw [gl]; have := hb k hp; omega, fun h => by have := hb _ h; omega, Nat.le_refl _, ⟨by rw [gl]; omega, fun _ h => h, fun _ _ h => h, ?_, ?_, ?_⟩, ?_, ?_, fun k h1 h2 => .inr (by rw [gl] at h2; omega), fun k nd h1 hp _ => by have := hb k hp; omega, ?_⟩
    · intro k nk hp h
      obtain ⟨n1, q1, q2, _⟩ := tiles k nk hp h
      rw [q2]; exact ho.nf k n1 hp q1
    · intro k nk i hp h
      obtain ⟨n1, q1, q2, q3, _⟩ := tiles k nk hp h
      rw [q2, q3]; exact ho.down k n1 i hp q1
    · intro k nk i hp h hd
      obtain ⟨n1, q1, q2, q3, q4, q5, _⟩ := tiles k nk hp h
      rw [q2] at hd
      obtain ⟨k1, k2⟩ := ho.known k n1 i hp q1 hd
      have hz : ¬ (k = x ∧ i = s) := by
       rintro ⟨rfl, rfl⟩
       rw [hn] at q1; cases q1
       rw [hnw] at hd; exact hs hd
      refine ⟨by rw [q5 i hz]; exact k1, ?_⟩
      rintro (h | h)
      · exact k2 h
      · exact hz h
    · intro k nk i k' hp h he hto
      obtain ⟨n1, q1, q2, q3, q4, q5, _⟩ := tiles k nk hp h
      have hz : ¬ (k = x ∧ i = s) := fun h => he (.inr h)
      rw [q5 i hz] at hto
      rw [q2]
      exact at1 _ _ (ho.next k n1 i k' hp q1 (fun h => he (.inl h)) hto)
    · intro k nk hp h hwd
      obtain ⟨n1, q1, q2, _⟩ := tiles k nk hp h
      exact ho.root k n1 hp q1 (by rw [← q2]; exact hwd)
    · intro k nk i k' nk' hp h he hto h'
      obtain ⟨n1, q1, q2, q3, q4, q5, _⟩ := tiles k nk hp h
      have hz : ¬ (k = x ∧ i = s) := fun h => he (.inr h)
      rw [q5 i hz] at hto
      obtain ⟨pk', n1', g1, _⟩ := ho.next k n1 i k' hp q1 (fun h => he (.inl h)) hto
      have g2 := ho.back k n1 i k' n1' hp q1 (fun h => he (.inl h)) hto g1
      obtain ⟨n1'', r1, r2, r3, r4, r5, _⟩ := tiles k' nk' pk' h'
      rw [g1] at r1; cases r1
      have hz' : ¬ (k' = x ∧ i = s) := by
       rintro ⟨rfl, rfl⟩
       rw [hn] at g1; cases g1
       rw [ht] at g2; cases g2
      rw [r5 i hz']; exact g2
    · intro k hk hp
      have : k ≠ x := by rintro rfl; exact hp px
      exact go k this hk
    · intro k nk hp h hl
      have : k ≠ x := by
       rintro rfl
       rw [hn] at h; cases h
       rw [hnw] at hl; omega
      rw [go k this (hb k hp)]; exact h
    · intro k nk hp h
      obtain ⟨n1, h1⟩ := tiles' k hp
      obtain ⟨n1', q1, q2, q3, q4, _⟩ := tiles k n1 hp h1
      rw [h] at q1; cases q1
      exact ⟨n1, h1, q2, q3, q4⟩
    · intro k i h
      have := hE k i h
      refine ⟨by rw [gl]; omega, fun nk hp hk => ?_⟩
      obtain ⟨n1, q1, q2, _⟩ := tiles k nk hp hk
      rw [q2]; exact this.2 n1 hp q1
    · rintro k i ⟨rfl, rfl⟩
      refine ⟨px, _, gx, ?_, ?_, upd_same _ _ _, fun ny h => by rw [gy] at h; cases h; exact upd_same _ _ _⟩
      · show nd.word.length = _; rw [hnw]
      · show pi W (nd.word ++ [i]) = _; rw [hnw]
    · refine ⟨_, gy, ?_, ?_, ?_, ?_⟩
      · intro i
        show upd (fun _ => false) s true i = true ↔ _
        by_cases hi : i = s
        · subst hi; rw [upd_same]; exact ⟨fun _ => ⟨.inl rfl, hds⟩, fun _ => rfl⟩
        · rw [upd_ne _ _ hi]
          constructor
          · intro h; cases h
          · rintro ⟨a | a, _⟩
            · exact (hi a).elim
            · exact a.elim
      · rintro i (rfl | h) hd
        · refine ⟨?_, x, upd_same _ _ _, ?_, fun nk hk => by rw [gx] at hk; cases hk; exact upd_same _ _ _⟩
          · show lex (cand W (w ++ [i]) i) (nd.word ++ [i]) = false
            rw [hnw, ← hcs]; exact lex_irrefl _
          · rw [nf_congr W hback, hw]; exact at1 _ _ hx
        · exact h.elim
      · exact ⟨s, hds, by show nd.word ++ [s] = _; rw [hnw]; exact hcs⟩
      · intro i hi
        show upd (fun _ => none) s (some x) i = none
        by_cases his : i = s
        · subst his; exact (hi ⟨.inl rfl, hds⟩).elim
        · rw [upd_ne _ _ his]
   obtain ⟨sa, Pa, Fa, ea, ha, fa⟩ := round_ok W hg 0 (x := x) hw hs (by omega) hx half0 (fun h => h) ⟨rfl, rfl⟩
   obtain ⟨sb, Pb, Fb, eb, hb', fb⟩ := round_ok W hg 1 (x := x) hw hs (by omega) hx ha (by rintro (h | h); exact h; cases h) (fa _ _ ⟨rfl, rfl⟩)
   obtain ⟨sc, Pc, Fc, ec, hc, fc⟩ := round_ok W hg 2 (x := x) hw hs (by omega) hx hb' (by rintro ((h | h) | h); exact h; cases h; cases h) (fb _ _ (fa _ _ ⟨rfl, rfl⟩))
   simp only [ea, eb, ec, Option.bind_some]
   obtain ⟨ny, y1, y2, y3, y4, y5⟩ := hc.here
   have all : ∀ i : Fin 3, i = s ∨ (((False ∨ i = 0) ∨ i = 1) ∨ i = 2) := by
    intro i
    right
    match i with
    | 0 => exact .inl (.inl (.inr rfl))
    | 1 => exact .inl (.inr rfl)
    | 2 => exact .inr rfl
   have hl0 : len W (w ++ [s]) ≠ 0 := by have := not_down W hs; omega
   have hny : ny.word = nf W (w ++ [s]) := by
    obtain ⟨i, hi, hwi⟩ := y4
    obtain ⟨j, hj, hwj⟩ := cand_one W hl0
    have h1 := (y3 j (all j) hj).1
    rw [← hwj] at h1
    have h2 := cand_min W hi
    rw [← hwi] at h2
    refine Classical.byContradiction fun hne => ?_
    have := lex_total hne h2
    rw [h1] at this; cases this
   have hyb : st.length < sc.length := (List.getElem?_eq_some_iff.1 y1).1
   refine ⟨sc, fun k => Pc k ∨ k = st.length, st.length, rfl, ⟨⟨?_, ?_, ?_, ?_, ?_⟩, ?_⟩, ?_, ⟨.inr rfl, ny, y1, hny⟩, ⟨hc.ext.len, fun k h => .inl (hc.ext.more k h), ?_, hc.ext.out, hc.ext.same, hc.ext.kept⟩, hc.all, fun k nd h1 h2 => ?_⟩
   · rintro k nk (hp | rfl) h
     · exact hc.ok.nf k nk hp h
     · rw [y1] at h; cases h
       rw [hny, nf_nf]
   · rintro k nk i (hp | rfl) h
     · exact hc.ok.down k nk i hp h
     · rw [y1] at h; cases h
       rw [y2 i, hny, down_congr W (nf_pi W (w ++ [s]))]
       exact ⟨fun h => h.2, fun h => ⟨all i, h⟩⟩
   · rintro k nk i (hp | rfl) h hd
     · obtain ⟨h1, h2⟩ := hc.ok.known k nk i hp h hd
       exact ⟨h1, fun h => h2 (.inl h)⟩
     · rw [y1] at h; cases h
       rw [hny, down_congr W (nf_pi W (w ++ [s]))] at hd
       obtain ⟨_, k, h1, _, _⟩ := y3 i (all i) hd
       refine ⟨(by rw [h1]; simp), fun h => ?_⟩
       have := (hE _ i h).1
       omega
   · rintro k nk i k' (hp | rfl) h he hto
     · by_cases hF : Fc k i
       · obtain ⟨_, nk', g1, g2, g3, g4, _⟩ := hc.sides k i hF
         rw [h] at g1; cases g1
         rw [hto] at g4; cases g4
         exact ⟨.inr rfl, ny, y1, by rw [hny]; exact (nf_congr W g3).symm⟩
       · obtain ⟨a, b⟩ := hc.ok.next k nk i k' hp h (fun h => by rcases h with h | h; exact he h; exact hF h) hto
         exact ⟨.inl a, b⟩
     · rw [y1] at h; cases h
       by_cases hd : Down W (w ++ [s]) i
       · obtain ⟨_, k, h1, ⟨a, b⟩, _⟩ := y3 i (all i) hd
         rw [hto] at h1; cases h1
         rw [hny, nf_congr W (pi_right W (nf_pi W (w ++ [s])) [i])]
         exact ⟨.inl a, b⟩
       · have := y5 i (fun h => hd h.2)
         rw [hto] at this; cases this
   · rintro k nk (hp | rfl) h hwd
     · exact hc.ok.root k nk hp h hwd
     · rw [y1] at h; cases h
       have := nf_len W (w ++ [s])
       rw [← hny, hwd] at this
       simp at this; omega
   · rintro k nk i k' nk' (hp | rfl) h he hto h'
     · by_cases hF : Fc k i
       · obtain ⟨_, nk1, g1, g2, g3, g4, g5⟩ := hc.sides k i hF
         rw [h] at g1; cases g1
         rw [hto] at g4; cases g4
         exact g5 nk' h'
       · exact hc.ok.back k nk i k' nk' hp h (fun h => by rcases h with h | h; exact he h; exact hF h) hto h'
     · rw [y1] at h; cases h
       by_cases hd : Down W (w ++ [s]) i
       · obtain ⟨_, k, h1, _, h2⟩ := y3 i (all i) hd
         rw [hto] at h1; cases h1
         exact h2 nk' h'
       · have := y5 i (fun h => hd h.2)
         rw [hto] at this; cases this
   · rintro k (h | rfl)
     · exact hc.bound k h
     · exact hyb
   · rintro k hk (h | rfl)
     · exact hc.ext.old k hk h
     · omega
   · rcases hc.all k h1 (List.getElem?_eq_some_iff.1 h2).1 with h | rfl
     · exact hc.below k nd h1 h h2
     · rw [y1] at h2; cases h2
       rw [hny]
       exact Bl.congr W (nf_pi W _).symm rfl (Bl.refl W _)
theorem new_few {st' : List Tl} {P' : Nat → Prop} {E : Nat → Fin 3 → Prop} (ho : Ok W st' P' E) (a : Nat) (v : List (Fin 3)) (hall : ∀ k, a ≤ k → k < st'.length → P' k) (hbl : ∀ k nd, a ≤ k → st'[k]? = some nd → Bl W nd.word v) : st'.length ≤ a + Phi 3 (len W v) := by
 have hg : ∀ i (h : i < ((st'.drop a).map Tl.word).length), ∃ h' : a + i < st'.length, ((st'.drop a).map Tl.word)[i] = (st'[a + i]'h').word := by
  intro i h
  simp only [List.length_map, List.length_drop] at h
  refine ⟨by omega, ?_⟩
  simp
 have := between_few W v ((st'.drop a).map Tl.word) (by
  rw [List.pairwise_iff_getElem]
  intro i j hi hj hij he
  obtain ⟨hi', ei⟩ := hg i hi
  obtain ⟨hj', ej⟩ := hg j hj
  rw [ei, ej] at he
  have pi' := hall (a + i) (by omega) hi'
  have pj' := hall (a + j) (by omega) hj'
  have gi : st'[a + i]? = some st'[a + i] := List.getElem?_eq_getElem hi'
  have gj : st'[a + j]? = some st'[a + j] := List.getElem?_eq_getElem hj'
  have hw : st'[a + i].word = st'[a + j].word := by
   rw [← ho.nf _ _ pi' gi, ← ho.nf _ _ pj' gj]
   exact nf_congr W he
  have := ho.inj _ _ _ _ _ _ rfl pi' pj' gi gj hw
  omega) (fun u hu => by
  obtain ⟨i, hi, rfl⟩ := List.getElem_of_mem hu
  obtain ⟨hi', ei⟩ := hg i hi
  rw [ei]
  exact hbl (a + i) _ (by omega) (List.getElem?_eq_getElem hi'))
 simp only [List.length_map, List.length_drop] at this
 omega
theorem first_ok : Ok W [first] (fun k => k = 0) (fun _ _ => False) := by
 have nodown : ∀ i, ¬ Down W [] i := by
  intro i h
  unfold Down at h
  rw [len_nil] at h; omega
 refine ⟨⟨?_, ?_, ?_, ?_, fun k _ hk _ _ => hk⟩, ?_⟩
 · rintro k nd rfl h; cases h; exact nf_nil W
 · rintro k nd i rfl h; cases h
   exact ⟨fun h => (by cases h), fun h => (nodown i h).elim⟩
 · rintro k nd i rfl h hd; cases h; exact (nodown i hd).elim
 · rintro k nd i k' rfl h _ ht; cases h; cases ht
 · rintro k nd i k' nd' rfl h _ ht; cases h; cases ht
theorem walk_ok {f : Nat} (w : List (Fin 3)) : ∀ (st : List Tl) (P : Nat → Prop) (x : Nat) (u : List (Fin 3)), Ok W st P (fun _ _ => False) → (∀ k, P k → k < st.length) → At st P x (nf W u) → u.length + w.length ≤ f →
 ∃ st' P' y, walk W.m f st x w = some (st', y) ∧ Ok W st' P' (fun _ _ => False) ∧ (∀ k, P' k → k < st'.length) ∧ At st' P' y (nf W (u ++ w)) ∧ (∀ k v, At st P k v → At st' P' k v) ∧ st.length ≤ st'.length ∧ (∀ k, P k → P' k) ∧ (∀ k, st.length ≤ k → k < st'.length → P' k) ∧ st'.length ≤ st.length + w.length * Phi 3 (u.length + w.length) := by
 induction w with
 | nil => intro st P x u ho hb hx _; exact ⟨st, P, x, rfl, ho, hb, by simpa using hx, fun _ _ h => h, Nat.le_refl _, fun _ h => h, fun k h1 h2 => by omega, by omega⟩
 | cons s w ih =>
  intro st P x u ho hb hx hf
  rw [List.length_cons] at hf
  have hl := nf_le W u
  obtain ⟨s1, P1, y1, e1, o1, b1, a1, x1, n1, bl1⟩ := step_ok W f st P (fun _ _ => False) x (nf W u) s ho hb hx (by omega) (fun _ _ h => h.elim)
  have hc : nf W (nf W u ++ [s]) = nf W (u ++ [s]) := nf_congr W (pi_right W (nf_pi W u) [s])
  rw [hc] at a1
  obtain ⟨s2, P2, y2, e2, o2, b2, a2, x2, x3, x4, n2, c2⟩ := ih s1 P1 y1 (u ++ [s]) o1 b1 a1 (by simp; omega)
  refine ⟨s2, P2, y2, ?_, o2, b2, ?_, fun k v h => x2 k v (x1.at h), Nat.le_trans x1.len x3, fun k h => x4 k (x1.more k h), fun k h1 h2 => ?_, ?_⟩
  · simp only [walk, e1, Option.bind_some]; exact e2
  · simpa using a2
  · rcases Nat.lt_or_ge k s1.length with h3 | h3
    · exact x4 k (n1 k h1 h3)
    · exact n2 k h3 h2
  · have c1 := new_few W o1 st.length _ n1 bl1
    have c3 : len W (nf W u ++ [s]) ≤ u.length + (w.length + 1) := by
     have := len_le W (nf W u ++ [s])
     simp only [List.length_append, List.length_cons, List.length_nil] at this
     omega
    have c4 := phi_mono 3 c3
    simp only [List.length_append, List.length_cons, List.length_nil] at c2 ⊢
    have c5 : u.length + (0 + 1) + w.length = u.length + (w.length + 1) := by omega
    rw [c5] at c2
    rw [Nat.add_mul, Nat.one_mul]
    omega
end Go.Proofs.Ytkndmibmmoikbaa.Cox.G
