/- Chapter 10: Pf5 Pf6 Pf7 Pf8. -/
import Derived.Test.YtkndmibmmoikbaaD11
import Derived.Test.YtkndmibmmoikbaaD12
import Derived.Test.YtkndmibmmoikbaaD13
import Derived.BigRegion
import Derived.Deep.Cut
set_option linter.all false
set_option maxRecDepth 100000
set_option maxHeartbeats 16000000
namespace Go.Proofs.Ytkndmibmmoikbaa
open Go.RowKit
open Cox (Tl)
structure Out (S : Nat → Prop) (w w' : World) : Prop where
 os : w'.os = w.os
 tape : w'.tape = w.tape
 output : w'.output = w.output
 size : w.heap.size ≤ w'.heap.size
 block : ∀ b, b < w.heap.size → ¬ S b → w'.heap[b]? = w.heap[b]?
theorem Out.refl (S : Nat → Prop) (w : World) : Out S w w := ⟨rfl, rfl, rfl, Nat.le_refl _, fun _ _ _ => rfl⟩
theorem Out.trans {S S' : Nat → Prop} {a b c : World} (h : Out S a b) (g : Out S' b c) (hs : ∀ k, S' k → k < a.heap.size → S k) : Out S a c :=
 ⟨g.os.trans h.os, g.tape.trans h.tape, g.output.trans h.output, Nat.le_trans h.size g.size,
   fun k hk hn => (g.block k (Nat.lt_of_lt_of_le hk h.size) fun e => hn (hs k e hk)).trans (h.block k hk hn)⟩
theorem Out.below {w w' : World} {B : Nat} {S : Nat → Prop} (h : Out S w w') (hs : ∀ b, S b → B ≤ b) (hB : B ≤ w.heap.size) : Below B w w' :=
 ⟨h.os, h.tape, h.output, h.size, fun k hk => h.block k (by omega) fun e => by have := hs k e; omega⟩
theorem Out.of_below {S : Nat → Prop} {w w' : World} (h : Below w.heap.size w w') : Out S w w' := ⟨h.os, h.tape, h.output, h.size, fun b hb _ => h.block b hb⟩
theorem Out.drewN (S : Nat → Prop) (w : World) (n : Nat) : Out S w (w.drewN n) := Out.of_below (drewN_below _ _ _)
def In (A : Nat → Nat) (n : Nat) : Nat → Prop := fun b => ∃ k, k < n ∧ A k = b
theorem heap_setCell' (w : World) (b o : Nat) (v : Value) (k : Nat) : (w.setCell ⟨b, o, none⟩ v).heap[k]? = if k = b then (w.heap[b]?).map (fun | .cells cs T fr => .cells (cs.setIfInBounds o v) T fr | ob => ob) else w.heap[k]? := by
 simp only [World.setCell, Array.getElem?_modify]
 by_cases e : b = k
 · subst e; simp; rfl
 · rw [if_neg e, if_neg (fun h => e h.symm)]
theorem pcells_to (A : Nat → Nat) (l : Int) (nd : Tl) (s : Fin 3) (y : Nat) : (pcells A l nd).setIfInBounds (1 + s.val) (.pointer (some ⟨A y, 0, none⟩)) = pcells A l { nd with to := Cox.upd nd.to s (some y) } := by
 match s with
 | 0 => rfl
 | 1 => rfl
 | 2 => rfl
theorem pcells_down (A : Nat → Nat) (l : Int) (nd : Tl) (s : Fin 3) : (pcells A l nd).setIfInBounds (4 + s.val) (.bool true) = pcells A l { nd with down := Cox.upd nd.down s true } := by
 match s with
 | 0 => rfl
 | 1 => rfl
 | 2 => rfl
theorem plink_fin {A : Nat → Nat} {la : Nat → Int} {st : List Tl} {x y : Nat} {s : Fin 3} {w : World} (h : PRep w A la st) (hx : x < st.length) (hy : y < st.length) (hxy : x ≠ y) (w' : World)
 (hw : w' = ((((w.setCell ⟨A x, 1 + s.val, none⟩ (.pointer (some ⟨A y, 0, none⟩))).setCell ⟨A y, 1 + s.val, none⟩ (.pointer (some ⟨A x, 0, none⟩))).setCell ⟨A y, 4 + s.val, none⟩ (.bool true)))) :
 PRep w' A la (Cox.link st x y s) ∧ Out (In A st.length) w w' := by
 obtain ⟨nx, hnx⟩ : ∃ nd, st[x]? = some nd := ⟨_, List.getElem?_eq_getElem hx⟩
 obtain ⟨ny, hny⟩ : ∃ nd, st[y]? = some nd := ⟨_, List.getElem?_eq_getElem hy⟩
 have ha := h.cells x nx hnx
 have hb := h.cells y ny hny
 have hab : ¬ A x = A y := fun e => hxy (h.inj x y hx hy e)
 have hba : ¬ A y = A x := fun e => hab e.symm
 have hh : ∀ k, w'.heap[k]? = if k = A y then some (.cells (pcells A (la y) { ny with to := Cox.upd ny.to s (some x), down := Cox.upd ny.down s true }) 124 (0, 0)) else if k = A x then some (.cells (pcells A (la x) { nx with to := Cox.upd nx.to s (some y) }) 124 (0, 0)) else w.heap[k]? := by
  intro k
  rw [hw]
  simp only [heap_setCell']
  by_cases e : k = A y
  · subst e
    simp only [if_true, if_neg hba, hb, Option.map]
    rw [pcells_to, pcells_down]
  · simp only [if_neg e]
    by_cases e2 : k = A x
    · subst e2
      simp only [if_true, ha, Option.map]
      rw [pcells_to]
    · simp only [if_neg e2]
 have hg := fun k => Cox.getElem?_link (st := st) (s := s) hxy k
 refine ⟨⟨?_, ?_, ?_⟩, ?_⟩
 · intro k nd hk
   have hkl : k < st.length := by have := (List.getElem?_eq_some_iff.1 hk).1; rwa [Cox.length_link] at this
   rw [hh]
   rw [hg] at hk
   by_cases e : k = x
   · subst e
     rw [if_pos rfl, hnx] at hk
     cases hk
     rw [if_neg hab, if_pos rfl]
   · rw [if_neg e] at hk
     have e1 : ¬ A k = A x := fun q => e (h.inj k x hkl hx q)
     by_cases e2 : k = y
     · subst e2
       rw [if_pos rfl, hny] at hk
       cases hk
       rw [if_pos rfl]
     · rw [if_neg e2] at hk
       have e3 : ¬ A k = A y := fun q => e2 (h.inj k y hkl hy q)
       rw [if_neg e3, if_neg e1]
       exact h.cells k nd hk
 · intro j k hj hk
   rw [Cox.length_link] at hj hk
   exact h.inj j k hj hk
 · intro k nd i b hk hb
   rw [Cox.length_link]
   rw [hg] at hk
   by_cases e : k = x
   · subst e
     rw [if_pos rfl, hnx] at hk
     cases hk
     by_cases e3 : i = s
     · subst e3; simp only [Cox.upd_same] at hb; cases hb; exact hy
     · simp only [Cox.upd_ne _ _ e3] at hb; exact h.closed k nx i b hnx hb
   · rw [if_neg e] at hk
     by_cases e2 : k = y
     · subst e2
       rw [if_pos rfl, hny] at hk
       cases hk
       by_cases e3 : i = s
       · subst e3; simp only [Cox.upd_same] at hb; cases hb; exact hx
       · simp only [Cox.upd_ne _ _ e3] at hb; exact h.closed k ny i b hny hb
     · rw [if_neg e2] at hk
       exact h.closed k nd i b hk hb
 · subst hw
   refine ⟨rfl, rfl, rfl, by simp [World.setCell], fun b hb hn => ?_⟩
   rw [hh, if_neg (fun e => hn ⟨y, hy, e.symm⟩), if_neg (fun e => hn ⟨x, hx, e.symm⟩)]
structure PGrows (w : World) (A : Nat → Nat) (la : Nat → Int) (st : List Tl) (w' : World) (A' : Nat → Nat) (la' : Nat → Int) (st' : List Tl) : Prop where
 rep : PRep w' A' la' st'
 len : st.length ≤ st'.length
 old : ∀ k, k < st.length → A' k = A k
 new : ∀ k, st.length ≤ k → k < st'.length → w.heap.size ≤ A' k
 out : Out (In A st.length) w w'
theorem PGrows.refl {w : World} {A : Nat → Nat} {la : Nat → Int} {st : List Tl} (h : PRep w A la st) : PGrows w A la st w A la st :=
 ⟨h, Nat.le_refl _, fun _ _ => rfl, fun k h1 h2 => by omega, Out.refl _ _⟩
theorem PGrows.trans {w w' w'' : World} {A A' A'' : Nat → Nat} {la la' la'' : Nat → Int} {st st' st'' : List Tl} (h : PGrows w A la st w' A' la' st') (g : PGrows w' A' la' st' w'' A'' la'' st'') : PGrows w A la st w'' A'' la'' st'' where
 rep := g.rep
 len := Nat.le_trans h.len g.len
 old k hk := (g.old k (Nat.lt_of_lt_of_le hk h.len)).trans (h.old k hk)
 new k h1 h2 := by
  rcases Nat.lt_or_ge k st'.length with h3 | h3
  · rw [g.old k h3]; exact h.new k h1 h3
  · exact Nat.le_trans h.out.size (g.new k h3 h2)
 out := h.out.trans g.out (by
  rintro b ⟨k, hk, rfl⟩ hb
  rcases Nat.lt_or_ge k st.length with h3 | h3
  · exact ⟨k, h3, (h.old k h3).symm⟩
  · have := h.new k h3 hk; omega)
theorem PGrows.keep {w : World} {A : Nat → Nat} {la : Nat → Int} {st : List Tl} {w1 : World} {A1 : Nat → Nat} {la1 : Nat → Int} {st1 : List Tl} (g : PGrows w A la st w1 A1 la1 st1) {p : Nat} (hl : p < w.heap.size) (hn : ¬ In A st.length p) :
 w1.heap[p]? = w.heap[p]? ∧ ¬ In A1 st1.length p := by
 refine ⟨g.out.block p hl hn, ?_⟩
 rintro ⟨k, hk, he⟩
 rcases Nat.lt_or_ge k st.length with h | h
 · exact hn ⟨k, h, by rw [← he, g.old k h]⟩
 · have := g.new k h hk; omega
theorem PGrows.stay {w : World} {A : Nat → Nat} {la : Nat → Int} {st : List Tl} {w1 : World} {A1 : Nat → Nat} {la1 : Nat → Int} {st1 : List Tl} (g : PGrows w A la st w1 A1 la1 st1) {w2 : World} (h : Out (fun _ => False) w1 w2) : PGrows w A la st w2 A1 la1 st1 :=
 g.trans ⟨⟨fun k nd hk => by rw [h.block _ (g.rep.lt (List.getElem?_eq_some_iff.1 hk).1) id]; exact g.rep.cells k nd hk, g.rep.inj, g.rep.closed⟩, Nat.le_refl _, fun _ _ => rfl, fun k h1 h2 => by omega,
  ⟨h.os, h.tape, h.output, h.size, fun b hb _ => h.block b hb id⟩⟩
def ext1 {α : Type} (A : Nat → α) (n : Nat) (b : α) : Nat → α := fun k => if k = n then b else A k
theorem ext1_new {α : Type} (A : Nat → α) (n : Nat) (b : α) : ext1 A n b n = b := by simp [ext1]
theorem ext1_old {α : Type} (A : Nat → α) {n k : Nat} (b : α) (h : k ≠ n) : ext1 A n b k = A k := by simp [ext1]; omega
theorem pfresh_grows {A : Nat → Nat} {la : Nat → Int} {st : List Tl} {s : Fin 3} {w : World} {nd : Tl} (hr : PRep w A la st) :
 PGrows w A la st (w.alloc (.cells #[.int .i64 ((nd.lev : Int) + 1), .pointer none, .pointer none, .pointer none, .bool false, .bool false, .bool false, .int .i64 (s.val : Int)] 124)) (ext1 A st.length w.heap.size) (ext1 la st.length (s.val : Int)) (st ++ [Cox.fresh nd s]) := by
 have hnew := str_new w #[.int .i64 ((nd.lev : Int) + 1), .pointer none, .pointer none, .pointer none, .bool false, .bool false, .bool false, .int .i64 (s.val : Int)] 124 w.heap.size rfl
 have hold : ∀ b, b < w.heap.size → (w.alloc (.cells #[.int .i64 ((nd.lev : Int) + 1), .pointer none, .pointer none, .pointer none, .bool false, .bool false, .bool false, .int .i64 (s.val : Int)] 124)).heap[b]? = w.heap[b]? := fun b hb => Below.heap_alloc _ _ _ hb
 have hsz : w.heap.size ≤ (w.alloc (.cells #[.int .i64 ((nd.lev : Int) + 1), .pointer none, .pointer none, .pointer none, .bool false, .bool false, .bool false, .int .i64 (s.val : Int)] 124)).heap.size := by simp
 generalize hW : w.alloc (.cells #[.int .i64 ((nd.lev : Int) + 1), .pointer none, .pointer none, .pointer none, .bool false, .bool false, .bool false, .int .i64 (s.val : Int)] 124) = W at *
 refine ⟨⟨?_, ?_, ?_⟩, by simp, fun k hk => ext1_old _ _ (by omega), ?_, ⟨by rw [← hW]; rfl, by rw [← hW]; rfl, by rw [← hW]; rfl, hsz, fun b hb _ => hold b hb⟩⟩
 · intro k nk hk
   rcases Nat.lt_or_ge k st.length with h | h
   · rw [List.getElem?_append_left h] at hk
     rw [ext1_old _ _ (by omega), ext1_old _ _ (by omega), hold _ (hr.lt h), hr.cells k nk hk]
     have : ∀ i, tv (ext1 A st.length w.heap.size) (nk.to i) = tv A (nk.to i) := by
      intro i
      cases ht : nk.to i with
      | none => rfl
      | some b => simp only [tv]; rw [ext1_old _ _ (by have := hr.closed k nk i b hk ht; omega)]
     simp only [pcells, this]
   · have hke : k = st.length := by
      have := (List.getElem?_eq_some_iff.1 hk).1
      simp at this; omega
     subst hke
     simp at hk
     subst hk
     rw [ext1_new, ext1_new, hnew]; rfl
 · intro j k hj hk he
   simp at hj hk
   have ne : ∀ q, q < st.length → A q ≠ w.heap.size := fun q hq => by have := hr.lt hq; omega
   unfold ext1 at he
   split at he <;> split at he
   · omega
   · exact (ne k (by omega) he.symm).elim
   · exact (ne j (by omega) he).elim
   · exact hr.inj j k (by omega) (by omega) he
 · intro k nk i b hk hb
   rcases Nat.lt_or_ge k st.length with h | h
   · rw [List.getElem?_append_left h] at hk
     have := hr.closed k nk i b hk hb
     simp; omega
   · have hke : k = st.length := by
      have := (List.getElem?_eq_some_iff.1 hk).1
      simp at this; omega
     subst hke
     simp at hk
     subst hk
     cases hb
 · intro k h1 h2
   simp at h2
   have : k = st.length := by omega
   subst this
   rw [ext1_new]; omega
theorem plink_grows {w : World} {A : Nat → Nat} {la : Nat → Int} {st : List Tl} {w1 : World} {A1 : Nat → Nat} {la1 : Nat → Int} {st1 : List Tl} (g : PGrows w A la st w1 A1 la1 st1) {x y : Nat} {s : Fin 3} (hx : x < st1.length) (hy : y < st1.length) (hxy : x ≠ y) (w' : World)
 (hw : w' = (((w1.setCell ⟨A1 x, 1 + s.val, none⟩ (.pointer (some ⟨A1 y, 0, none⟩))).setCell ⟨A1 y, 1 + s.val, none⟩ (.pointer (some ⟨A1 x, 0, none⟩))).setCell ⟨A1 y, 4 + s.val, none⟩ (.bool true))) :
 PGrows w A la st w' A1 la1 (Cox.link st1 x y s) := by
 obtain ⟨h2, h3⟩ := plink_fin g.rep hx hy hxy w' hw
 exact g.trans ⟨h2, by rw [Cox.length_link]; omega, fun _ _ => rfl, fun k h1 h2 => by rw [Cox.length_link] at h2; omega, h3⟩
theorem pword_grows {w : World} {A : Nat → Nat} {la : Nat → Int} {st : List Tl} {w1 : World} {A1 : Nat → Nat} {la1 : Nat → Int} {st1 : List Tl} (g : PGrows w A la st w1 A1 la1 st1) {y : Nat} (hy : y < st1.length) (l : List (Fin 3)) (t : Fin 3) :
 PGrows w A la st (w1.setCell ⟨A1 y, 7, none⟩ (.int .i64 (t.val : Int))) A1 (ext1 la1 y (t.val : Int)) (st1.modify y fun n => { n with word := l }) := by
 obtain ⟨ny, hny⟩ : ∃ nd, st1[y]? = some nd := ⟨_, List.getElem?_eq_getElem hy⟩
 have hc := g.rep.cells y ny hny
 have hh := fun k => heap_setCell w1 (A1 y) 7 (.int .i64 (t.val : Int)) k hc
 refine g.trans ⟨⟨?_, ?_, ?_⟩, by simp, fun _ _ => rfl, fun k h1 h2 => ?_, ⟨rfl, rfl, rfl, by simp [World.setCell], fun k hk hn => ?_⟩⟩
 · intro k nd hk
   rw [Cox.modify_eq] at hk
   rw [hh]
   by_cases e : k = y
   · subst e
     rw [if_pos rfl, hny] at hk
     cases hk
     rw [if_pos rfl, ext1_new]; rfl
   · rw [if_neg e] at hk
     have hkl : k < st1.length := (List.getElem?_eq_some_iff.1 hk).1
     rw [if_neg (fun q => e (g.rep.inj k y hkl hy q)), ext1_old _ _ e]
     exact g.rep.cells k nd hk
 · intro j k hj hk
   simp at hj hk
   exact g.rep.inj j k hj hk
 · intro k nd i b hk hb
   rw [Cox.modify_eq] at hk
   simp
   by_cases e : k = y
   · subst e
     rw [if_pos rfl, hny] at hk
     cases hk
     exact g.rep.closed k ny i b hny hb
   · rw [if_neg e] at hk
     exact g.rep.closed k nd i b hk hb
 · simp at h2; omega
 · rw [hh, if_neg (fun e => hn ⟨y, hy, e.symm⟩)]
def LA (la : Nat → Int) (st : List Tl) : Prop := ∀ k nd, st[k]? = some nd → nd.lev = nd.word.length ∧ ∀ v (i : Fin 3), nd.word = v ++ [i] → la k = (i.val : Int)
theorem LA.link {la : Nat → Int} {st : List Tl} (h : LA la st) {z y : Nat} {t : Fin 3} (hzy : z ≠ y) : LA la (Cox.link st z y t) := by
 intro k nd hk
 rw [Cox.getElem?_link hzy] at hk
 cases hs : st[k]? with
 | none =>
  rw [hs] at hk
  split at hk
  · cases hk
  · split at hk <;> cases hk
 | some n1 =>
  rw [hs] at hk
  have h1 := h k n1 hs
  split at hk
  · cases hk; exact h1
  · split at hk <;> (cases hk; exact h1)
theorem LA.fresh {la : Nat → Int} {st : List Tl} (h : LA la st) {x : Nat} {nd : Tl} (hx : st[x]? = some nd) (s : Fin 3) : LA (ext1 la st.length (s.val : Int)) (st ++ [Cox.fresh nd s]) := by
 intro k n1 hk
 rcases Nat.lt_or_ge k st.length with h1 | h1
 · rw [List.getElem?_append_left h1] at hk
   rw [ext1_old _ _ (by omega)]
   exact h k n1 hk
 · have hke : k = st.length := by
    have := (List.getElem?_eq_some_iff.1 hk).1
    simp at this; omega
   subst hke
   simp at hk
   subst hk
   rw [ext1_new]
   refine ⟨?_, fun v i hw => ?_⟩
   · show nd.lev + 1 = (nd.word ++ [s]).length
     rw [(h x nd hx).1]; simp
   · have hw2 : nd.word ++ [s] = v ++ [i] := hw
     have := congrArg List.getLast? hw2
     simp at this
     rw [this]
theorem LA.word {la : Nat → Int} {st : List Tl} (h : LA la st) (y : Nat) (l : List (Fin 3)) (t : Fin 3) (hl : ∀ n, st[y]? = some n → n.word.length = l.length + 1) : LA (ext1 la y (t.val : Int)) (st.modify y fun n => { n with word := l ++ [t] }) := by
 intro k n1 hk
 rw [Cox.modify_eq] at hk
 by_cases e : k = y
 · subst e
   rw [if_pos rfl] at hk
   rw [ext1_new]
   cases hs : st[k]? with
   | none => rw [hs] at hk; cases hk
   | some n2 =>
    rw [hs] at hk
    cases hk
    refine ⟨?_, fun v i hw => ?_⟩
    · show n2.lev = (l ++ [t]).length
      rw [(h k n2 hs).1, hl n2 hs]; simp
    · have := congrArg List.getLast? hw
      simp at this
      rw [this]
 · rw [if_neg e] at hk
   rw [ext1_old _ _ e]
   exact h k n1 hk
variable {K : Type} [Cox.OR K] (W : Cox.Tri K)
theorem chain_of {st : List Tl} {P : Nat → Prop} {E : Nat → Fin 3 → Prop} (ho : Cox.G.Ok W st P E) {la : Nat → Int} (hl : LA la st) : Chain la st P where
 step k nd hp hn hne := by
  obtain ⟨v, i, hv⟩ : ∃ v i, nd.word = v ++ [i] := ⟨_, _, (List.dropLast_concat_getLast hne).symm⟩
  have hnf := ho.nf k nd hp hn
  have hvn : Cox.nf W v = v := Cox.nf_begin W (b := [i]) (by rw [← hv]; exact hnf)
  have hback : Cox.pi W (nd.word ++ [i]) = Cox.pi W v := by rw [hv]; exact Cox.pi_back W v i
  have hd : Cox.Down W nd.word i := by
   unfold Cox.Down
   rw [Cox.len_congr W hback, ← Cox.nf_len, ← Cox.nf_len, hvn, hnf, hv]
   simp
  obtain ⟨h1, h2⟩ := ho.known k nd i hp hn hd
  cases ht : nd.to i with
  | none => exact (h1 ht).elim
  | some k' =>
   obtain ⟨p', nd', g1, g2⟩ := ho.next k nd i k' hp hn h2 ht
   rw [Cox.nf_congr W hback, hvn] at g2
   exact ⟨i, k', nd', (hl k nd hn).2 v i hv, ht, p', g1, by rw [g2]; exact hv⟩
 one k k' nd nd' hp hp' hn hn' he := ho.inj _ _ k k' nd nd' rfl hp hp' hn hn' he
theorem Chain.link {la : Nat → Int} {st : List Tl} {P : Nat → Prop} (h : Chain la st P) {z y : Nat} {t : Fin 3} (hzy : z ≠ y) (hy : ¬ P y) {nz : Tl} (hz : st[z]? = some nz) (ht : nz.to t = none) : Chain la (Cox.link st z y t) P := by
 have hg := fun k => Cox.getElem?_link (st := st) (s := t) hzy k
 have back : ∀ k nd, P k → (Cox.link st z y t)[k]? = some nd → ∃ n1, st[k]? = some n1 ∧ nd.word = n1.word ∧ (∀ i, ¬ (k = z ∧ i = t) → nd.to i = n1.to i) := by
  intro k nd hp hk
  rw [hg] at hk
  by_cases e : k = z
  · subst e
    rw [if_pos rfl, hz] at hk
    cases hk
    exact ⟨nz, hz, rfl, fun i hi => Cox.upd_ne _ _ (fun e => hi ⟨rfl, e⟩)⟩
  · rw [if_neg e, if_neg (fun (e : k = y) => hy (e ▸ hp))] at hk
    exact ⟨nd, hk, rfl, fun _ _ => rfl⟩
 have forth : ∀ k n1, P k → st[k]? = some n1 → ∃ nd, (Cox.link st z y t)[k]? = some nd ∧ nd.word = n1.word := by
  intro k n1 hp hk
  rw [hg]
  by_cases e : k = z
  · subst e
    rw [if_pos rfl, hk]
    exact ⟨_, rfl, rfl⟩
  · rw [if_neg e, if_neg (fun (e : k = y) => hy (e ▸ hp))]
    exact ⟨n1, hk, rfl⟩
 refine ⟨?_, ?_⟩
 · intro k nd hp hk hne
   obtain ⟨n1, g1, g2, g3⟩ := back k nd hp hk
   obtain ⟨s, k', nd', a1, a2, a3, a4, a5⟩ := h.step k n1 hp g1 (by rw [← g2]; exact hne)
   obtain ⟨n2, b1, b2⟩ := forth k' nd' a3 a4
   have hks : ¬ (k = z ∧ s = t) := by
    rintro ⟨rfl, rfl⟩
    rw [hz] at g1; cases g1
    rw [ht] at a2; cases a2
   exact ⟨s, k', n2, a1, by rw [g3 s hks]; exact a2, a3, b1, by rw [g2, a5, b2]⟩
 · intro k k' nd nd' hp hp' hk hk' he
   obtain ⟨n1, g1, g2, _⟩ := back k nd hp hk
   obtain ⟨n2, g3, g4, _⟩ := back k' nd' hp' hk'
   exact h.one k k' n1 n2 hp hp' g1 g3 (by rw [← g2, ← g4, he])
def CSaid (f : Nat) : Prop := ∀ (A : Nat → Nat) (la : Nat → Int) (st : List Tl) (P : Nat → Prop) (E : Nat → Fin 3 → Prop) (x : Nat) (s : Fin 3) (u : List (Fin 3)) (w : World) (st' : List Tl) (y p F : Nat) (a b c : Int), PRep w A la st → LA la st →
 Cox.G.Ok W st P E → (∀ k, P k → k < st.length) → Cox.At st P x u → u.length < f → Cox.Apart st P E (u.length + 1) →
 w.heap[p]? = some (.cells #[.int .i64 a, .int .i64 b, .int .i64 c, .pointer (some ⟨F, 0, none⟩)] 93 (0, 0)) → ¬ In A st.length p →
 (∀ i j : Fin 3, i ≠ j → (if (i.val : Int) + (j.val : Int) = 1 then a else if (i.val : Int) + (j.val : Int) = 3 then b else c) = (W.m i j : Int)) →
 Cox.step W.m f st x s = some (st', y) →
 Calls Try.prog 60 #[.pointer (some ⟨p, 0, none⟩), .pointer (some ⟨A x, 0, none⟩), .int .i64 (s.val : Int)] w fun e w' =>
  ∃ A' la', e = .returned (.pointer (some ⟨A' y, 0, none⟩)) ∧ y < st'.length ∧ PGrows w A la st w' A' la' st' ∧ LA la' st'
end Go.Proofs.Ytkndmibmmoikbaa
namespace Go.Proofs.Ytkndmibmmoikbaa
open Go.RowKit
open Cox (Tl)
theorem PGrows.drewN {w : World} {A : Nat → Nat} {la : Nat → Int} {st : List Tl} {w1 : World} {A1 : Nat → Nat} {la1 : Nat → Int} {st1 : List Tl} (g : PGrows w A la st w1 A1 la1 st1) (n : Nat) : PGrows w A la st (w1.drewN n) A1 la1 st1 := g.stay (Out.drewN _ _ _)
variable {K : Type} [Cox.OR K] (W : Cox.Tri K)
def LY (S : Nat → List Tl) (y : Nat) (u : List (Fin 3)) (s : Fin 3) (k : Nat) : Prop := ∃ ny, (S k)[y]? = some ny ∧ (ny.word = u ++ [s] ∨ ∃ i : Fin 3, i ≠ s ∧ i.val < k ∧ Cox.Down W (u ++ [s]) i)
theorem grow_say (hm : ∀ i j, W.m i j < 100) {bb : Fin 3 → K} (hv : Cox.Heavy W bb) (f : Nat) (hf : f < 100000) (ih : CSaid W f) (A : Nat → Nat) (la : Nat → Int) (st : List Tl) (P : Nat → Prop) (E : Nat → Fin 3 → Prop) (x : Nat) (s : Fin 3) (u : List (Fin 3)) (w : World)
 (st' : List Tl) (y p F : Nat) (a b c : Int) (hr : PRep w A la st) (hla : LA la st) (ho : Cox.G.Ok W st P E) (hb : ∀ k, P k → k < st.length) (nd : Tl) (px : P x) (hn : st[x]? = some nd) (hnw : nd.word = u) (hfu : u.length < f + 1) (hE : Cox.Apart st P E (u.length + 1))
 (hp : w.heap[p]? = some (.cells #[.int .i64 a, .int .i64 b, .int .i64 c, .pointer (some ⟨F, 0, none⟩)] 93 (0, 0))) (hpA : ¬ In A st.length p)
 (hO : ∀ i j : Fin 3, i ≠ j → (if (i.val : Int) + (j.val : Int) = 1 then a else if (i.val : Int) + (j.val : Int) = 3 then b else c) = (W.m i j : Int))
 (ht : nd.to s = none) (hstep : Cox.step W.m (f + 1) st x s = some (st', y)) :
 Calls Try.prog 72 #[.pointer (some ⟨p, 0, none⟩), .pointer (some ⟨A x, 0, none⟩), .int .i64 (s.val : Int)] w fun e w' =>
  e = .returned (.tuple #[]) ∧ ∃ A' la', y < st'.length ∧ PGrows w A la st w' A' la' st' ∧ LA la' st' ∧ ∃ nx, st'[x]? = some nx ∧ nx.to s = some y := by
 obtain ⟨rfl, hnf, hsd, S, Q, FF, hS0, hS3, hrd, hhf⟩ := Cox.G.rounds_ok W ho hb px hn hnw hE ht hfu hstep
 have hxl : x < st.length := hb x px
 have hlev : nd.lev < 1000000000000 := by rw [(hla x nd hn).1, hnw]; omega
 have LK0 := pfresh_grows (s := s) (nd := nd) hr
 have hxy : x ≠ st.length := by omega
 have LL0 : LA (ext1 la st.length (s.val : Int)) (st ++ [Cox.fresh nd s]) := hla.fresh hn s
 have hc := hr.cells x nd hn
 have c0 := cell_of hc 0
 simp only [pcells] at c0
 have hs := s.isLt
 have i3 : (s.val : Int) < 3 := by omega
 have i4 : (0 : Int) ≤ (s.val : Int) := by omega
 have hal := hr.lt hxl
 have LK1 := plink_grows LK0 (x := x) (y := st.length) (s := s) (by simp; omega) (by simp) hxy _ rfl
 have LL1 : LA (ext1 la st.length (s.val : Int)) (Cox.link (st ++ [Cox.fresh nd s]) x st.length s) := LL0.link hxy
 rw [ext1_old _ _ hxy, ext1_new] at LK1
 rw [← hS0] at LK1 LL1
 have hx1 : (st ++ [Cox.fresh nd s])[x]? = some nd := by rw [List.getElem?_append_left hxl]; exact hn
 have hy1 : (st ++ [Cox.fresh nd s])[st.length]? = some (Cox.fresh nd s) := by simp
 have a1 := LK0.rep.to hx1 s
 have a2 := fun o => LK0.rep.free (k := x) (by simp; omega) o
 have b1 := LK0.rep.to hy1 s
 have b4 := LK0.rep.down hy1 s
 have b2 := fun o => LK0.rep.free (k := st.length) (by simp) o
 rw [ht] at a1
 rw [ext1_old _ _ hxy] at a1 a2
 rw [ext1_new] at b1 b4 b2
 simp only [tv, Cox.fresh] at a1 b1 b4
 have hne : ¬ A x = w.heap.size := by omega
 have hne' : ¬ w.heap.size = A x := by omega
 have HS0 := Lib.hid hS0
 have HS3 := Lib.hid hS3
 have HRD := Lib.hid hrd
 have HHF := Lib.hid hhf
 have IH := Lib.hid ih
 have HM := Lib.hid hm
 have HO := Lib.hid hO
 have HP := Lib.hid hp
 have HPA := Lib.hid hpA
 have HX := Hi (And.intro hn (And.intro hnw (And.intro hnf (And.intro hsd (And.intro px hxl)))))
 have HR := Lib.hid hr
 have LK1 := Lib.hid LK1
 have LL1 := Lib.hid LL1
 clear LK0 LL0 hc hs hal hx1 hy1 hS0 hS3 hrd hhf ih hm hO hp hpA hn hnw hnf hsd hr hstep hla ht
 go_enter Try.func72, Try.ntmps72
 go_upto_region 1 with fail
 generalize hW1 : World.alloc w _ = W1 at *
 have HW1 := Lib.hid hW1
 clear hW1 c0
 generalize hB : w.heap.size = B at *
 have HB := Lib.hid hB
 clear hB
 generalize hX : A x = X at *
 have HAX := Lib.hid hX
 clear hX
 go_region
 have HG1 : Hid (PGrows w A la st (((W1.setCell ⟨X, 1 + s.val, none⟩ (.pointer (some ⟨B, 0, none⟩))).setCell ⟨B, 1 + s.val, none⟩ (.pointer (some ⟨X, 0, none⟩))).setCell ⟨B, 4 + s.val, none⟩ (.bool true)).drew (ext1 A st.length B) (ext1 la st.length (s.val : Int)) (S 0)) :=
  Hi (LK1.out.stay (Out.of_below (Below.drew (Below.refl _ _))))
 have HLY0 : Hid (LY W S st.length u s 0) := Hi (by
  unfold LY
  rw [HS0.out]
  refine ⟨{ Cox.fresh nd s with to := Cox.upd (Cox.fresh nd s).to s (some x), down := Cox.upd (Cox.fresh nd s).down s true }, ?_, .inl ?_⟩
  · rw [Cox.getElem?_link hxy, if_neg (Ne.symm hxy), if_pos rfl]
    simp
  · show nd.word ++ [s] = _
    rw [HX.out.2.1])
 clear a1 a2 b1 b2 b4 hne hne' LK1
 generalize World.drew _ = W2 at *
 go_wp2_with fail
 go_loopw [36] (fun c wr => ∃ (k : Nat) (A' : Nat → Nat) (la' : Nat → Int), k ≤ 3 ∧ c = .int .i64 k ∧ Hid (PGrows w A la st wr A' la' (S k) ∧ LA la' (S k) ∧ A' st.length = B ∧ LY W S st.length u s k)) (fun c _ => 3 - (intOf c).toNat)
 case atStart => exact ⟨0, _, _, by omega, rfl, Lib.hid ⟨HG1.out, LL1.out, ext1_new _ _ _, HLY0.out⟩⟩
 case round =>
  obtain ⟨k, A', la', hk, rfl, HK⟩ := hrel
  clear HG1 LL1 HLY0
  by_cases hlt : k < 3
  · obtain ⟨t, rfl⟩ : ∃ t : Fin 3, k = t.val := ⟨⟨k, hlt⟩, rfl⟩
    have t1 : (t.val : Int) < 3 := by omega
    have t2 : (0 : Int) ≤ (t.val : Int) := by omega
    by_cases hts : t = s
    · have H2 : Hid (S (t.val + 1) = S t.val) := Hi (by
       rcases Cox.round_cases (HRD.out t) with ⟨_, h2⟩ | ⟨h1, _⟩ | ⟨h1, _⟩
       · exact h2
       · exact (h1 hts).elim
       · exact (h1 hts).elim)
      have hq : ((t.val : Int) == (s.val : Int)) = true := by rw [hts]; simp
      clear hts
      go_wp2_with fail
      go_roundw
      case rel =>
       refine ⟨t.val + 1, A', la', by omega, by go_num, Lib.hid ?_⟩
       obtain ⟨ny, h1, h2⟩ := HK.out.2.2.2
       rw [H2.out]
       refine ⟨HK.out.1, HK.out.2.1, HK.out.2.2.1, ny, by rw [H2.out]; exact h1, ?_⟩
       rcases h2 with h2 | ⟨i, h3, h4, h5⟩
       · exact .inl h2
       · exact .inr ⟨i, h3, by omega, h5⟩
      case measure => simp [intOf]; omega
    · have hq : ((t.val : Int) == (s.val : Int)) = false := by
       have : ¬ (t.val : Int) = (s.val : Int) := fun e => hts (Fin.ext (by omega))
       simpa using this
      have hpl := HK.out.1.keep (Array.getElem?_eq_some_iff.1 HP.out).1 HPA.out
      have OA := order_any a b c p F s t (fun e => hts e.symm)
      rw [HO.out s t (fun e => hts e.symm)] at OA
      have HPW : Hid (∀ n, (wr.drewN n).heap[p]? = some (.cells #[.int .i64 a, .int .i64 b, .int .i64 c, .pointer (some ⟨F, 0, none⟩)] 93 (0, 0))) := Hi (fun n => hpl.1.trans HP.out)
      have HPW0 : Hid (wr.heap[p]? = some (.cells #[.int .i64 a, .int .i64 b, .int .i64 c, .pointer (some ⟨F, 0, none⟩)] 93 (0, 0))) := Hi (hpl.1.trans HP.out)
      clear hpl
      by_cases hm0 : W.m s t = 0
      · have H2 : Hid (S (t.val + 1) = S t.val) := Hi (by
         rcases Cox.round_cases (HRD.out t) with ⟨_, h2⟩ | ⟨_, _, h2⟩ | ⟨_, q, h2, _⟩
         · exact h2
         · exact h2
         · omega)
        rw [hm0] at OA
        have OA2 := Hi (OA wr HPW0.out)
        clear OA hts hm0
        go_wp2_with (go_at_call 50; refine OA2.out.mono ?_; rintro e w2 ⟨rfl, n2, rfl⟩)
        go_roundw
        case rel =>
         refine ⟨t.val + 1, A', la', by omega, by go_num, Lib.hid ?_⟩
         obtain ⟨ny, h1, h2⟩ := HK.out.2.2.2
         rw [H2.out]
         refine ⟨HK.out.1.drewN _, HK.out.2.1, HK.out.2.2.1, ny, by rw [H2.out]; exact h1, ?_⟩
         rcases h2 with h2 | ⟨i, h3, h4, h5⟩
         · exact .inl h2
         · exact .inr ⟨i, h3, by omega, h5⟩
        case measure => simp [intOf]; omega
      · obtain ⟨q, hq1⟩ : ∃ q, W.m s t = q + 1 := ⟨W.m s t - 1, by omega⟩
        have hq99 : q < 99 := by have := HM.out s t; omega
        have HQ1 := Lib.hid hq1
        obtain ⟨hh, hFx⟩ := HHF.out t.val (by omega)
        have hRF := Cox.G.round_falls W t HX.out.2.2.1 HX.out.2.2.2.1 (by omega : u.length ≤ f) ⟨HX.out.2.2.2.2.1, nd, HX.out.1, HX.out.2.1⟩ hh hts hm0
        have hRC := Cox.round_cases (HRD.out t)
        have hAx : A' x = X := by rw [HK.out.1.old x HX.out.2.2.2.2.2]; exact HAX.out
        have hxk : x < (S t.val).length := Nat.lt_of_lt_of_le HX.out.2.2.2.2.2 HK.out.1.len
        rw [hq1] at OA hRF
        rw [Int.natCast_add] at OA
        have OA2 := Hi (OA wr HPW0.out)
        have OA3 := Hi (fun n => OA (wr.drewN n) (HPW.out n))
        have DA := fun n o => descend_any A' la' (S t.val) x t s q (by omega) (wr.drewN n) (HK.out.1.drewN n).rep hxk o
        rw [hAx] at DA
        have HTS := Lib.hid hts
        have HHH := Lib.hid hh
        have HFX := Lib.hid hFx
        have HXK := Lib.hid hxk
        have HAX2 := Lib.hid hAx
        clear OA hm0 hq1 hh hFx hts hAx hxk
        rcases hRF with ⟨hnd, hlow⟩ | ⟨hdn, v, hlow, hvl, hcl⟩
        · have hlow : Cox.lowest (S t.val) x t s q = some none := hlow
          have H2 : Hid (S (t.val + 1) = S t.val) := Hi (by
           rcases hRC with ⟨_, h2⟩ | ⟨_, _, h2⟩ | ⟨_, q', h2, h3⟩
           · exact h2
           · exact h2
           · have : q' = q := by have := HQ1.out; omega
             subst this
             rcases h3 with ⟨_, h4⟩ | ⟨v, _, _, _, _, h4, _⟩
             · exact h4
             · rw [hlow] at h4; cases h4)
          have DA2 := (fun n => DA n none hlow)
          simp only [tv] at DA2
          have DA2 := Lib.hid DA2
          clear DA hRC hnd hlow
          go_wp2_with (first | (go_at_call 50; refine (OA2.out).mono ?_; rintro e w2 ⟨rfl, n2, rfl⟩) | (go_at_call 50; refine (OA3.out _).mono ?_; rintro e w2 ⟨rfl, n3, rfl⟩) | (go_at_call 79; refine (DA2.out _).mono ?_; rintro e w2 ⟨rfl, rfl⟩))
          go_roundw
          case rel =>
           refine ⟨t.val + 1, A', la', by omega, by go_num, Lib.hid ?_⟩
           obtain ⟨ny, h1, h2⟩ := HK.out.2.2.2
           rw [H2.out]
           refine ⟨HK.out.1.drewN _, HK.out.2.1, HK.out.2.2.1, ny, by rw [H2.out]; exact h1, ?_⟩
           rcases h2 with h2 | ⟨i, h3, h4, h5⟩
           · exact .inl h2
           · exact .inr ⟨i, h3, by omega, h5⟩
          case measure => simp [intOf]; omega
        · obtain ⟨st2, z, nz, ny, hcb, l2z, l2y, hzy, hnzf, hSt⟩ : ∃ st2 z nz ny, Cox.climb (Cox.step W.m f) q (S t.val) v (Cox.nx t s q) (Cox.nx s t q) = some (st2, z) ∧
           (Cox.link st2 z st.length t)[z]? = some nz ∧ (Cox.link st2 z st.length t)[st.length]? = some ny ∧ z ≠ st.length ∧ nz.word.length ≤ f ∧
           ((Cox.lex (nz.word ++ [t]) ny.word = true ∧ S (t.val + 1) = (Cox.link st2 z st.length t).modify st.length fun n => { n with word := nz.word ++ [t] }) ∨ (Cox.lex (nz.word ++ [t]) ny.word = false ∧ S (t.val + 1) = Cox.link st2 z st.length t)) := by
           rcases hRC with ⟨h1, _⟩ | ⟨_, h2, _⟩ | ⟨_, q', h2, h3⟩
           · exact (HTS.out h1).elim
           · have := HQ1.out; omega
           · have : q' = q := by have := HQ1.out; omega
             subst this
             rcases h3 with ⟨h4, _⟩ | ⟨v', st2, z, nz, ny, h4, h5, h6⟩
             · have hlow' : Cox.lowest (S t.val) x t s q' = some (some v) := hlow
               rw [hlow'] at h4; cases h4
             · have hlow' : Cox.lowest (S t.val) x t s q' = some (some v) := hlow
               rw [hlow'] at h4
               cases h4
               refine ⟨st2, z, nz, ny, ?_, h6⟩
               rw [← h5]
               have e1 : Cox.nx t s q' = if (q' + 1) % 2 = 0 then s else t := by unfold Cox.nx; split <;> split <;> first | rfl | omega
               have e2 : Cox.nx s t q' = if (q' + 1) % 2 = 0 then t else s := by unfold Cox.nx; split <;> split <;> first | rfl | omega
               rw [e1, e2]
          have e1 : (if (q + 1) % 2 = 0 then s else t) = Cox.nx t s q := by unfold Cox.nx; split <;> split <;> first | rfl | omega
          have e2 : (if (q + 1) % 2 = 0 then t else s) = Cox.nx s t q := by unfold Cox.nx; split <;> split <;> first | rfl | omega
          rw [e1, e2] at hcl
          have hcl : Cox.G.Climbs W f (fun k i => E k i ∨ FF t.val k i) u.length q (Cox.nx t s q) (Cox.nx s t q) (S t.val) (Q t.val) v (u ++ Cox.alt t s q) := hcl
          have DA2 := (fun n => DA n (some v) hlow)
          simp only [tv] at DA2
          have DA2 := Lib.hid DA2
          have HCL := Lib.hid hcl
          have HCB := Lib.hid hcb
          have HD := Lib.hid hdn
          have HL2 := Hi (And.intro l2z (And.intro l2y (And.intro hzy (And.intro hnzf hSt))))
          clear DA hRC hlow e1 e2 hcl hcb hdn l2z l2y hzy hnzf hSt
          go_wp2_with (first | (go_at_call 50; refine (OA2.out).mono ?_; rintro e w2 ⟨rfl, n2, rfl⟩) | (go_at_call 50; refine (OA3.out _).mono ?_; rintro e w2 ⟨rfl, n3, rfl⟩) | (go_at_call 79; refine (DA2.out _).mono ?_; rintro e w2 ⟨rfl, rfl⟩))
          have HLX : Hid (st.length < (S t.val).length) := Hi (by obtain ⟨ny, h1, _⟩ := HK.out.2.2.2; exact (List.getElem?_eq_some_iff.1 h1).1)
          go_loopw [9, 10] (fun zz kk wq => ∃ (j zj : Nat) (stj : List Tl) (Pj : Nat → Prop) (Aj : Nat → Nat) (laj : Nat → Int) (wv : List (Fin 3)), j ≤ q ∧ kk = .int .i64 j ∧ zz = .pointer (some ⟨Aj zj, 0, none⟩) ∧
           Hid (Cox.climb (Cox.step W.m f) j stj zj (Cox.nx t s j) (Cox.nx s t j) = some (st2, z) ∧ Cox.G.Climbs W f (fun k i => E k i ∨ FF t.val k i) u.length j (Cox.nx t s j) (Cox.nx s t j) stj Pj zj wv ∧ PGrows w A la st wq Aj laj stj ∧ LA laj stj ∧
            Cox.Ext (S t.val) (Q t.val) stj Pj u.length ∧ Aj st.length = B ∧ wv ++ Cox.alt (Cox.nx t s j) (Cox.nx s t j) j = u ++ Cox.alt t s q ++ Cox.alt (Cox.nx t s q) (Cox.nx s t q) q)) (fun _ kk _ => (intOf kk).toNat)
          case atStart => exact ⟨q, v, S t.val, Q t.val, A', la', u ++ Cox.alt t s q, by omega, rfl, rfl, Lib.hid ⟨HCB.out, HCL.out, HK.out.1.drewN _, HK.out.2.1, Cox.Ext.refl _ _ _, HK.out.2.2.1, rfl⟩⟩
          case round =>
           obtain ⟨j, zj, stj, Pj, Aj, laj, wv, hj, rfl, rfl, HJ⟩ := hrel
           clear OA2 OA3 DA2
           by_cases hj0 : 0 < j
           · obtain ⟨r, hr⟩ : ∃ r, j = r + 1 := ⟨j - 1, by omega⟩
             have hcl := HJ.out.1
             have hcs := HJ.out.2.1
             rw [hr] at hcl hcs
             obtain ⟨sj1, x1, hs1, hc1⟩ := Cox.climb_succ hcl
             obtain ⟨g1, g2, sj2, P2, x2, g3, g4, g5, g6⟩ := Cox.G.Climbs.step W hcs
             rw [hs1] at g3
             simp only [Option.some.injEq, Prod.mk.injEq] at g3
             obtain ⟨rfl, rfl⟩ := g3
             have hpl := HJ.out.2.2.1.keep (Array.getElem?_eq_some_iff.1 HP.out).1 HPA.out
             have CS := Hi (IH.out Aj laj stj Pj (fun k i => E k i ∨ FF t.val k i) zj (Cox.nx t s (r + 1)) (Cox.nf W wv) _ sj1 x1 p F a b c HJ.out.2.2.1.rep HJ.out.2.2.2.1 hcs.ok hcs.bound hcs.at_ g1 g2 (hpl.1.trans HP.out) hpl.2 HO.out hs1)
             have HC1 : Hid (Cox.climb (Cox.step W.m f) r sj1 x1 (Cox.nx t s r) (Cox.nx s t r) = some (st2, z) ∧ Cox.G.Climbs W f (fun k i => E k i ∨ FF t.val k i) u.length r (Cox.nx t s r) (Cox.nx s t r) sj1 P2 x1 (wv ++ [Cox.nx s t r]) ∧ Cox.Ext (S t.val) (Q t.val) sj1 P2 u.length ∧
              wv ++ [Cox.nx s t r] ++ Cox.alt (Cox.nx t s r) (Cox.nx s t r) r = u ++ Cox.alt t s q ++ Cox.alt (Cox.nx t s q) (Cox.nx s t q) q) := Hi (by
              have n1 : Cox.nx s t (r + 1) = Cox.nx t s r := Cox.nx_succ _ _ _
              have n2 : Cox.nx t s (r + 1) = Cox.nx s t r := Cox.nx_succ _ _ _
              have hw9 := HJ.out.2.2.2.2.2.2
              rw [hr] at hw9
              rw [n1, n2] at hc1 g4 hw9
              refine ⟨hc1, g4, HJ.out.2.2.2.2.1.trans g5, ?_⟩
              rw [← hw9]
              simp [Cox.alt])
             have HR1 := Lib.hid hr
             have HIDX : Hid (∀ Wx, (Instr.index 155 (.agg #[.int .i64 (t.val : Int), .int .i64 (s.val : Int)]) (.int .i64 ((j : Int) % 2))).run Try.prog Wx = .ok (.int .i64 ((Cox.nx t s (r + 1)).val : Int)) Wx) := Hi (by
              intro Wx
              rw [hr]
              unfold Cox.nx
              rcases Nat.mod_two_eq_zero_or_one (r + 1) with h | h
              · rw [if_pos h, show (((r + 1 : Nat) : Int) % 2) = 0 by omega]; kernel_rfl
              · rw [if_neg (by omega), show (((r + 1 : Nat) : Int) % 2) = 1 by omega]; kernel_rfl)
             have HIDX := HIDX.out
             generalize ((Cox.nx t s (r + 1)).val : Int) = cv at *
             have j1 : (0 : Int) < (j : Int) := by omega
             have j2 : (0 : Int) ≤ (j : Int) := by omega
             clear hcl hcs hs1 hc1 g1 g2 g4 g5 g6 hpl hr
             go_wp2_with (go_at_call 60; refine CS.out.mono ?_; rintro e w4 ⟨A4, la4, rfl, hx4, hg4, hl4⟩)
             have HG4 := Hi (And.intro hg4 hl4)
             clear hg4 hl4
             go_wp2_with fail
             refine ⟨⟨r, x1, sj1, P2, A4, la4, wv ++ [Cox.nx s t r], by have := HR1.out; omega, by have := HR1.out; rw [this]; congr 1; omega, rfl, Lib.hid ⟨HC1.out.1, HC1.out.2.1, HJ.out.2.2.1.trans HG4.out.1, HG4.out.2, HC1.out.2.2.1, ?_, HC1.out.2.2.2⟩⟩, ?_⟩
             · rw [HG4.out.1.old _ (Nat.lt_of_lt_of_le HLX.out HJ.out.2.2.2.2.1.len)]; exact HJ.out.2.2.2.2.2.1
             · have := HR1.out; simp [intOf]; omega
           · have hj00 : j = 0 := by omega
             subst hj00
             have hcl := HJ.out.1
             simp only [Cox.climb, Option.some.injEq, Prod.mk.injEq] at hcl
             obtain ⟨rfl, rfl⟩ := hcl
             have hwv := HJ.out.2.2.2.2.2.2
             simp only [Cox.alt, List.append_nil] at hwv
             have e1 : (if (q + 1) % 2 = 0 then s else t) = Cox.nx t s q := by unfold Cox.nx; split <;> split <;> first | rfl | omega
             have e2 : (if (q + 1) % 2 = 0 then t else s) = Cox.nx s t q := by unfold Cox.nx; split <;> split <;> first | rfl | omega
             obtain ⟨hyP, hzy, hyy, pz, pxj, nz0, hz0, hz1, hz2⟩ := Cox.G.round_top W t HX.out.2.2.1 HX.out.2.2.2.1 ⟨HX.out.2.2.2.2.1, nd, HX.out.1, HX.out.2.1⟩ HHH.out (by omega) HFX.out HTS.out (by have := HQ1.out; omega) HD.out
              HJ.out.2.1.ok HJ.out.2.2.2.2.1 (z := zj) (by rw [HQ1.out, Nat.add_sub_cancel, e1, e2, ← hwv]; exact HJ.out.2.1.at_)
             have hyl : st.length < stj.length := Nat.lt_of_lt_of_le HLX.out HJ.out.2.2.2.2.1.len
             have hzl : zj < stj.length := (List.getElem?_eq_some_iff.1 hz0).1
             obtain ⟨_, nx0, hx0, hx1⟩ := HJ.out.2.2.2.2.1.at (HHH.out.ext.at ⟨HX.out.2.2.2.2.1, nd, HX.out.1, HX.out.2.1⟩)
             have hAxj : Aj x = X := by rw [HJ.out.2.2.1.old x HX.out.2.2.2.2.2]; exact HAX.out
             have hAyj := HJ.out.2.2.2.2.2.1
             have l2z := HL2.out.1
             have l2y := HL2.out.2.1
             have hnzw : nz.word = nz0.word := by
              rw [Cox.getElem?_link hzy, if_pos rfl, hz0] at l2z
              cases l2z; rfl
             obtain ⟨ny0, hy0, hy1⟩ := HK.out.2.2.2
             have hnyw : ny.word = u ++ [s] := by
              rw [Cox.getElem?_link hzy, if_neg (Ne.symm hzy), if_pos rfl, hyy, hy0] at l2y
              cases l2y
              rcases hy1 with h | ⟨i, h1, h2, h3⟩
              · exact h
              · rcases Cox.two_down W hv (fun e => HTS.out e.symm) ((Cox.down_snoc W u s).2 HX.out.2.2.2.1) HD.out h3 with h4 | h4
                · exact (h1 h4).elim
                · rw [h4] at h2; omega
             obtain ⟨nx1, hx2, hx3⟩ : ∃ nx1, (Cox.link stj zj st.length t)[x]? = some nx1 ∧ nx1.word = u := by
              have hxy9 : x ≠ st.length := by have := HX.out.2.2.2.2.2; omega
              rw [Cox.getElem?_link hzy]
              by_cases e : x = zj
              · rw [if_pos e, hx0]; exact ⟨_, rfl, hx1⟩
              · rw [if_neg e, if_neg hxy9]; exact ⟨nx0, hx0, hx1⟩
             have hchain := (chain_of W HJ.out.2.1.ok HJ.out.2.2.2.1).link hzy hyP hz0 hz1
             have LKz := plink_grows HJ.out.2.2.1 (s := t) hzl hyl hzy _ rfl
             have LLz := LA.link (t := t) HJ.out.2.2.2.1 hzy
             have hne1 : ¬ Aj zj = B := fun e => hzy (HJ.out.2.2.1.rep.inj zj st.length hzl hyl (by rw [e, hAyj]))
             have hne2 : ¬ B = Aj zj := fun e => hne1 e.symm
             have a1 := HJ.out.2.2.1.rep.to hz0 t
             have a2 := fun o => HJ.out.2.2.1.rep.free (k := zj) hzl o
             rw [hz1] at a1
             simp only [tv] at a1
             rw [← hyy] at hy0
             have b1 := HJ.out.2.2.1.rep.to hy0 t
             have b4 := HJ.out.2.2.1.rep.down hy0 t
             have b2 := fun o => HJ.out.2.2.1.rep.free (k := st.length) hyl o
             rw [hAyj] at LKz b1 b4 b2
             generalize tv Aj (ny0.to t) = bv1 at *
             generalize ny0.down t = bv2 at *
             have HAH := Hi (And.intro hchain (And.intro (And.intro pz pxj) (And.intro hnzw (And.intro hnyw (And.intro hx2 (And.intro hx3 (And.intro hz2 (And.intro l2z (And.intro hyl (And.intro hAxj hAyj))))))))))
             have LKz := Lib.hid LKz
             have LLz := Lib.hid LLz
             clear hwv e1 e2 hyP hyy pz pxj hz0 hz1 hz2 hzl hx0 hx1 l2z l2y hnzw hy0 hy1 hnyw hx2 hx3 hchain hyl hAxj hAyj
             generalize hZ : Aj zj = Z at *
             have HZ := Lib.hid hZ
             clear hZ
             go_wp2_with fail
             go_region
             have HW5 := LKz.out.stay (Out.of_below (Below.drew (Below.refl _ _)))
             clear a1 a2 b1 b2 b4 LKz
             generalize World.drew _ = W5 at *
             have CA := ahead_any Aj laj (Cox.link stj zj st.length t) W5 HW5.rep Pj HAH.out.1 zj x HAH.out.2.1.1 HAH.out.2.1.2 nz nx1 HAH.out.2.2.2.2.2.2.2.1 HAH.out.2.2.2.2.1 (by rw [HAH.out.2.2.1, HAH.out.2.2.2.2.2.1]; exact HAH.out.2.2.2.2.2.2.1) (by rw [HAH.out.2.2.1, HAH.out.2.2.2.2.2.2.1]; omega) t s
             rw [HAH.out.2.2.2.2.2.2.2.2.2.1, HZ.out, HAH.out.2.2.2.2.2.1, ← HAH.out.2.2.2.1] at CA
             have HLYn : Hid (∀ ny2, (S (t.val + 1))[st.length]? = some ny2 → LY W S st.length u s (t.val + 1)) := Hi (fun ny2 h => ⟨ny2, h, .inr ⟨t, HTS.out, by omega, HD.out⟩⟩)
             have HW5 := Lib.hid HW5
             rcases HL2.out.2.2.2.2 with ⟨hl, hS⟩ | ⟨hl, hS⟩
             · rw [hl] at CA
               have HS := Lib.hid hS
               have CA := Lib.hid CA
               have y7 := fun m => ((HW5.out.drewN m).rep).last HL2.out.2.1
               have y8 := fun m => ((HW5.out.drewN m).rep).free (k := st.length) (by rw [Cox.length_link]; exact HAH.out.2.2.2.2.2.2.2.2.1) 7
               rw [HAH.out.2.2.2.2.2.2.2.2.2.2] at y7 y8
               clear hS hl
               go_wp2_with (go_at_call 80; refine CA.out.mono ?_; rintro e w6 ⟨rfl, n6, rfl⟩)
               refine ⟨⟨t.val + 1, Aj, ext1 laj st.length (t.val : Int), by omega, by go_num, Lib.hid ?_⟩, ?_⟩
               · have hyl := HAH.out.2.2.2.2.2.2.2.2.1
                 have g1 := pword_grows (HW5.out.drewN n6) (y := st.length) (by rw [Cox.length_link]; exact hyl) (nz.word ++ [t]) t
                 rw [HAH.out.2.2.2.2.2.2.2.2.2.2, ← HS.out] at g1
                 have g2 := LLz.out.word st.length nz.word t (fun n hn9 => by rw [HL2.out.2.1] at hn9; cases hn9; rw [HAH.out.2.2.2.1, HAH.out.2.2.1, List.length_append, HAH.out.2.2.2.2.2.2.1]; rfl)
                 rw [← HS.out] at g2
                 have g3 : st.length < (S (t.val + 1)).length := by rw [HS.out, List.length_modify, Cox.length_link]; exact hyl
                 exact ⟨g1, g2, HAH.out.2.2.2.2.2.2.2.2.2.2, HLYn.out _ (List.getElem?_eq_getElem g3)⟩
               · simp [intOf]; omega
             · rw [hl] at CA
               have HS := Lib.hid hS
               have CA := Lib.hid CA
               clear hS hl
               go_wp2_with (go_at_call 80; refine CA.out.mono ?_; rintro e w6 ⟨rfl, n6, rfl⟩)
               refine ⟨⟨t.val + 1, Aj, laj, by omega, by go_num, Lib.hid ?_⟩, ?_⟩
               · have hyl := HAH.out.2.2.2.2.2.2.2.2.1
                 have g3 : st.length < (S (t.val + 1)).length := by rw [HS.out, Cox.length_link]; exact hyl
                 have g1 := HW5.out.drewN n6
                 have g2 := LLz.out
                 rw [← HS.out] at g1 g2
                 exact ⟨g1, g2, HAH.out.2.2.2.2.2.2.2.2.2.2, HLYn.out _ (List.getElem?_eq_getElem g3)⟩
               · simp [intOf]; omega
  · have hk3 : k = 3 := by omega
    subst hk3
    have HFIN : Hid (∃ A' la', st.length < st'.length ∧ PGrows w A la st wr A' la' st' ∧ LA la' st' ∧ ∃ nx, st'[x]? = some nx ∧ nx.to s = some st.length) := Hi (by
     have h1 := HK.out.1
     have h2 := HK.out.2.1
     obtain ⟨ny, h3, _⟩ := HK.out.2.2.2
     obtain ⟨h4, h5⟩ := HHF.out 3 (Nat.le_refl _)
     obtain ⟨_, nx, h6, _, _, h7, _⟩ := h4.sides x s h5
     rw [HS3.out] at h1 h2 h3 h6
     exact ⟨A', la', (List.getElem?_eq_some_iff.1 h3).1, h1, h2, nx, h6, h7⟩)
    go_wp2_with fail
    go_end0
    exact ⟨rfl, HFIN.out⟩
theorem cross_say (hm : ∀ i j, W.m i j < 100) {bb : Fin 3 → K} (hv : Cox.Heavy W bb) (f : Nat) (hf : f < 100000) : CSaid W f := by
 induction f with
 | zero => intro A la st P E x s u w st' y p F a b c _ _ _ _ _ hfu _ _ _ _ _; omega
 | succ f ih0 =>
  have ih := ih0 (by omega)
  intro A la st P E x s u w st' y p F a b c hr hla ho hb hx hfu hE hp hpA hO hstep
  obtain ⟨px, nd, hn, hnw⟩ := hx
  cases ht : nd.to s with
  | some y0 =>
   have e : (st', y) = (st, y0) := by
    unfold Cox.step at hstep
    rw [hn, Option.bind_some, if_neg (by rw [hnw]; omega), ht] at hstep
    simpa using hstep.symm
   cases e
   refine (cross_known A la st p x s w hr nd hn y ht).mono ?_
   rintro e w' ⟨rfl, rfl⟩
   exact ⟨A, la, rfl, hr.closed x nd s y hn ht, PGrows.refl hr, hla⟩
  | none =>
   have GS := Hi (grow_say W hm hv f (by omega) ih A la st P E x s u w st' y p F a b c hr hla ho hb nd px hn hnw hfu hE hp hpA hO ht hstep)
   have c1 := hr.to hn s
   rw [ht] at c1
   simp only [tv] at c1
   have hs := s.isLt
   have i3 : (s.val : Int) < 3 := by omega
   have i4 : (0 : Int) ≤ (s.val : Int) := by omega
   have hxl := hb x px
   have HXL := Lib.hid hxl
   clear hr hla ho hb px hn hnw hfu hE hp hpA hO ht hstep ih ih0 hs hxl
   go_enter Try.func60, Try.ntmps60
   go_wp2_with (go_at_call 72; refine GS.out.mono ?_; rintro e w2 ⟨rfl, A', la', hy, hg, hl, nx, h1, h2⟩; have c2 := hg.rep.to h1 s; rw [h2, hg.old x HXL.out] at c2; simp only [tv] at c2; have HG := Hi (And.intro hy (And.intro hg hl)); clear hy hg hl h1 h2 c1)
   go_ret
   exact ⟨_, _, rfl, HG.out.1, HG.out.2.1, HG.out.2.2⟩
end Go.Proofs.Ytkndmibmmoikbaa
namespace Go.Proofs.Ytkndmibmmoikbaa
open Go.RowKit
open Cox (Tl)
abbrev Dict := List (Fin 3) → Nat → Prop
def Dict.dom (D : Dict) : Nat → Prop := fun x => ∃ u, D u x
variable {K : Type} [Cox.OR K] (W : Cox.Tri K)
structure TS (a b c : Int) (p F : Nat) (w : World) (A : Nat → Nat) (la : Nat → Int) (st : List Tl) : Prop where
 rep : PRep w A la st
 last : LA la st
 ok : Cox.G.Ok W st (fun k => k < st.length) (fun _ _ => False)
 head : w.heap[p]? = some (.cells #[.int .i64 a, .int .i64 b, .int .i64 c, .pointer (some ⟨F, 0, none⟩)] 93 (0, 0))
 notin : ¬ In A st.length p
 root : ∃ nd, st[0]? = some nd ∧ nd.word = [] ∧ A 0 = F
def dict (A : Nat → Nat) (st : List Tl) : Dict := fun u x => ∃ k nd, st[k]? = some nd ∧ nd.word = u ∧ A k = x
def TD (a b c : Int) (p F : Nat) (w : World) (D : Dict) : Prop := ∃ A la st, TS W a b c p F w A la st ∧ D = dict A st
structure TExt (w : World) (D : Dict) (w' : World) (D' : Dict) : Prop where
 more : ∀ u x, D u x → D' u x
 new : ∀ u x, D' u x → D u x ∨ w.heap.size ≤ x
 out : Out D.dom w w'
theorem TExt.refl (w : World) (D : Dict) : TExt w D w D := ⟨fun _ _ h => h, fun _ _ h => .inl h, Out.refl _ _⟩
theorem TExt.trans {w w' w'' : World} {D D' D'' : Dict} (h : TExt w D w' D') (g : TExt w' D' w'' D'') : TExt w D w'' D'' where
 more u x hx := g.more u x (h.more u x hx)
 new u x hx := by
  rcases g.new u x hx with h1 | h1
  · exact h.new u x h1
  · exact .inr (Nat.le_trans h.out.size h1)
 out := h.out.trans g.out (by
  rintro x ⟨u, hu⟩ hl
  rcases h.new u x hu with h1 | h1
  · exact ⟨u, h1⟩
  · omega)
theorem TExt.keep {w w' : World} {D D' : Dict} (h : TExt w D w' D') {q : Nat} (hq : q < w.heap.size) (hn : ¬ D.dom q) : w'.heap[q]? = w.heap[q]? ∧ ¬ D'.dom q := by
 refine ⟨h.out.block q hq hn, ?_⟩
 rintro ⟨u, hu⟩
 rcases h.new u q hu with h1 | h1
 · exact hn ⟨u, h1⟩
 · omega
theorem TExt.stay {w w' w2 : World} {D D' : Dict} (h : TExt w D w' D') (g : Out (fun _ => False) w' w2) : TExt w D w2 D' :=
 h.trans ⟨fun _ _ h => h, fun _ _ h => .inl h, ⟨g.os, g.tape, g.output, g.size, fun b hb _ => g.block b hb id⟩⟩
section
variable {W}
variable {a b c : Int} {p F : Nat} {w : World} {D : Dict}
theorem TD.lt (h : TD W a b c p F w D) {u : List (Fin 3)} {x : Nat} (hx : D u x) : x < w.heap.size := by
 obtain ⟨A, la, st, hs, rfl⟩ := h
 obtain ⟨k, nd, h1, _, rfl⟩ := hx
 exact hs.rep.lt (List.getElem?_eq_some_iff.1 h1).1
theorem TD.cells (h : TD W a b c p F w D) {u : List (Fin 3)} {x : Nat} (hx : D u x) : ∃ cs, w.heap[x]? = some (.cells cs 124 (0, 0)) := by
 obtain ⟨A, la, st, hs, rfl⟩ := h
 obtain ⟨k, nd, h1, _, rfl⟩ := hx
 exact ⟨_, hs.rep.cells k nd h1⟩
theorem TD.word_inj (h : TD W a b c p F w D) {u v : List (Fin 3)} {x : Nat} (hu : D u x) (hv : D v x) : u = v := by
 obtain ⟨A, la, st, hs, rfl⟩ := h
 obtain ⟨k, nd, h1, h2, h3⟩ := hu
 obtain ⟨j, ne, g1, g2, g3⟩ := hv
 have e := hs.rep.inj k j (List.getElem?_eq_some_iff.1 h1).1 (List.getElem?_eq_some_iff.1 g1).1 (h3.trans g3.symm)
 subst e
 rw [h1] at g1
 cases g1
 rw [← h2, ← g2]
theorem TD.addr_inj (h : TD W a b c p F w D) {u : List (Fin 3)} {x y : Nat} (hx : D u x) (hy : D u y) : x = y := by
 obtain ⟨A, la, st, hs, rfl⟩ := h
 obtain ⟨k, nd, h1, h2, h3⟩ := hx
 obtain ⟨j, ne, g1, g2, g3⟩ := hy
 have e := hs.ok.inj _ _ k j nd ne rfl (List.getElem?_eq_some_iff.1 h1).1 (List.getElem?_eq_some_iff.1 g1).1 h1 g1 (h2.trans g2.symm)
 rw [← h3, ← g3, e]
theorem TD.nf (h : TD W a b c p F w D) {u : List (Fin 3)} {x : Nat} (hx : D u x) : Cox.nf W u = u := by
 obtain ⟨A, la, st, hs, rfl⟩ := h
 obtain ⟨k, nd, h1, h2, h3⟩ := hx
 rw [← h2]
 exact hs.ok.nf k nd (List.getElem?_eq_some_iff.1 h1).1 h1
theorem TD.root (h : TD W a b c p F w D) : D [] F := by
 obtain ⟨A, la, st, hs, rfl⟩ := h
 obtain ⟨nd, h1, h2, h3⟩ := hs.root
 exact ⟨0, nd, h1, h2, h3⟩
theorem TD.head (h : TD W a b c p F w D) : w.heap[p]? = some (.cells #[.int .i64 a, .int .i64 b, .int .i64 c, .pointer (some ⟨F, 0, none⟩)] 93 (0, 0)) ∧ ¬ D.dom p := by
 obtain ⟨A, la, st, hs, rfl⟩ := h
 refine ⟨hs.head, ?_⟩
 rintro ⟨u, k, nd, h1, _, h3⟩
 exact hs.notin ⟨k, (List.getElem?_eq_some_iff.1 h1).1, h3⟩
theorem TD.stay (h : TD W a b c p F w D) {w' : World} (hk : ∀ x, D.dom x → w'.heap[x]? = w.heap[x]?) (hp : w'.heap[p]? = w.heap[p]?) : TD W a b c p F w' D := by
 obtain ⟨A, la, st, hs, rfl⟩ := h
 refine ⟨A, la, st, ⟨⟨fun k nd hn => ?_, hs.rep.inj, hs.rep.closed⟩, hs.last, hs.ok, hp.trans hs.head, hs.notin, hs.root⟩, rfl⟩
 rw [hk _ ⟨nd.word, k, nd, hn, rfl, rfl⟩]
 exact hs.rep.cells k nd hn
theorem TD.out (h : TD W a b c p F w D) {S : Nat → Prop} {w' : World} (ho : Out S w w') (hS : ∀ x, D.dom x → ¬ S x) (hp : ¬ S p) : TD W a b c p F w' D := by
 refine h.stay (fun x hx => ?_) ?_
 · obtain ⟨u, hu⟩ := hx
   exact ho.block x (h.lt hu) (hS x ⟨u, hu⟩)
 · exact ho.block p (Array.getElem?_eq_some_iff.1 h.head.1).1 hp
theorem TD.below (h : TD W a b c p F w D) {w' : World} (hb : Below w.heap.size w w') : TD W a b c p F w' D := h.out (Out.of_below (S := fun _ => False) hb) (fun _ _ h => h) (fun h => h)
end
structure Ords (a b c : Int) : Prop where
 lt : ∀ i j, W.m i j < 100
 heavy : ∃ g, Cox.Heavy W g
 eq : ∀ i j : Fin 3, i ≠ j → (if (i.val : Int) + (j.val : Int) = 1 then a else if (i.val : Int) + (j.val : Int) = 3 then b else c) = (W.m i j : Int)
theorem cross_any {a b c : Int} (ho : Ords W a b c) {p F : Nat} {w : World} {D : Dict} (h : TD W a b c p F w D) {u : List (Fin 3)} {x : Nat} (hx : D u x) (hu : u.length < 90000) (s : Fin 3) :
 Calls Try.prog 60 #[.pointer (some ⟨p, 0, none⟩), .pointer (some ⟨x, 0, none⟩), .int .i64 (s.val : Int)] w fun e w' =>
  ∃ D' y, e = .returned (.pointer (some ⟨y, 0, none⟩)) ∧ D' (Cox.nf W (u ++ [s])) y ∧ TD W a b c p F w' D' ∧ TExt w D w' D' := by
 obtain ⟨A, la, st, hs, rfl⟩ := h
 obtain ⟨k, nd, h1, h2, rfl⟩ := hx
 obtain ⟨g, hg⟩ := ho.heavy
 have hat : Cox.At st (fun k => k < st.length) k u := ⟨(List.getElem?_eq_some_iff.1 h1).1, nd, h1, h2⟩
 obtain ⟨st', P', y, e1, o1, b1, a1, x1, n1, _⟩ := Cox.G.step_ok W 99999 st (fun k => k < st.length) (fun _ _ => False) k u s hs.ok (fun _ h => h) hat (by omega) (fun _ _ h => h.elim)
 have hP : P' = fun k => k < st'.length := by
  funext j
  apply propext
  constructor
  · exact b1 j
  · intro hj
    rcases Nat.lt_or_ge j st.length with h3 | h3
    · exact x1.more j h3
    · exact n1 j h3 hj
 subst hP
 refine (cross_say W ho.lt hg 99999 (by omega) A la st (fun k => k < st.length) (fun _ _ => False) k s u w st' y p F a b c hs.rep hs.last hs.ok (fun _ h => h) hat (by omega) (fun _ _ h => h.elim) hs.head hs.notin ho.eq e1).mono ?_
 rintro e w' ⟨A', la', rfl, hy, hgr, hla⟩
 obtain ⟨_, ny, hny, hnw⟩ := a1
 have hkept := fun j nd hj hn => x1.kept j nd hj hn
 refine ⟨dict A' st', A' y, rfl, ⟨y, ny, hny, hnw, rfl⟩, ⟨A', la', st', ⟨hgr.rep, hla, o1, ?_, ?_, ?_⟩, rfl⟩, ?_, ?_, ?_⟩
 · have := (hgr.keep (Array.getElem?_eq_some_iff.1 hs.head).1 hs.notin).1
   rw [this]; exact hs.head
 · exact (hgr.keep (Array.getElem?_eq_some_iff.1 hs.head).1 hs.notin).2
 · obtain ⟨n0, r1, r2, r3⟩ := hs.root
   obtain ⟨n1', q1, q2, _⟩ := hkept 0 n0 (List.getElem?_eq_some_iff.1 r1).1 r1
   exact ⟨n1', q1, q2.trans r2, by rw [hgr.old 0 (List.getElem?_eq_some_iff.1 r1).1]; exact r3⟩
 · rintro v x ⟨j, nj, j1, j2, j3⟩
   obtain ⟨n1', q1, q2, _⟩ := hkept j nj (List.getElem?_eq_some_iff.1 j1).1 j1
   exact ⟨j, n1', q1, q2.trans j2, by rw [hgr.old j (List.getElem?_eq_some_iff.1 j1).1]; exact j3⟩
 · rintro v x ⟨j, nj, j1, j2, j3⟩
   have hj := (List.getElem?_eq_some_iff.1 j1).1
   rcases Nat.lt_or_ge j st.length with h3 | h3
   · have h4 : st[j]? = some st[j] := List.getElem?_eq_getElem h3
     obtain ⟨n1', q1, q2, _⟩ := hkept j _ h3 h4
     rw [j1] at q1
     cases q1
     exact .inl ⟨j, st[j], h4, q2.symm.trans j2, by rw [← hgr.old j h3]; exact j3⟩
   · exact .inr (by rw [← j3]; exact hgr.new j h3 hj)
 · have ho := hgr.out
   refine ⟨ho.os, ho.tape, ho.output, ho.size, fun q hq hn => ho.block q hq ?_⟩
   rintro ⟨j, hj, rfl⟩
   exact hn ⟨st[j].word, j, st[j], List.getElem?_eq_getElem hj, rfl, rfl⟩
end Go.Proofs.Ytkndmibmmoikbaa
namespace Go.Proofs.Ytkndmibmmoikbaa
open Go.RowKit
open Cox (Tl)
variable {K : Type} [Cox.OR K] (W : Cox.Tri K)
theorem lead_any {a b c : Int} (ho : Ords W a b c) {p F : Nat} {w : World} {D : Dict} (h : TD W a b c p F w D) {u : List (Fin 3)} {x : Nat} (hx : D u x) (l : List (Fin 3)) (hu : u.length + l.length < 90000) :
 Calls Try.prog 33 #[.pointer (some ⟨p, 0, none⟩), .pointer (some ⟨x, 0, none⟩), .string (wb l)] w fun e w' =>
  ∃ D' y, e = .returned (.pointer (some ⟨y, 0, none⟩)) ∧ D' (Cox.nf W (u ++ l)) y ∧ TD W a b c p F w' D' ∧ TExt w D w' D' := by
 have H0 := Hi (And.intro h hx)
 have hsz := wb_size l
 have HSZ := Lib.hid hsz
 have hw0 : Cox.nf W u = u := h.nf hx
 have HW0 := Lib.hid hw0
 clear h hx hw0 hsz
 have HO := Lib.hid ho
 clear ho
 go_enter Try.func33, Try.ntmps33
 go_wp2_with fail
 go_loopw [1, 10] (fun xx kk wr => ∃ (k y : Nat) (D' : Dict), k ≤ l.length ∧ kk = .int .i64 k ∧ xx = .pointer (some ⟨y, 0, none⟩) ∧ Hid (D' (Cox.nf W (u ++ l.take k)) y ∧ TD W a b c p F wr D' ∧ TExt w D wr D')) (fun _ kk _ => l.length - (intOf kk).toNat)
 case atStart => exact ⟨0, x, D, by omega, rfl, rfl, Lib.hid ⟨by simp [HW0.out]; exact H0.out.2, H0.out.1, TExt.refl _ _⟩⟩
 case round =>
  obtain ⟨k, y, D', hk, rfl, rfl, HJ⟩ := hrel
  have hsz := HSZ.out
  by_cases hlt : k < l.length
  · have k1 : (k : Int) < ((wb l).size : Int) := by omega
    have k2 : (0 : Int) ≤ (k : Int) := by omega
    have hix := fun Wx => index_wb l k hlt Wx
    have CR := Hi (cross_any W HO.out HJ.out.2.1 HJ.out.1 (by have := Cox.nf_le W (u ++ l.take k); simp at this; omega) l[k])
    have HT : Hid (Cox.nf W (Cox.nf W (u ++ l.take k) ++ [l[k]]) = Cox.nf W (u ++ l.take (k + 1))) := Hi (by
     rw [Cox.nf_congr W (Cox.pi_right W (Cox.nf_pi W (u ++ l.take k)) [l[k]])]
     rw [List.take_succ_eq_append_getElem hlt, List.append_assoc])
    have hb1 : ((l[k].val : Nat) : Int) ≤ 2 := by omega
    have hb2 : (0 : Int) ≤ (l[k].val : Int) := by omega
    generalize (l[k].val : Int) = cv at *
    clear hsz
    go_wp2_with (go_at_call 60; refine CR.out.mono ?_; rintro e w3 ⟨D2, y2, rfl, hd, htd, hext⟩; have HD := Hi (And.intro hd (And.intro htd hext)); clear hd htd hext)
    go_roundw
    case rel => exact ⟨k + 1, _, _, by omega, by go_num, rfl, Lib.hid ⟨by rw [← HT.out]; exact HD.out.1, HD.out.2.1, HJ.out.2.2.trans HD.out.2.2⟩⟩
    case measure => simp [intOf]; omega
  · have hkl : k = l.length := by omega
    subst hkl
    have k1 : ¬ (l.length : Int) < ((wb l).size : Int) := by omega
    clear hsz
    go_wp2_with fail
    go_ret
    exact ⟨D', y, rfl, by have := HJ.out.1; rwa [List.take_length] at this, HJ.out.2⟩
end Go.Proofs.Ytkndmibmmoikbaa
