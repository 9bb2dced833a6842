/- Chapter 10: Pm0 Pg0 Pl0 Pl1. -/
import Derived.Test.YtkndmibmmoikbaaD15
import Derived.Test.YtkndmibmmoikbaaD10
import Derived.Deep.AppendLies
set_option linter.all false
set_option maxRecDepth 100000
set_option maxHeartbeats 16000000
namespace Go.Proofs.Ytkndmibmmoikbaa
open Go.RowKit
def MapOf (w : World) (M : Nat) (l : List (Value × Value)) : Prop := ∃ (es : Array MapEntry) (clock : Nat), w.heap[M]? = some (.map es clock) ∧ es.toList.map (fun e => (e.key, e.val)) = l ∧ (∀ e ∈ es.toList, e.born < clock) ∧ (es.toList.map (·.born)).Nodup
theorem MapOf.keep {w w' : World} {M : Nat} {l : List (Value × Value)} (h : MapOf w M l) (hk : w'.heap[M]? = w.heap[M]?) : MapOf w' M l := by
 obtain ⟨es, c, h1, h2⟩ := h
 exact ⟨es, c, hk.trans h1, h2⟩
theorem MapOf.lt {w : World} {M : Nat} {l : List (Value × Value)} (h : MapOf w M l) : M < w.heap.size := by
 obtain ⟨es, c, h1, h2⟩ := h
 exact (Array.getElem?_eq_some_iff.1 h1).1
theorem MapOf.new (w : World) : MapOf (w.alloc (.map #[] 0)) w.heap.size [] := ⟨#[], 0, by
 show (w.heap.push _)[w.heap.size]? = _
 simp, rfl, by simp, by simp⟩
theorem fnd_in {k : Value} : ∀ (es : List MapEntry) (i : Nat), k ∈ es.map (·.key) → ∃ j v, Mp.fnd k es i = some (j, v) := by
 intro es
 induction es with
 | nil => intro i h; cases h
 | cons e es ih =>
  intro i h
  unfold Mp.fnd
  by_cases hk : e.key = k
  · rw [if_pos hk]; exact ⟨_, _, rfl⟩
  · rw [if_neg hk]
    refine ih (i + 1) ?_
    rcases List.mem_cons.1 h with h | h
    · exact (hk h.symm).elim
    · exact h
theorem fnd_out {k : Value} : ∀ (es : List MapEntry) (i : Nat), k ∉ es.map (·.key) → Mp.fnd k es i = none := by
 intro es
 induction es with
 | nil => intro i h; rfl
 | cons e es ih =>
  intro i h
  unfold Mp.fnd
  rw [if_neg (fun hk => h (by rw [← hk]; simp))]
  exact ih (i + 1) (fun h2 => h (by simp at h2 ⊢; exact .inr h2))
section
variable {P : Program} {kt mt et : TypeId} {w : World} {D : Value → Prop}
theorem MapOf.lookup_in (K : Mp.Kin P kt w D) (ht : P.underlying mt = some (.map kt et)) {M : Nat} {l : List (Value × Value)} (h : MapOf w M l) (hd : ∀ kv ∈ l, D kv.1) (hn : (l.map (·.1)).Nodup) {k v : Value} (hk : (k, v) ∈ l) (c : Bool) :
 (Instr.lookup mt (.map (some M)) k c).run P w = .ok (if c then .tuple #[v, .bool true] else v) w := by
 obtain ⟨es, clock, h1, h2, hbn⟩ := h
 have hkeys : es.toList.map (·.key) = l.map (·.1) := by rw [← h2]; simp
 have he : ∀ e ∈ es.toList, D e.key := fun e hm => hd (e.key, e.val) (by rw [← h2]; exact List.mem_map.2 ⟨e, hm, rfl⟩)
 have hkd : D k := hd _ hk
 obtain ⟨j, v', hf⟩ := fnd_in (k := k) es.toList 0 (by rw [hkeys]; exact List.mem_map.2 ⟨_, hk, rfl⟩)
 have hr := K.lookup_yes ht h1 he hkd hf c
 obtain ⟨_, e, g1, g2, g3⟩ := Mp.fnd_some _ _ _ _ hf
 have hv : v' = v := by
  rw [← h2] at hk
  obtain ⟨e', m1, m2⟩ := List.mem_map.1 hk
  obtain ⟨i', hi', rfl⟩ := List.getElem_of_mem m1
  simp only [Prod.mk.injEq] at m2
  rw [← hkeys] at hn
  have hj : j - 0 < es.toList.length := (List.getElem?_eq_some_iff.1 g1).1
  have hej : es.toList[j - 0] = e := (List.getElem?_eq_some_iff.1 g1).2
  have : j - 0 = i' := by
   have := (List.nodup_iff_pairwise_ne.1 hn)
   rw [List.pairwise_iff_getElem] at this
   rcases Nat.lt_trichotomy (j - 0) i' with h | h | h
   · have := this (j - 0) i' (by simpa using hj) (by simpa using hi') h
     simp only [List.getElem_map] at this
     rw [hej, g2, m2.1] at this
     exact (this rfl).elim
   · exact h
   · have := this i' (j - 0) (by simpa using hi') (by simpa using hj) h
     simp only [List.getElem_map] at this
     rw [hej, g2, m2.1] at this
     exact (this rfl).elim
  subst this
  rw [← g3, ← hej, m2.2]
 rw [hv] at hr
 exact hr
theorem MapOf.lookup_out (K : Mp.Kin P kt w D) (ht : P.underlying mt = some (.map kt et)) {M : Nat} {l : List (Value × Value)} (h : MapOf w M l) (hd : ∀ kv ∈ l, D kv.1) {k z : Value} (hkd : D k) (hk : k ∉ l.map (·.1)) (hz : (zeroValue et).run P w = .ok z w) (c : Bool) :
 (Instr.lookup mt (.map (some M)) k c).run P w = .ok (if c then .tuple #[z, .bool false] else z) w := by
 obtain ⟨es, clock, h1, h2, hbn⟩ := h
 have hkeys : es.toList.map (·.key) = l.map (·.1) := by rw [← h2]; simp
 have he : ∀ e ∈ es.toList, D e.key := fun e hm => hd (e.key, e.val) (by rw [← h2]; exact List.mem_map.2 ⟨e, hm, rfl⟩)
 exact K.lookup_no ht h1 he hkd hz (fnd_out _ _ (by rw [hkeys]; exact hk)) c
theorem setObj_out (w : World) (M : Nat) (o : Obj) : Out (fun b => b = M) w { w with heap := w.heap.setIfInBounds M o } := by
 refine ⟨rfl, rfl, rfl, by simp, fun b hb hn => ?_⟩
 show (w.heap.setIfInBounds M o)[b]? = _
 rw [Array.getElem?_setIfInBounds, if_neg (fun e => hn e.symm)]
theorem MapOf.update_out (K : Mp.Kin P kt w D) (ht : P.underlying mt = some (.map kt et)) {M : Nat} {l : List (Value × Value)} (h : MapOf w M l) (hd : ∀ kv ∈ l, D kv.1) {k : Value} (hkd : D k) (hk : k ∉ l.map (·.1)) (v : Value) :
 ∃ w', (Instr.mapUpdate mt (.map (some M)) k v).run P w = .ok () w' ∧ MapOf w' M (l ++ [(k, v)]) ∧ Out (fun b => b = M) w w' ∧ w'.heap.size = w.heap.size := by
 obtain ⟨es, clock, h1, h2, hbn⟩ := h
 have hkeys : es.toList.map (·.key) = l.map (·.1) := by rw [← h2]; simp
 have he : ∀ e ∈ es.toList, D e.key := fun e hm => hd (e.key, e.val) (by rw [← h2]; exact List.mem_map.2 ⟨e, hm, rfl⟩)
 have hM := (Array.getElem?_eq_some_iff.1 h1).1
 refine ⟨_, K.update_new ht h1 he hkd (fnd_out _ _ (by rw [hkeys]; exact hk)) v, ⟨es.push { key := k, val := v, born := clock }, clock + 1, ?_, ?_⟩, setObj_out w M _, by simp⟩
 · show (w.heap.setIfInBounds M _)[M]? = _
   rw [Array.getElem?_setIfInBounds, if_pos rfl, if_pos hM]
 · refine ⟨by rw [← h2]; simp, ?_, ?_⟩
   · intro e hm
     simp only [Array.toList_push, List.mem_append, List.mem_singleton] at hm
     rcases hm with hm | rfl
     · have := hbn.1 e hm; omega
     · show clock < clock + 1; omega
   · rw [Array.toList_push, List.map_append, List.nodup_append]
     refine ⟨hbn.2, by simp, fun x hx y hy => ?_⟩
     obtain ⟨e, hm, rfl⟩ := List.mem_map.1 hx
     simp at hy
     have := hbn.1 e hm
     omega
theorem MapOf.update_in (K : Mp.Kin P kt w D) (ht : P.underlying mt = some (.map kt et)) {M : Nat} {l : List (Value × Value)} (h : MapOf w M l) (hd : ∀ kv ∈ l, D kv.1) (hn : (l.map (·.1)).Nodup) {k u : Value} {j : Nat} (hj : l[j]? = some (k, u)) (v : Value) :
 ∃ w', (Instr.mapUpdate mt (.map (some M)) k v).run P w = .ok () w' ∧ MapOf w' M (l.set j (k, v)) ∧ Out (fun b => b = M) w w' ∧ w'.heap.size = w.heap.size := by
 obtain ⟨es, clock, h1, h2, hbn⟩ := h
 have hkeys : es.toList.map (·.key) = l.map (·.1) := by rw [← h2]; simp
 have he : ∀ e ∈ es.toList, D e.key := fun e hm => hd (e.key, e.val) (by rw [← h2]; exact List.mem_map.2 ⟨e, hm, rfl⟩)
 have hkl : (k, u) ∈ l := List.mem_of_getElem? hj
 have hkd : D k := hd _ hkl
 have hM := (Array.getElem?_eq_some_iff.1 h1).1
 obtain ⟨j', v', hf⟩ := fnd_in (k := k) es.toList 0 (by rw [hkeys]; exact List.mem_map.2 ⟨_, hkl, rfl⟩)
 obtain ⟨_, e, g1, g2, g3⟩ := Mp.fnd_some _ _ _ _ hf
 rw [Nat.sub_zero] at g1
 have hjj : j' = j := by
  have hjl : (l.map (·.1))[j]? = some k := by rw [List.getElem?_map, hj]; rfl
  have hj'l : (l.map (·.1))[j']? = some k := by rw [← hkeys, List.getElem?_map, g1, ← g2]; rfl
  have hlt : j < (l.map (·.1)).length := (List.getElem?_eq_some_iff.1 hjl).1
  exact ((List.getElem?_inj hlt hn).1 (by rw [hjl, hj'l])).symm
 subst hjj
 refine ⟨_, K.update_old ht h1 he hkd hf v, ⟨es.modify j' fun e => { e with key := k, val := v }, clock, ?_, ?_⟩, setObj_out w M _, by simp⟩
 · show (w.heap.setIfInBounds M _)[M]? = _
   rw [Array.getElem?_setIfInBounds, if_pos rfl, if_pos hM]
 · have hbm : (es.modify j' fun e => { e with key := k, val := v }).toList.map (·.born) = es.toList.map (·.born) := by
    refine List.ext_getElem? fun i => ?_
    rw [List.getElem?_map, List.getElem?_map, Array.getElem?_toList, Array.getElem?_toList, Array.getElem?_modify]
    by_cases e2 : j' = i
    · rw [if_pos e2]; cases es[i]? <;> rfl
    · rw [if_neg e2]
   refine ⟨?_, ?_, by rw [hbm]; exact hbn.2⟩
   rotate_left
   · intro e hm
     have : e.born ∈ es.toList.map (·.born) := by rw [← hbm]; exact List.mem_map.2 ⟨e, hm, rfl⟩
     obtain ⟨e', hm', he'⟩ := List.mem_map.1 this
     rw [← he']; exact hbn.1 e' hm'
   rw [← h2]
   refine List.ext_getElem? fun i => ?_
   rw [List.getElem?_map, Array.getElem?_toList, Array.getElem?_modify, List.getElem?_set]
   by_cases e2 : j' = i
   · subst e2
     rw [if_pos rfl, if_pos rfl]
     have : j' < es.toList.length := (List.getElem?_eq_some_iff.1 g1).1
     rw [if_pos (by simpa using this)]
     rw [Array.getElem?_toList] at g1
     rw [g1]; rfl
   · rw [if_neg e2, if_neg e2, List.getElem?_map, Array.getElem?_toList]
end
end Go.Proofs.Ytkndmibmmoikbaa
namespace Go.Proofs.Ytkndmibmmoikbaa
open Go.RowKit
open Cox (Tl)
structure EdgeD where
 tile : ByteArray
 mir : Int
abbrev PairD := EdgeD × EdgeD
def PRow (w : World) (b o : Nat) (l : List PairD) : Prop := ∀ i (h : i < l.length), w.cell? ⟨b, o + i * 4, none⟩ = some (.string l[i].1.tile) ∧ w.cell? ⟨b, o + i * 4 + 1, none⟩ = some (.int .i64 l[i].1.mir) ∧
 w.cell? ⟨b, o + i * 4 + 2, none⟩ = some (.string l[i].2.tile) ∧ w.cell? ⟨b, o + i * 4 + 3, none⟩ = some (.int .i64 l[i].2.mir)
def StrsAt (w : World) (p : Option Addr) (l : List ByteArray) : Prop := l ≠ [] → ∃ b o, p = some ⟨b, o, none⟩ ∧ Row w b o l
def PairsAt (w : World) (p : Option Addr) (l : List PairD) : Prop := l ≠ [] → ∃ b o, p = some ⟨b, o, none⟩ ∧ PRow w b o l
def isMir (n : Int) : Prop := 0 ≤ n ∧ n ≤ 2
noncomputable def cedge (e : EdgeD) : Int := if cw e.tile ≠ 0 then cw e.tile else @ite _ (isMir e.mir) (Classical.propDecidable _) 0 1
noncomputable def cpair (p : PairD) : Int := if cedge p.1 ≠ 0 then cedge p.1 else cedge p.2
noncomputable def cpairs : List PairD → Int
 | [] => 0
 | p :: l => if cpair p ≠ 0 then cpair p else cpairs l
noncomputable def form (a b c : Int) (ts : List ByteArray) (ps : List PairD) : Int :=
 if chk a b c ≠ 0 then chk a b c else if 200 < ts.length ∨ 600 < ps.length then 4 else if cws ts ≠ 0 then cws ts else cpairs ps
theorem cws_good {l : List ByteArray} (h : ∀ i (hi : i < l.length), cw l[i] = 0) : cws l = 0 := by
 induction l with
 | nil => rfl
 | cons s l ih =>
  have h0 := h 0 (by simp)
  simp at h0
  simp only [cws, h0, if_true]
  exact ih fun i hi => by have := h (i + 1) (by simp; omega); simpa using this
theorem cws_first {l : List ByteArray} {k : Nat} (hk : k < l.length) (h : ∀ i (hi : i < l.length), i < k → cw l[i] = 0) (hb : cw l[k] ≠ 0) : cws l = cw l[k] := by
 induction l generalizing k with
 | nil => simp at hk
 | cons s l ih =>
  cases k with
  | zero =>
   simp at hb
   simp only [cws, if_neg hb]; rfl
  | succ k =>
   have h0 := h 0 (by simp) (by omega)
   simp at h0
   simp only [cws, h0, if_true]
   simp at hk
   have := ih hk (fun i hi hik => by have := h (i + 1) (by simp; omega) (by omega); simpa using this) (by simpa using hb)
   simpa using this
theorem cpairs_good {l : List PairD} (h : ∀ i (hi : i < l.length), cpair l[i] = 0) : cpairs l = 0 := by
 induction l with
 | nil => rfl
 | cons s l ih =>
  have h0 := h 0 (by simp)
  simp at h0
  simp only [cpairs, h0]
  simp
  exact ih fun i hi => by have := h (i + 1) (by simp; omega); simpa using this
theorem cpairs_first {l : List PairD} {k : Nat} (hk : k < l.length) (h : ∀ i (hi : i < l.length), i < k → cpair l[i] = 0) (hb : cpair l[k] ≠ 0) : cpairs l = cpair l[k] := by
 induction l generalizing k with
 | nil => simp at hk
 | cons s l ih =>
  cases k with
  | zero =>
   simp at hb
   simp only [cpairs]
   rw [if_pos hb]; rfl
  | succ k =>
   have h0 := h 0 (by simp) (by omega)
   simp at h0
   simp only [cpairs, h0]
   simp at hk
   have := ih hk (fun i hi hik => by have := h (i + 1) (by simp; omega) (by omega); simpa using this) (by simpa using hb)
   simpa using this
end Go.Proofs.Ytkndmibmmoikbaa
namespace Go.Proofs.Ytkndmibmmoikbaa
open Go.RowKit
open Cox (Tl)
variable {K : Type} [Cox.OR K] (W : Cox.Tri K)
def pval (x : Nat) : Value := .pointer (some ⟨x, 0, none⟩)
theorem pval_inj {x y : Nat} (h : pval x = pval y) : x = y := by
 unfold pval at h
 simpa using h
theorem owns_keep {w w' : World} {B : Nat} {e : TypeId} {n : Nat} {size : Nat} {v : Value} {xs : List Value} (h : w.ownsRow B e size v n xs) (hk : ∀ g, v.ownBlock = some g → w'.heap[g]? = w.heap[g]?) : w'.ownsRow B e size v n xs := by
 obtain ⟨h1, h2⟩ := h
 refine ⟨h1, ?_⟩
 rcases h2 with h2 | ⟨g, cap, cur, hv, hb, hg, r⟩
 · exact .inl h2
 · exact .inr ⟨g, cap, cur, hv, hb, by rw [hk g (by rw [hv]; rfl)]; exact hg, r⟩
theorem owns_lt {w : World} {B : Nat} {e : TypeId} {n : Nat} {size : Nat} {v : Value} {xs : List Value} (h : w.ownsRow B e size v n xs) {g : Nat} (hg : v.ownBlock = some g) : g < w.heap.size ∧ B ≤ g := by
 rcases h.2 with ⟨h2, _⟩ | ⟨g', cap, cur, hv, hb, hh, _⟩
 · rw [h2] at hg; cases hg
 · rw [hv] at hg
   have : g' = g := by simpa [Value.ownBlock] using hg
   subst this
   exact ⟨(Array.getElem?_eq_some_iff.1 hh).1, hb⟩
theorem owns_at {w : World} {B : Nat} {e : TypeId} {n : Nat} {v : Value} {xs : List Value} (h : w.ownsRow B e 1 v n xs) {i : Nat} (hi : i < xs.length) : ∃ g cap, v = .slice (some ⟨g, 0, none⟩) n cap ∧ w.cell? ⟨g, i, none⟩ = some xs[i] := by
 obtain ⟨h1, h2⟩ := h
 rcases h2 with ⟨_, h2⟩ | ⟨g, cap, cur, hv, hb, hg, hn, _, hs, ht⟩
 · subst h2; simp at h1; subst h1; simp at hi
 · refine ⟨g, cap, hv, ?_⟩
   rw [cell_of hg]
   have : xs[i]? = some xs[i] := List.getElem?_eq_getElem hi
   rw [← this, ← ht, List.getElem?_take, if_pos (by omega)]
   simp
structure LSt (B : Nat) (a b c : Int) (L p F M : Nat) (w : World) (D : Dict) (ws : List (List (Fin 3))) (xs : List Nat) (rv wv pv : Value) : Prop where
 td : TD W a b c p F w D
 head : w.heap[L]? = some (.cells #[.pointer (some ⟨p, 0, none⟩), rv, .map (some M), wv, pv] 80 (0, 0))
 len : xs.length = ws.length
 at_ : ∀ i (h : i < ws.length) (h' : i < xs.length), D ws[i] xs[i]
 nodup : ws.Nodup
 row : w.ownsRow B 69 1 rv xs.length (xs.map pval)
 map : MapOf w M (xs.zipIdx.map fun xi => (pval xi.1, .int .i64 (xi.2 : Nat)))
 sepL : ¬ D.dom L ∧ L ≠ M ∧ L ≠ p
 sepM : ¬ D.dom M ∧ M ≠ p
 sepR : ∀ g, rv.ownBlock = some g → ¬ D.dom g ∧ g ≠ L ∧ g ≠ M ∧ g ≠ p
 lo : B ≤ L ∧ B ≤ M ∧ B ≤ p ∧ ∀ x, D.dom x → B ≤ x
section
variable {W}
variable {B : Nat} {a b c : Int} {L p F M : Nat} {w : World} {D : Dict} {ws : List (List (Fin 3))} {xs : List Nat} {rv wv pv : Value}
theorem LSt.Llt (h : LSt W B a b c L p F M w D ws xs rv wv pv) : L < w.heap.size := (Array.getElem?_eq_some_iff.1 h.head).1
theorem LSt.plt (h : LSt W B a b c L p F M w D ws xs rv wv pv) : p < w.heap.size := (Array.getElem?_eq_some_iff.1 h.td.head.1).1
theorem LSt.ext (h : LSt W B a b c L p F M w D ws xs rv wv pv) {w' : World} {D' : Dict} (g : TExt w D w' D') (htd : TD W a b c p F w' D') : LSt W B a b c L p F M w' D' ws xs rv wv pv where
 td := htd
 head := (g.keep h.Llt h.sepL.1).1.trans h.head
 len := h.len
 at_ i h1 h2 := g.more _ _ (h.at_ i h1 h2)
 nodup := h.nodup
 row := owns_keep h.row fun q hq => (g.keep (owns_lt h.row hq).1 (h.sepR q hq).1).1
 map := h.map.keep (g.keep h.map.lt h.sepM.1).1
 sepL := ⟨(g.keep h.Llt h.sepL.1).2, h.sepL.2⟩
 sepM := ⟨(g.keep h.map.lt h.sepM.1).2, h.sepM.2⟩
 sepR q hq := ⟨(g.keep (owns_lt h.row hq).1 (h.sepR q hq).1).2, (h.sepR q hq).2⟩
 lo := ⟨h.lo.1, h.lo.2.1, h.lo.2.2.1, fun x hx => by
  obtain ⟨u, hu⟩ := hx
  rcases g.new u x hu with h1 | h1
  · exact h.lo.2.2.2 x ⟨u, h1⟩
  · have := h.Llt; have := h.lo.1; omega⟩
theorem LSt.out (h : LSt W B a b c L p F M w D ws xs rv wv pv) {S : Nat → Prop} {w' : World} (ho : Out S w w') (hD : ∀ x, D.dom x → ¬ S x) (hL : ¬ S L) (hp : ¬ S p) (hM : ¬ S M) (hR : ∀ g, rv.ownBlock = some g → ¬ S g) : LSt W B a b c L p F M w' D ws xs rv wv pv where
 td := h.td.out ho hD hp
 head := (ho.block L h.Llt hL).trans h.head
 len := h.len
 at_ := h.at_
 nodup := h.nodup
 row := owns_keep h.row fun q hq => ho.block q (owns_lt h.row hq).1 (hR q hq)
 map := h.map.keep (ho.block M h.map.lt hM)
 sepL := h.sepL
 sepM := h.sepM
 sepR := h.sepR
 lo := h.lo
theorem LSt.below (h : LSt W B a b c L p F M w D ws xs rv wv pv) {w' : World} (hb : Below w.heap.size w w') : LSt W B a b c L p F M w' D ws xs rv wv pv :=
 h.out (Out.of_below (S := fun _ => False) hb) (fun _ _ h => h) (fun h => h) (fun h => h) (fun h => h) (fun _ _ h => h)
theorem LSt.mem (h : LSt W B a b c L p F M w D ws xs rv wv pv) {u : List (Fin 3)} {x : Nat} (hx : D u x) : x ∈ xs ↔ u ∈ ws := by
 constructor
 · intro hm
   obtain ⟨i, hi, rfl⟩ := List.getElem_of_mem hm
   have hi' : i < ws.length := by rw [← h.len]; exact hi
   rw [h.td.word_inj hx (h.at_ i hi' hi)]
   exact List.getElem_mem hi'
 · intro hm
   obtain ⟨i, hi, rfl⟩ := List.getElem_of_mem hm
   have hi' : i < xs.length := by rw [h.len]; exact hi
   rw [h.td.addr_inj hx (h.at_ i hi hi')]
   exact List.getElem_mem hi'
theorem LSt.dom (h : LSt W B a b c L p F M w D ws xs rv wv pv) {x : Nat} (hx : x ∈ xs) : ∃ u, u ∈ ws ∧ D u x := by
 obtain ⟨i, hi, rfl⟩ := List.getElem_of_mem hx
 have hi' : i < ws.length := by rw [← h.len]; exact hi
 exact ⟨ws[i], List.getElem_mem hi', h.at_ i hi' hi⟩
theorem LSt.xnodup (h : LSt W B a b c L p F M w D ws xs rv wv pv) : xs.Nodup := by
 rw [List.nodup_iff_pairwise_ne, List.pairwise_iff_getElem]
 intro i j hi hj hij e
 have hi' : i < ws.length := by rw [← h.len]; exact hi
 have hj' : j < ws.length := by rw [← h.len]; exact hj
 have h1 := h.at_ i hi' hi
 rw [e] at h1
 have h2 := h.td.word_inj h1 (h.at_ j hj' hj)
 have h3 := List.nodup_iff_pairwise_ne.1 h.nodup
 rw [List.pairwise_iff_getElem] at h3
 exact h3 i j hi' hj' hij h2
theorem TD.key (h : TD W a b c p F w D) {u : List (Fin 3)} {x : Nat} (hx : D u x) : Mp.PtrKey w (pval x) := by
 obtain ⟨cs, hc⟩ := h.cells hx
 exact ⟨x, cs, 124, rfl, hc⟩
theorem tile_kin (w : World) : Mp.Kin Try.prog 69 w (Mp.PtrKey w) := by
 obtain ⟨j, hj, _, hj1, _⟩ := info_parts info124
 exact Mp.ptr_kin w (by kernel_rfl) hj (by rw [hj1]; decide)
theorem zip_fst (xs : List Nat) : ((xs.zipIdx.map fun xi => (pval xi.1, Value.int .i64 (xi.2 : Nat))).map (·.1)) = xs.map pval := by
 rw [List.map_map]
 have : ((fun kv : Value × Value => kv.1) ∘ fun xi : Nat × Nat => (pval xi.1, Value.int .i64 (xi.2 : Nat))) = pval ∘ Prod.fst := rfl
 rw [this, ← List.map_map]
 simp
theorem pval_nodup {xs : List Nat} (h : xs.Nodup) : (xs.map pval).Nodup := by
 rw [List.nodup_iff_pairwise_ne] at h ⊢
 exact List.Pairwise.map pval (fun x y hne e => hne (pval_inj e)) h
theorem z3 (w : World) : (zeroValue 3).run Try.prog w = .ok (.int .i64 0) w := by kernel_rfl
theorem LSt.look (h : LSt W B a b c L p F M w D ws xs rv wv pv) {u : List (Fin 3)} {x : Nat} (hx : D u x) :
 ∃ v, (Instr.lookup 77 (.map (some M)) (.pointer (some ⟨x, 0, none⟩)) true).run Try.prog w = .ok (.tuple #[v, .bool (decide (u ∈ ws))]) w := by
 have hkeys : ∀ kv ∈ (xs.zipIdx.map fun xi => (pval xi.1, Value.int .i64 (xi.2 : Nat))), Mp.PtrKey w kv.1 := by
  intro kv hkv
  have : kv.1 ∈ xs.map pval := by rw [← zip_fst]; exact List.mem_map.2 ⟨kv, hkv, rfl⟩
  obtain ⟨y, hy, he⟩ := List.mem_map.1 this
  obtain ⟨v, _, hv⟩ := h.dom hy
  rw [← he]; exact h.td.key hv
 by_cases hm : u ∈ ws
 · have hxm := (h.mem hx).2 hm
   have : pval x ∈ (xs.zipIdx.map fun xi => (pval xi.1, Value.int .i64 (xi.2 : Nat))).map (·.1) := by rw [zip_fst]; exact List.mem_map.2 ⟨x, hxm, rfl⟩
   obtain ⟨kv, hkv, he⟩ := List.mem_map.1 this
   refine ⟨kv.2, ?_⟩
   rw [decide_eq_true hm]
   have := h.map.lookup_in (tile_kin w) (mt := 77) (et := 3) (by kernel_rfl) hkeys (by rw [zip_fst]; exact pval_nodup h.xnodup) (k := pval x) (v := kv.2) (by rw [← he]; exact hkv) true
   exact this
 · have hxm : x ∉ xs := fun e => hm ((h.mem hx).1 e)
   refine ⟨.int .i64 0, ?_⟩
   rw [decide_eq_false hm]
   have := h.map.lookup_out (tile_kin w) (mt := 77) (et := 3) (by kernel_rfl) hkeys (k := pval x) (h.td.key hx) (by rw [zip_fst]; intro e; obtain ⟨y, hy, he⟩ := List.mem_map.1 e; exact hxm (pval_inj he ▸ hy)) (z3 w) true
   exact this
theorem has_any (h : LSt W B a b c L p F M w D ws xs rv wv pv) {u : List (Fin 3)} {x : Nat} (hx : D u x) :
 Calls Try.prog 36 #[.pointer (some ⟨L, 0, none⟩), .pointer (some ⟨x, 0, none⟩)] w fun e w' => e = .returned (.bool (decide (u ∈ ws))) ∧ w' = w := by
 obtain ⟨v, hl⟩ := h.look hx
 have c2 : w.cell? ⟨L, 2, none⟩ = some (.map (some M)) := by rw [cell_of h.head]; rfl
 generalize decide (u ∈ ws) = r at *
 clear h hx
 go_enter Try.func36, Try.ntmps36
 go_wp2_with fail
 go_ret
 exact ⟨rfl, rfl⟩
end
end Go.Proofs.Ytkndmibmmoikbaa
namespace Go.Proofs.Ytkndmibmmoikbaa
open Go.RowKit
open Cox (Tl)
variable {K : Type} [Cox.OR K] (W : Cox.Tri K)
theorem info69 : Option.map (fun i => (i.zero, i.size, i.bytes)) (Try.prog.info? 69) = some (some (.pointer none), 1, 8) := by kernel_rfl
theorem TExt.own {w0 w w' : World} {D0 D : Dict} (h : TExt w0 D0 w D) {S : Nat → Prop} (ho : Out S w w') (hS : ∀ b, S b → w0.heap.size ≤ b) : TExt w0 D0 w' D where
 more := h.more
 new := h.new
 out := ⟨ho.os.trans h.out.os, ho.tape.trans h.out.tape, ho.output.trans h.out.output, Nat.le_trans h.out.size ho.size, fun b hb hn => by
  rw [ho.block b (Nat.lt_of_lt_of_le hb h.out.size) (fun e => by have := hS b e; omega)]
  exact h.out.block b hb hn⟩
structure QSt (H : Nat) (w : World) (D : Dict) (MM : Nat) (qv : Value) (qs : List (List (Fin 3))) (ys : List Nat) : Prop where
 map : MapOf w MM (ys.map fun y => (pval y, .bool true))
 row : w.ownsRow H 69 1 qv ys.length (ys.map pval)
 len : ys.length = qs.length
 at_ : ∀ i (h : i < qs.length) (h' : i < ys.length), D qs[i] ys[i]
 nodup : qs.Nodup
 lo : H ≤ MM
 sepM : ¬ D.dom MM
 sepR : ∀ g, qv.ownBlock = some g → ¬ D.dom g ∧ g ≠ MM
section
variable {W}
variable {H : Nat} {a b c : Int} {p F : Nat} {w : World} {D : Dict} {MM : Nat} {qv : Value} {qs : List (List (Fin 3))} {ys : List Nat}
theorem QSt.ext (h : QSt H w D MM qv qs ys) {w' : World} {D' : Dict} (g : TExt w D w' D') : QSt H w' D' MM qv qs ys where
 map := h.map.keep (g.keep h.map.lt h.sepM).1
 row := owns_keep h.row fun q hq => (g.keep (owns_lt h.row hq).1 (h.sepR q hq).1).1
 len := h.len
 at_ i h1 h2 := g.more _ _ (h.at_ i h1 h2)
 nodup := h.nodup
 lo := h.lo
 sepM := (g.keep h.map.lt h.sepM).2
 sepR q hq := ⟨(g.keep (owns_lt h.row hq).1 (h.sepR q hq).1).2, (h.sepR q hq).2⟩
theorem QSt.out (h : QSt H w D MM qv qs ys) {S : Nat → Prop} {w' : World} (ho : Out S w w') (hM : ¬ S MM) (hR : ∀ g, qv.ownBlock = some g → ¬ S g) : QSt H w' D MM qv qs ys :=
 ⟨h.map.keep (ho.block MM h.map.lt hM), owns_keep h.row fun q hq => ho.block q (owns_lt h.row hq).1 (hR q hq), h.len, h.at_, h.nodup, h.lo, h.sepM, h.sepR⟩
theorem QSt.mem (h : QSt H w D MM qv qs ys) (td : TD W a b c p F w D) {u : List (Fin 3)} {x : Nat} (hx : D u x) : x ∈ ys ↔ u ∈ qs := by
 constructor
 · intro hm
   obtain ⟨i, hi, rfl⟩ := List.getElem_of_mem hm
   have hi' : i < qs.length := by rw [← h.len]; exact hi
   rw [td.word_inj hx (h.at_ i hi' hi)]
   exact List.getElem_mem hi'
 · intro hm
   obtain ⟨i, hi, rfl⟩ := List.getElem_of_mem hm
   have hi' : i < ys.length := by rw [h.len]; exact hi
   rw [td.addr_inj hx (h.at_ i hi hi')]
   exact List.getElem_mem hi'
theorem QSt.dom (h : QSt H w D MM qv qs ys) {x : Nat} (hx : x ∈ ys) : ∃ u, u ∈ qs ∧ D u x := by
 obtain ⟨i, hi, rfl⟩ := List.getElem_of_mem hx
 have hi' : i < qs.length := by rw [← h.len]; exact hi
 exact ⟨qs[i], List.getElem_mem hi', h.at_ i hi' hi⟩
theorem QSt.ynodup (h : QSt H w D MM qv qs ys) (td : TD W a b c p F w D) : ys.Nodup := by
 rw [List.nodup_iff_pairwise_ne, List.pairwise_iff_getElem]
 intro i j hi hj hij e
 have hi' : i < qs.length := by rw [← h.len]; exact hi
 have hj' : j < qs.length := by rw [← h.len]; exact hj
 have h1 := h.at_ i hi' hi
 rw [e] at h1
 have h2 := td.word_inj h1 (h.at_ j hj' hj)
 have h3 := List.nodup_iff_pairwise_ne.1 h.nodup
 rw [List.pairwise_iff_getElem] at h3
 exact h3 i j hi' hj' hij h2
theorem map_fst (ys : List Nat) : (ys.map fun y => (pval y, Value.bool true)).map (·.1) = ys.map pval := by
 rw [List.map_map]; rfl
theorem QSt.keys (h : QSt H w D MM qv qs ys) (td : TD W a b c p F w D) : ∀ kv ∈ (ys.map fun y => (pval y, Value.bool true)), Mp.PtrKey w kv.1 := by
 intro kv hkv
 obtain ⟨y, hy, rfl⟩ := List.mem_map.1 hkv
 obtain ⟨v, _, hv⟩ := h.dom hy
 exact td.key hv
theorem z4 (w : World) : (zeroValue 4).run Try.prog w = .ok (.bool false) w := by kernel_rfl
theorem QSt.look (h : QSt H w D MM qv qs ys) (td : TD W a b c p F w D) {u : List (Fin 3)} {x : Nat} (hx : D u x) :
 (Instr.lookup 115 (.map (some MM)) (.pointer (some ⟨x, 0, none⟩)) false).run Try.prog w = .ok (.bool (decide (u ∈ qs))) w := by
 by_cases hm : u ∈ qs
 · have hxm := (h.mem td hx).2 hm
   rw [decide_eq_true hm]
   have := h.map.lookup_in (tile_kin w) (mt := 115) (et := 4) (by kernel_rfl) (h.keys td) (by rw [map_fst]; exact pval_nodup (h.ynodup td)) (k := pval x) (v := .bool true) (List.mem_map.2 ⟨x, hxm, rfl⟩) false
   exact this
 · have hxm : x ∉ ys := fun e => hm ((h.mem td hx).1 e)
   rw [decide_eq_false hm]
   have := h.map.lookup_out (tile_kin w) (mt := 115) (et := 4) (by kernel_rfl) (h.keys td) (k := pval x) (td.key hx) (by rw [map_fst]; intro e; obtain ⟨y, hy, he⟩ := List.mem_map.1 e; exact hxm (pval_inj he ▸ hy)) (z4 w) false
   exact this
theorem QSt.put (h : QSt H w D MM qv qs ys) (td : TD W a b c p F w D) {u : List (Fin 3)} {x : Nat} (hx : D u x) (hm : u ∉ qs) :
 ∃ w1, (Instr.mapUpdate 115 (.map (some MM)) (.pointer (some ⟨x, 0, none⟩)) (.bool true)).run Try.prog w = .ok () w1 ∧ MapOf w1 MM ((ys ++ [x]).map fun y => (pval y, .bool true)) ∧ Out (fun b => b = MM) w w1 ∧ w1.heap.size = w.heap.size := by
 have hxm : x ∉ ys := fun e => hm ((h.mem td hx).1 e)
 obtain ⟨w1, h1, h2, h3, h4⟩ := h.map.update_out (tile_kin w) (mt := 115) (et := 4) (by kernel_rfl) (h.keys td) (k := pval x) (td.key hx) (by rw [map_fst]; intro e; obtain ⟨y, hy, he⟩ := List.mem_map.1 e; exact hxm (pval_inj he ▸ hy)) (.bool true)
 exact ⟨w1, h1, by rw [List.map_append]; exact h2, h3, h4⟩
theorem QSt.push (h : QSt H w D MM qv qs ys) (td : TD W a b c p F w D) {u : List (Fin 3)} {x : Nat} (hx : D u x) (hm : u ∉ qs) {w1 : World} (h1 : MapOf w1 MM ((ys ++ [x]).map fun y => (pval y, .bool true))) (h2 : Out (fun b => b = MM) w w1) {o : Obj} {w3 : World} {g cap : Nat}
 (hown : w3.ownsRow H 69 1 (.slice (some ⟨g, 0, none⟩) (ys.length + 1) cap) (ys.length + 1) (ys.map pval ++ [pval x])) (hgr : (w1.alloc o).grownBy w3 qv.ownBlock) (hat : qv.ownBlock = some g ∨ g = (w1.alloc o).heap.size) :
 QSt H w3 D MM (.slice (some ⟨g, 0, none⟩) (ys.length + 1) cap) (qs ++ [u]) (ys ++ [x]) ∧ Out (fun b => b = MM ∨ qv.ownBlock = some b) w w3 := by
 have hsz := h2.size
 have hMlt := h.map.lt
 have hal : ∀ q, q < w1.heap.size → (w1.alloc o).heap[q]? = w1.heap[q]? := fun q hq => Below.heap_alloc _ _ _ hq
 have hout : Out (fun b => b = MM ∨ qv.ownBlock = some b) w w3 := by
  refine ⟨hgr.os.trans h2.os, hgr.tape.trans h2.tape, hgr.output.trans h2.output, ?_, fun q hq hn => ?_⟩
  · have := hgr.size; simp at this; omega
  · rw [hgr.block q (by simp; omega) (fun e => hn (.inr e.symm)), hal q (by omega), h2.block q hq (fun e => hn (.inl e))]
 have hgD : ¬ D.dom g ∧ g ≠ MM := by
  rcases hat with e | e
  · exact h.sepR g e
  · rw [World.size_alloc] at e
    refine ⟨?_, by omega⟩
    rintro ⟨v, hv⟩
    have := td.lt hv
    omega
 refine ⟨⟨?_, ?_, by simp [h.len], ?_, ?_, h.lo, h.sepM, ?_⟩, hout⟩
 · refine h1.keep ?_
   rw [hgr.block MM (by simp; omega) ?_, hal MM (by omega)]
   intro e
   exact (h.sepR MM e.symm).2 rfl
 · rw [List.length_append, List.map_append]; exact hown
 · intro i hi hi'
   rw [List.length_append] at hi hi'
   rcases Nat.lt_or_ge i qs.length with hl | hl
   · have hl' : i < ys.length := by rw [h.len]; exact hl
     rw [List.getElem_append_left hl, List.getElem_append_left hl']
     exact h.at_ i hl hl'
   · have e1 : i = qs.length := by simp at hi; omega
     have e2 : i = ys.length := by rw [h.len]; exact e1
     rw [List.getElem_append_right (by omega), List.getElem_append_right (by omega)]
     simp only [e1, Nat.sub_self, List.getElem_cons_zero, ← h.len]
     exact hx
 · rw [List.nodup_append]
   exact ⟨h.nodup, by simp, fun v hv z hz => by simp at hz; subst hz; exact fun e => hm (e ▸ hv)⟩
 · intro q hq
   have : q = g := by simpa [Value.ownBlock] using hq.symm
   subst this
   exact hgD
end
end Go.Proofs.Ytkndmibmmoikbaa
