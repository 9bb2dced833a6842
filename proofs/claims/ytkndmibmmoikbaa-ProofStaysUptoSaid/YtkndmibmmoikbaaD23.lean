/- Chapter 10: Pw1 Pw2 Pw3. -/
import Derived.Test.YtkndmibmmoikbaaD22
import Derived.BigRegion
set_option linter.all false
set_option maxRecDepth 100000
set_option maxHeartbeats 16000000
namespace Go.Proofs.Ytkndmibmmoikbaa
open Go.RowKit
open Cox (Tl)
variable {K : Type} [Cox.OR K] (W : Cox.Tri K)
def glu (es : List (EdgeW × EdgeW)) : List (EdgeW × List (Fin 3)) := es.flatMap fun q => if q.1 = q.2 then [(q.1, q.2.1)] else [(q.1, q.2.1), (q.2, q.1.1)]
noncomputable def mv (gs : List (EdgeW × List (Fin 3))) (u : List (Fin 3)) (i : Fin 3) : List (Fin 3) :=
 match gs.find? (fun x => x.1 = (u, i)) with
 | some x => x.2
 | none => Nb W u i
section
variable {W}
theorem pairseq_used {ws : List (List (Fin 3))} : ∀ (l : List (EdgeW × EdgeW)) (us : List EdgeW), PairSeq W ws us l → (∀ q, q ∈ l → Outer W ws q.1 ∧ Outer W ws q.2 ∧ q.1 ∉ us ∧ q.2 ∉ us) ∧ ((glu l).map (·.1)).Nodup
 | [], us, _ => ⟨(fun q h => by cases h), by simp [glu]⟩
 | p :: l, us, h => by
  obtain ⟨h1, h2, h3, h4, h5, h6⟩ := h
  obtain ⟨g1, g2⟩ := pairseq_used l _ h6
  have hin : ∀ x, x ∈ (glu l).map (·.1) → x ∉ us ++ [p.1, p.2] := by
   intro x hx
   obtain ⟨y, hy, rfl⟩ := List.mem_map.1 hx
   obtain ⟨q, hq, hy⟩ := List.mem_flatMap.1 hy
   have := g1 q hq
   split at hy
   · simp at hy; subst hy; exact this.2.2.1
   · simp at hy
     rcases hy with rfl | rfl
     · exact this.2.2.1
     · exact this.2.2.2
  refine ⟨fun q hq => ?_, ?_⟩
  · rcases List.mem_cons.1 hq with rfl | hq
    · exact ⟨h1, h2, h3, h4⟩
    · have := g1 q hq
      exact ⟨this.1, this.2.1, fun e => this.2.2.1 (List.mem_append_left _ e), fun e => this.2.2.2 (List.mem_append_left _ e)⟩
  · show ((glu (p :: l)).map (·.1)).Nodup
    unfold glu
    rw [List.flatMap_cons, List.map_append, List.nodup_append]
    refine ⟨?_, g2, ?_⟩
    · split
      · simp
      · rename_i hne; simp; exact hne
    · intro a ha b hb e
      subst e
      have := hin a hb
      split at ha
      · simp at ha; subst ha; simp at this
      · simp at ha
        rcases ha with rfl | rfl
        · simp at this
        · simp at this
theorem glu_take {es : List (EdgeW × EdgeW)} {k : Nat} {e0 e1 : EdgeW} (h : es[k]? = some (e0, e1)) : glu (es.take (k + 1)) = glu (es.take k) ++ (if e0 = e1 then [(e0, e1.1)] else [(e0, e1.1), (e1, e0.1)]) := by
 obtain ⟨hk, he⟩ := List.getElem?_eq_some_iff.1 h
 rw [List.take_succ_eq_append_getElem hk, he]
 unfold glu
 rw [List.flatMap_append]
 simp
structure WSt (W : Cox.Tri K) (B : Nat) (a b c : Int) (L p F M MP Wk : Nat) (w : World) (D : Dict) (ws : List (List (Fin 3))) (xs : List Nat) (rv wv pv : Value) (gs : List (EdgeW × List (Fin 3))) (A : List (Fin 3) → Nat) : Prop where
 lst : LSt W B a b c L p F M w D ws xs rv wv pv
 head : w.heap[Wk]? = some (.cells #[.pointer (some ⟨L, 0, none⟩), .map (some MP)] 75 (0, 0))
 map : MapOf w MP (gs.map fun x => (ekey (A x.1.1) x.1.2, pval (A x.2)))
 nodup : (gs.map (·.1)).Nodup
 at_ : ∀ x, x ∈ gs → D x.1.1 (A x.1.1) ∧ D x.2 (A x.2)
 sep : ¬ D.dom Wk ∧ ¬ D.dom MP
 big : L < MP ∧ M < MP ∧ p < MP ∧ (∀ g, rv.ownBlock = some g → g < MP) ∧ MP < Wk
variable {B : Nat} {a b c : Int} {L p F M MP Wk : Nat} {w : World} {D : Dict} {ws : List (List (Fin 3))} {xs : List Nat} {rv wv pv : Value} {gs : List (EdgeW × List (Fin 3))} {A : List (Fin 3) → Nat}
theorem WSt.lt (h : WSt W B a b c L p F M MP Wk w D ws xs rv wv pv gs A) : Wk < w.heap.size := (Array.getElem?_eq_some_iff.1 h.head).1
theorem WSt.ext (h : WSt W B a b c L p F M MP Wk w D ws xs rv wv pv gs A) {w' : World} {D' : Dict} (g : TExt w D w' D') (htd : TD W a b c p F w' D') : WSt W B a b c L p F M MP Wk w' D' ws xs rv wv pv gs A where
 lst := h.lst.ext g htd
 head := (g.keep h.lt h.sep.1).1.trans h.head
 map := h.map.keep (g.keep h.map.lt h.sep.2).1
 nodup := h.nodup
 at_ x hx := ⟨g.more _ _ (h.at_ x hx).1, g.more _ _ (h.at_ x hx).2⟩
 sep := ⟨(g.keep h.lt h.sep.1).2, (g.keep h.map.lt h.sep.2).2⟩
 big := h.big
theorem WSt.out (h : WSt W B a b c L p F M MP Wk w D ws xs rv wv pv gs A) {S : Nat → Prop} {w' : World} (ho : Out S w w') (hS : ∀ x, S x → Wk < x ∧ ¬ D.dom x) : WSt W B a b c L p F M MP Wk w' D ws xs rv wv pv gs A where
 lst := h.lst.out ho (fun x hx e => (hS x e).2 hx) (fun e => by have := (hS _ e).1; have := h.big; omega) (fun e => by have := (hS _ e).1; have := h.big; omega) (fun e => by have := (hS _ e).1; have := h.big; omega) (fun g hg e => by have := (hS _ e).1; have := h.big.2.2.2.1 g hg; have := h.big.2.2.2.2; omega)
 head := (ho.block _ h.lt (fun e => by have := (hS _ e).1; omega)).trans h.head
 map := h.map.keep (ho.block _ h.map.lt (fun e => by have := (hS _ e).1; have := h.big.2.2.2.2; omega))
 nodup := h.nodup
 at_ := h.at_
 sep := h.sep
 big := h.big
theorem WSt.below (h : WSt W B a b c L p F M MP Wk w D ws xs rv wv pv gs A) {w' : World} (hb : Below w.heap.size w w') : WSt W B a b c L p F M MP Wk w' D ws xs rv wv pv gs A :=
 h.out (S := fun _ => False) (Out.of_below hb) (fun _ e => e.elim)
theorem WSt.keys (h : WSt W B a b c L p F M MP Wk w D ws xs rv wv pv gs A) : ∀ kv ∈ (gs.map fun x => (ekey (A x.1.1) x.1.2, pval (A x.2))), Mp.PairKey w kv.1 := by
 intro kv hkv
 obtain ⟨e, he, rfl⟩ := List.mem_map.1 hkv
 exact h.lst.td.ekey (h.at_ e he).1 _
theorem WSt.key_inj (h : WSt W B a b c L p F M MP Wk w D ws xs rv wv pv gs A) {x : EdgeW × List (Fin 3)} (hx : x ∈ gs) {u : List (Fin 3)} {y : Nat} (hy : D u y) {i : Fin 3} (hk : ekey (A x.1.1) x.1.2 = ekey y i) : x.1 = (u, i) := by
 obtain ⟨h1, h2⟩ := ekey_inj hk
 have h3 := (h.at_ x hx).1
 rw [h1] at h3
 have h4 := h.lst.td.word_inj h3 hy
 obtain ⟨⟨e1, e2⟩, v⟩ := x
 simp only at h2 h4
 rw [h2, h4]
theorem WSt.fst (gs : List (EdgeW × List (Fin 3))) (A : List (Fin 3) → Nat) : (gs.map fun x => (ekey (A x.1.1) x.1.2, pval (A x.2))).map (·.1) = gs.map fun x => ekey (A x.1.1) x.1.2 := by
 rw [List.map_map]; rfl
theorem WSt.kn (h : WSt W B a b c L p F M MP Wk w D ws xs rv wv pv gs A) : ((gs.map fun x => (ekey (A x.1.1) x.1.2, pval (A x.2))).map (·.1)).Nodup := by
 rw [WSt.fst, List.nodup_iff_pairwise_ne, List.pairwise_iff_getElem]
 intro i j hi hj hij he
 simp only [List.length_map] at hi hj
 rw [List.getElem_map, List.getElem_map] at he
 have h1 := h.key_inj (List.getElem_mem hi) (h.at_ _ (List.getElem_mem hj)).1 he
 have h2 := List.nodup_iff_pairwise_ne.1 h.nodup
 rw [List.pairwise_iff_getElem] at h2
 have h3 := h2 i j (by simpa using hi) (by simpa using hj) hij
 rw [List.getElem_map, List.getElem_map] at h3
 exact h3 h1
theorem ptr_zero (u : World) : (zeroValue 69).run Try.prog u = .ok (.pointer none) u := by kernel_rfl
theorem WSt.look_in (h : WSt W B a b c L p F M MP Wk w D ws xs rv wv pv gs A) {u : List (Fin 3)} {y : Nat} (hy : D u y) {i : Fin 3} {v : List (Fin 3)} (hm : ((u, i), v) ∈ gs) :
 (Instr.lookup 73 (.map (some MP)) (.agg #[.pointer (some ⟨y, 0, none⟩), .int .i64 (i.val : Int)]) true).run Try.prog w = .ok (.tuple #[.pointer (some ⟨A v, 0, none⟩), .bool true]) w := by
 have hA : A u = y := h.lst.td.addr_inj (h.at_ _ hm).1 hy
 have := h.map.lookup_in (edge_kin w) (mt := 73) (et := 69) Try.underlying73 h.keys h.kn (k := ekey y i) (v := pval (A v)) (List.mem_map.2 ⟨((u, i), v), hm, by simp only [hA]⟩) true
 exact this
theorem WSt.look_out (h : WSt W B a b c L p F M MP Wk w D ws xs rv wv pv gs A) {u : List (Fin 3)} {y : Nat} (hy : D u y) {i : Fin 3} (hm : ∀ x, x ∈ gs → x.1 ≠ (u, i)) :
 (Instr.lookup 73 (.map (some MP)) (.agg #[.pointer (some ⟨y, 0, none⟩), .int .i64 (i.val : Int)]) true).run Try.prog w = .ok (.tuple #[.pointer none, .bool false]) w := by
 have := h.map.lookup_out (edge_kin w) (mt := 73) (et := 69) Try.underlying73 h.keys (k := ekey y i) (h.lst.td.ekey hy i) (by
  rw [WSt.fst]
  intro e
  obtain ⟨x, hx, hk⟩ := List.mem_map.1 e
  exact hm x hx (h.key_inj hx hy hk)) (ptr_zero w) true
 exact this
theorem WSt.entry (h : WSt W B a b c L p F M MP Wk w D ws xs rv wv pv gs A) {e : EdgeW} {v : List (Fin 3)} (he : D e.1 (A e.1)) (hv : D v (A v)) (hn : ∀ x, x ∈ gs → x.1 ≠ e) :
 ∃ (st : Nat) (w1 w2 : World), (Instr.mapEntry 73 (.map (some MP)) (.agg #[.pointer (some ⟨A e.1, 0, none⟩), .int .i64 (e.2.val : Int)])).run Try.prog w = .ok (.tuple #[.pointer none, .int .i64 st]) w1 ∧
  (Instr.entryStore 73 (.map (some MP)) (.int .i64 st) (.pointer (some ⟨A v, 0, none⟩))).run Try.prog w1 = .ok () w2 ∧ Out (fun b => b = MP) w w1 ∧ w1.heap.size = w.heap.size ∧ Out (fun b => b = MP) w w2 ∧ w2.heap.size = w.heap.size ∧ WSt W B a b c L p F M MP Wk w2 D ws xs rv wv pv (gs ++ [(e, v)]) A := by
 obtain ⟨st, w1, h1, h2, h3, h4⟩ := h.map.entry_out (edge_kin w) (mt := 73) (et := 69) Try.underlying73 h.keys (k := ekey (A e.1) e.2) (h.lst.td.ekey he e.2) (by
  rw [WSt.fst]
  intro e1
  obtain ⟨x, hx, hk⟩ := List.mem_map.1 e1
  exact hn x hx (h.key_inj hx he hk)) (fun u => ptr_zero u)
 obtain ⟨w2, g1, g2, g3, g4⟩ := h4 (pval (A v))
 have ho : Out (fun b => b = MP) w w2 := h2.trans g3 (fun k hk _ => hk)
 have hb := h.big
 refine ⟨st, w1, w2, h1, g1, h2, h3, ho, g4.trans h3, ⟨h.lst.out ho (fun x hx e => h.sep.2 (e ▸ hx)) (fun e => by omega) (fun e => by omega) (fun e => by omega) (fun g hg e => by have := hb.2.2.2.1 g hg; omega), (ho.block _ h.lt (by omega)).trans h.head, ?_, ?_, ?_, h.sep, h.big⟩⟩
 · rw [List.map_append]
   exact g2
 · rw [List.map_append, List.nodup_append]
   exact ⟨h.nodup, by simp, fun x hx z hz => by
    simp at hz; subst hz
    obtain ⟨y, hy, rfl⟩ := List.mem_map.1 hx
    exact hn y hy⟩
 · intro x hx
   rcases List.mem_append.1 hx with hx | hx
   · exact h.at_ x hx
   · simp at hx; subst hx; exact ⟨he, hv⟩
theorem WSt.again (h : WSt W B a b c L p F M MP Wk w D ws xs rv wv pv gs A) {e : EdgeW} {v : List (Fin 3)} (hm : (e, v) ∈ gs) :
 ∃ (st : Nat) (w1 w2 : World), (Instr.mapEntry 73 (.map (some MP)) (.agg #[.pointer (some ⟨A e.1, 0, none⟩), .int .i64 (e.2.val : Int)])).run Try.prog w = .ok (.tuple #[.pointer (some ⟨A v, 0, none⟩), .int .i64 st]) w1 ∧
  (Instr.entryStore 73 (.map (some MP)) (.int .i64 st) (.pointer (some ⟨A v, 0, none⟩))).run Try.prog w1 = .ok () w2 ∧ Out (fun b => b = MP) w w1 ∧ w1.heap.size = w.heap.size ∧ Out (fun b => b = MP) w w2 ∧ w2.heap.size = w.heap.size ∧ WSt W B a b c L p F M MP Wk w2 D ws xs rv wv pv gs A := by
 obtain ⟨j, hj, hje⟩ := List.getElem_of_mem hm
 have hget : (gs.map fun x => (ekey (A x.1.1) x.1.2, pval (A x.2)))[j]? = some (ekey (A e.1) e.2, pval (A v)) := by
  rw [List.getElem?_map, List.getElem?_eq_getElem hj, hje]; rfl
 obtain ⟨st, w1, h1, h2, h3, h4⟩ := h.map.entry_in (edge_kin w) (mt := 73) (et := 69) Try.underlying73 h.keys h.kn hget
 obtain ⟨w2, g1, g2, g3, g4⟩ := h4 (pval (A v))
 have ho : Out (fun b => b = MP) w w2 := h2.trans g3 (fun k hk _ => hk)
 have hb := h.big
 refine ⟨st, w1, w2, h1, g1, h2, h3, ho, g4.trans h3, ⟨h.lst.out ho (fun x hx e => h.sep.2 (e ▸ hx)) (fun e => by omega) (fun e => by omega) (fun e => by omega) (fun g hg e => by have := hb.2.2.2.1 g hg; omega), (ho.block _ h.lt (by omega)).trans h.head, ?_, h.nodup, h.at_, h.sep, h.big⟩⟩
 have : (gs.map fun x => (ekey (A x.1.1) x.1.2, pval (A x.2))).set j (ekey (A e.1) e.2, pval (A v)) = gs.map fun x => (ekey (A x.1.1) x.1.2, pval (A x.2)) := by
  refine List.ext_getElem? fun i => ?_
  rw [List.getElem?_set]
  by_cases e2 : j = i
  · subst e2
    rw [if_pos rfl, if_pos (by simpa using hj), hget]
  · rw [if_neg e2]
 rw [this] at g2
 exact g2
theorem WSt.glue (h : WSt W B a b c L p F M MP Wk w D ws xs rv wv pv gs A) {e0 e1 : EdgeW} (h0 : D e0.1 (A e0.1)) (h1 : D e1.1 (A e1.1)) (hn0 : ∀ x, x ∈ gs → x.1 ≠ e0) (hn1 : ∀ x, x ∈ gs → x.1 ≠ e1) :
 ∃ (st0 st1 : Nat) (v0 v1 : Value) (w1 w2 w3 w4 : World), (Instr.mapEntry 73 (.map (some MP)) (.agg #[.pointer (some ⟨A e0.1, 0, none⟩), .int .i64 (e0.2.val : Int)])).run Try.prog w = .ok (.tuple #[v0, .int .i64 st0]) w1 ∧
  (Instr.entryStore 73 (.map (some MP)) (.int .i64 st0) (.pointer (some ⟨A e1.1, 0, none⟩))).run Try.prog w1 = .ok () w2 ∧
  (Instr.mapEntry 73 (.map (some MP)) (.agg #[.pointer (some ⟨A e1.1, 0, none⟩), .int .i64 (e1.2.val : Int)])).run Try.prog w2 = .ok (.tuple #[v1, .int .i64 st1]) w3 ∧
  (Instr.entryStore 73 (.map (some MP)) (.int .i64 st1) (.pointer (some ⟨A e0.1, 0, none⟩))).run Try.prog w3 = .ok () w4 ∧
  Out (fun b => b = MP) w w1 ∧ Out (fun b => b = MP) w w2 ∧ Out (fun b => b = MP) w w3 ∧ Out (fun b => b = MP) w w4 ∧ w4.heap.size = w.heap.size ∧
  WSt W B a b c L p F M MP Wk w4 D ws xs rv wv pv (gs ++ (if e0 = e1 then [(e0, e1.1)] else [(e0, e1.1), (e1, e0.1)])) A := by
 obtain ⟨st0, w1, w2, a1, a2, a3, a4, a5, a6, a7⟩ := h.entry (v := e1.1) h0 h1 hn0
 by_cases he : e0 = e1
 · subst he
   obtain ⟨st1, w3, w4, b1, b2, b3, b4, b5, b6, b7⟩ := a7.again (e := e0) (v := e0.1) (by simp)
   refine ⟨st0, st1, _, _, w1, w2, w3, w4, a1, a2, b1, b2, a3, a5, a5.trans b3 (fun k hk _ => hk), a5.trans b5 (fun k hk _ => hk), b6.trans a6, ?_⟩
   rw [if_pos rfl]
   exact b7
 · obtain ⟨st1, w3, w4, b1, b2, b3, b4, b5, b6, b7⟩ := a7.entry (e := e1) (v := e0.1) h1 h0 (fun x hx => by
    rcases List.mem_append.1 hx with hx | hx
    · exact hn1 x hx
    · simp at hx; subst hx; exact he)
   refine ⟨st0, st1, _, _, w1, w2, w3, w4, a1, a2, b1, b2, a3, a5, a5.trans b3 (fun k hk _ => hk), a5.trans b5 (fun k hk _ => hk), b6.trans a6, ?_⟩
   rw [if_neg he]
   have := b7
   rw [List.append_assoc] at this
   exact this
end
theorem prow_at {w : World} {H n : Nat} {pv : Value} {A : List (Fin 3) → Nat} {es : List (EdgeW × EdgeW)} (h : w.ownsRow H 114 4 pv n (prow A es)) {k : Nat} {e0 e1 : EdgeW} (hk : es[k]? = some (e0, e1)) :
 ∃ g cap, pv = .slice (some ⟨g, 0, none⟩) n cap ∧ w.cell? ⟨g, k * 4, none⟩ = some (pval (A e0.1)) ∧ w.cell? ⟨g, k * 4 + 1, none⟩ = some (.int .i64 (e0.2.val : Int)) ∧ w.cell? ⟨g, k * 4 + 2, none⟩ = some (pval (A e1.1)) ∧ w.cell? ⟨g, k * 4 + 3, none⟩ = some (.int .i64 (e1.2.val : Int)) := by
 have hlen : ∀ l : List (EdgeW × EdgeW), (prow A l).length = l.length * 4 := by
  intro l
  induction l with
  | nil => rfl
  | cons a l ih =>
   have : prow A (a :: l) = [pval (A a.1.1), .int .i64 (a.1.2.val : Int), pval (A a.2.1), .int .i64 (a.2.2.val : Int)] ++ prow A l := rfl
   rw [this, List.length_append, ih]; simp; omega
 have hkl := (List.getElem?_eq_some_iff.1 hk).1
 obtain ⟨h1, h2⟩ := h
 have hln := hlen es
 rcases h2 with ⟨_, h2⟩ | ⟨g, cap, cur, hv, hb, hg, hn, _, hs, ht⟩
 · rw [hln] at h1
   subst h2
   omega
 · refine ⟨g, cap, hv, ?_⟩
   have hsplit : prow A es = prow A (es.take k) ++ (prow A (es.drop k)) := by
    unfold prow
    rw [← List.flatMap_append, List.take_append_drop]
   have hdrop : es.drop k = (e0, e1) :: es.drop (k + 1) := by
    rw [List.drop_eq_getElem_cons hkl, (List.getElem?_eq_some_iff.1 hk).2]
   have hpre : (prow A (es.take k)).length = k * 4 := by rw [hlen, List.length_take, Nat.min_eq_left (by omega)]
   have hget : ∀ o, o < 4 → w.cell? ⟨g, k * 4 + o, none⟩ = [pval (A e0.1), Value.int .i64 (e0.2.val : Int), pval (A e1.1), .int .i64 (e1.2.val : Int)][o]? := by
    intro o ho
    rw [cell_of hg]
    have ecur : (cur.toList)[k * 4 + o]? = (prow A es)[k * 4 + o]? := by
     rw [← ht, List.getElem?_take, if_pos (by rw [← h1, hln]; omega)]
    rw [← Array.getElem?_toList, ecur, hsplit, List.getElem?_append_right (by omega), hpre, Nat.add_sub_cancel_left, hdrop]
    have : prow A ((e0, e1) :: es.drop (k + 1)) = [pval (A e0.1), .int .i64 (e0.2.val : Int), pval (A e1.1), .int .i64 (e1.2.val : Int)] ++ prow A (es.drop (k + 1)) := rfl
    rw [this, List.getElem?_append_left (by simpa using ho)]
   exact ⟨hget 0 (by omega), hget 1 (by omega), hget 2 (by omega), hget 3 (by omega)⟩
end Go.Proofs.Ytkndmibmmoikbaa
namespace Go.Proofs.Ytkndmibmmoikbaa
open Go.RowKit
open Cox (Tl)
theorem newwalking_any {K : Type} [Cox.OR K] (W : Cox.Tri K) {B : Nat} {a b c : Int} {L p F M : Nat} {w : World} {D : Dict} {ws : List (List (Fin 3))} {xs : List Nat} {rv wv pv : Value} {es : List (EdgeW × EdgeW)} {H : Nat} {A : List (Fin 3) → Nat}
 (hl : LSt W B a b c L p F M w D ws xs rv wv pv) (hrow : w.ownsRow H 114 4 pv es.length (prow A es)) (hA : ∀ u, u ∈ ws → D u (A u)) (hps : PairSeq W ws [] es) (hlen : es.length ≤ 600) :
 Calls Try.prog 21 #[.pointer (some ⟨L, 0, none⟩)] w fun e w' => e = .returned (.pointer (some ⟨w.heap.size + 1, 0, none⟩)) ∧ WSt W B a b c L p F M w.heap.size (w.heap.size + 1) w' D ws xs rv wv pv (glu es) A ∧ Below w.heap.size w w' := by
 obtain ⟨hout, hnod⟩ := pairseq_used es [] hps
 have hgood : ∀ (k : Nat) (e0 e1 : EdgeW), es[k]? = some (e0, e1) → D e0.1 (A e0.1) ∧ D e1.1 (A e1.1) := fun k e0 e1 h => by
  have hm := List.mem_of_getElem? h
  have := hout _ hm
  exact ⟨hA _ this.1.1, hA _ this.2.1.1⟩
 have hfresh : ∀ (k : Nat) (e0 e1 : EdgeW), es[k]? = some (e0, e1) → (∀ x, x ∈ glu (es.take k) → x.1 ≠ e0) ∧ (∀ x, x ∈ glu (es.take k) → x.1 ≠ e1) := fun k e0 e1 h => by
  have hk := (List.getElem?_eq_some_iff.1 h).1
  have h2 : glu es = glu (es.take (k + 1)) ++ glu (es.drop (k + 1)) := by
   unfold glu
   rw [← List.flatMap_append, List.take_append_drop]
  rw [h2, List.map_append, List.nodup_append] at hnod
  have h3 := hnod.1
  rw [glu_take h, List.map_append, List.nodup_append] at h3
  have h4 : ∀ y, y = e0 ∨ y = e1 → y ∈ (if e0 = e1 then [(e0, e1.1)] else [(e0, e1.1), (e1, e0.1)]).map (·.1) := by
   intro y hy
   split
   · rename_i he; rcases hy with rfl | rfl
     · simp
     · simp [he]
   · rcases hy with rfl | rfl <;> simp
  exact ⟨fun x hx e => h3.2.2 x.1 (List.mem_map.2 ⟨x, hx, rfl⟩) e0 (h4 _ (.inl rfl)) e, fun x hx e => h3.2.2 x.1 (List.mem_map.2 ⟨x, hx, rfl⟩) e1 (h4 _ (.inr rfl)) e⟩
 have HG := Lib.hid hgood
 have HF := Lib.hid hfresh
 have HL := Lib.hid hl
 have HROW := Lib.hid hrow
 have hmk := @run_makeMap Try.prog
 have hwst : Hid (WSt W B a b c L p F M w.heap.size (w.heap.size + 1) ((w.alloc (.map #[] 0)).alloc (.cells #[.pointer (some ⟨L, 0, none⟩), .map (some w.heap.size)] 75)) D ws xs rv wv pv [] A) := Hi (by
  have hb : Below w.heap.size w ((w.alloc (.map #[] 0)).alloc (.cells #[.pointer (some ⟨L, 0, none⟩), .map (some w.heap.size)] 75)) := ((Below.refl _ _).alloc (Nat.le_refl _) _).alloc (by simp) _
  refine ⟨hl.below hb, str_new _ _ _ _ (by simp), (MapOf.new w).keep (Below.heap_alloc _ _ _ (by simp)), by simp, (fun x hx => by cases hx), ⟨?_, ?_⟩, ?_⟩
  · rintro ⟨u, hu⟩; have := hl.td.lt hu; omega
  · rintro ⟨u, hu⟩; have := hl.td.lt hu; omega
  · exact ⟨hl.Llt, hl.map.lt, hl.plt, fun g hg => (owns_lt hl.row hg).1, by omega⟩)
 have cL4 : w.cell? ⟨L, 4, none⟩ = some pv := by rw [cell_of hl.head]; rfl
 have hLl := Lib.hid hl.Llt
 have hpvs : ∃ pq cap, pv = .slice pq es.length cap := by
  rcases hrow.2 with ⟨h1, h2⟩ | ⟨g, cap, cur, hv, _⟩
  · exact ⟨none, 0, by rw [h1, h2]⟩
  · exact ⟨_, cap, hv⟩
 obtain ⟨pq, cap, rfl⟩ := hpvs
 clear hl hrow hA hps hout hnod hgood hfresh
 have HLEN := Lib.hid hlen
 clear hlen
 have hlen : es.length ≤ 600 := HLEN.out
 have cL5 : ((w.alloc (.map #[] 0)).alloc (.cells #[.pointer (some ⟨L, 0, none⟩), .map (some w.heap.size)] 75)).cell? ⟨L, 4, none⟩ = some (.slice pq es.length cap) := cell_alloc (cell_alloc cL4 _) _
 obtain ⟨Q, hQ⟩ : ∃ Q : Ending → World → Prop, Q = fun e w' => e = .returned (.pointer (some ⟨w.heap.size + 1, 0, none⟩)) ∧ WSt W B a b c L p F M w.heap.size (w.heap.size + 1) w' D ws xs rv wv (.slice pq es.length cap) (glu es) A ∧ Below w.heap.size w w' := ⟨_, rfl⟩
 rw [← hQ]
 have HQ := Lib.hid hQ
 clear hQ
 go_enter Try.func21, Try.ntmps21
 go_wp2_with fail
 go_loopw [15] (fun t wr => ∃ k : Nat, k ≤ es.length ∧ t = .int .i64 k ∧ Hid (WSt W B a b c L p F M w.heap.size (w.heap.size + 1) wr D ws xs rv wv (.slice pq es.length cap) (glu (es.take k)) A ∧ Below w.heap.size w wr)) (fun t _ => es.length - (intOf t).toNat)
 case atStart => exact ⟨0, by omega, rfl, Lib.hid ⟨hwst.out, ((Below.refl _ _).alloc (Nat.le_refl _) _).alloc (by simp) _⟩⟩
 case round =>
  obtain ⟨k, hk, rfl, HK⟩ := hrel
  by_cases hlt : k < es.length
  · have k1 : (k : Int) < (es.length : Int) := by omega
    have k2 : (0 : Int) ≤ (k : Int) := by omega
    obtain ⟨e0, e1, hee⟩ : ∃ e0 e1, es[k]? = some (e0, e1) := ⟨es[k].1, es[k].2, by rw [List.getElem?_eq_getElem hlt]⟩
    have hrow2 : wr.ownsRow H 114 4 (.slice pq es.length cap) es.length (prow A es) := owns_keep HROW.out fun q hq => HK.out.2.block q (owns_lt HROW.out hq).1
    obtain ⟨g, cap', hg, d0, d1, d2, d3⟩ := prow_at hrow2 hee
    simp only [Value.slice.injEq] at hg
    obtain ⟨rfl, _, _⟩ := hg
    have HEE := Lib.hid hee
    clear hee hrow2
    unfold pval at d0 d2
    go_upto_region 5 with fail
    have HW : Hid (WSt W B a b c L p F M w.heap.size (w.heap.size + 1) (wr.alloc (.cells #[.pointer (some ⟨A e0.1, 0, none⟩), .int .i64 (e0.2.val : Int), .pointer (some ⟨A e1.1, 0, none⟩), .int .i64 (e1.2.val : Int)] 114)) D ws xs rv wv (.slice (some ⟨g, 0, none⟩) es.length cap) (glu (es.take k)) A ∧ Below w.heap.size w (wr.alloc (.cells #[.pointer (some ⟨A e0.1, 0, none⟩), .int .i64 (e0.2.val : Int), .pointer (some ⟨A e1.1, 0, none⟩), .int .i64 (e1.2.val : Int)] 114)) ∧ wr.heap.size ≠ w.heap.size) := Lib.hid
     ⟨HK.out.1.below ((Below.refl _ _).alloc (Nat.le_refl _) _), HK.out.2.trans ((Below.refl _ _).alloc HK.out.2.size _), by have := HK.out.1.map.lt; omega⟩
    have ht5 : (wr.alloc (.cells #[.pointer (some ⟨A e0.1, 0, none⟩), .int .i64 (e0.2.val : Int), .pointer (some ⟨A e1.1, 0, none⟩), .int .i64 (e1.2.val : Int)] 114)).heap[wr.heap.size]? = some (.cells #[.pointer (some ⟨A e0.1, 0, none⟩), .int .i64 (e0.2.val : Int), .pointer (some ⟨A e1.1, 0, none⟩), .int .i64 (e1.2.val : Int)] 114 (0, 0)) := heap_alloc_new _ _
    generalize wr.alloc (.cells #[.pointer (some ⟨A e0.1, 0, none⟩), .int .i64 (e0.2.val : Int), .pointer (some ⟨A e1.1, 0, none⟩), .int .i64 (e1.2.val : Int)] 114) = wq at *
    generalize hT5 : wr.heap.size = T5 at *
    clear d0 d1 d2 d3 HK
    have hd : Below wq.heap.size wq wq.drew := Below.drew (Below.refl _ _)
    obtain ⟨hg0, hg1⟩ := HG.out k e0 e1 HEE.out
    obtain ⟨hf0, hf1⟩ := HF.out k e0 e1 HEE.out
    obtain ⟨st0, st1, v0, v1, w1, w2, w3, w4, a1, a2, a3, a4, o1, o2, o3, o4, hsz, hw4⟩ := (HW.out.1.below hd).glue (e0 := e0) (e1 := e1) hg0 hg1 hf0 hf1
    have hT : ∀ wz : World, Out (fun b => b = w.heap.size) wq.drew wz → wz.heap[T5]? = some (.cells #[.pointer (some ⟨A e0.1, 0, none⟩), .int .i64 (e0.2.val : Int), .pointer (some ⟨A e1.1, 0, none⟩), .int .i64 (e1.2.val : Int)] 114 (0, 0)) ∧ wz.heap[w.heap.size + 1]? = some (.cells #[.pointer (some ⟨L, 0, none⟩), .map (some w.heap.size)] 75 (0, 0)) := fun wz ho =>
     ⟨(ho.block T5 (Array.getElem?_eq_some_iff.1 ht5).1 HW.out.2.2).trans ht5, (ho.block _ HW.out.1.lt (by omega)).trans HW.out.1.head⟩
    have cf : ∀ wz : World, Out (fun b => b = w.heap.size) wq.drew wz → wz.cell? ⟨T5, 0, none⟩ = some (.pointer (some ⟨A e0.1, 0, none⟩)) ∧ wz.cell? ⟨T5, 1, none⟩ = some (.int .i64 (e0.2.val : Int)) ∧ wz.cell? ⟨T5, 2, none⟩ = some (.pointer (some ⟨A e1.1, 0, none⟩)) ∧ wz.cell? ⟨T5, 3, none⟩ = some (.int .i64 (e1.2.val : Int)) ∧ wz.cell? ⟨w.heap.size + 1, 1, none⟩ = some (.map (some w.heap.size)) := fun wz ho => by
     obtain ⟨t1, t2⟩ := hT wz ho
     exact ⟨by rw [cell_of t1]; rfl, by rw [cell_of t1]; rfl, by rw [cell_of t1]; rfl, by rw [cell_of t1]; rfl, by rw [cell_of t2]; rfl⟩
    obtain ⟨x0, x1, x2, x3, x4⟩ := cf _ (Out.refl _ _)
    obtain ⟨y0, y1, y2, y3, y4⟩ := cf _ o1
    obtain ⟨z0, z1, z2, z3, z4⟩ := cf _ o2
    obtain ⟨r0, r1, r2, r3, r4⟩ := cf _ o3
    have HW4 := Lib.hid hw4
    have HO4 := Lib.hid o4
    clear hT cf o1 o2 o3 o4 hw4 hg0 hg1 hf0 hf1 hd ht5 hsz
    go_region
    have HFIN : Hid (WSt W B a b c L p F M w.heap.size (w.heap.size + 1) w4 D ws xs rv wv (.slice (some ⟨g, 0, none⟩) es.length cap) (glu (es.take (k + 1))) A ∧ Below w.heap.size w w4) := Lib.hid
     ⟨by rw [glu_take HEE.out]; exact HW4.out, HW.out.2.1.trans (((Below.refl _ _).drew.mono HW.out.2.1.size).trans (HO4.out.below (fun q hq => by omega) (by have := HW.out.2.1.size; exact this)))⟩
    go_wp2_with fail
    go_roundw
    case rel => exact ⟨k + 1, by omega, by go_num, HFIN⟩
    case measure => simp [intOf]; omega
  · have hke : k = es.length := by omega
    subst hke
    have k1 : ¬ (es.length : Int) < (es.length : Int) := by omega
    go_wp2_with fail
    rw [HQ.out]
    exact ⟨rfl, by have := HK.out.1; rw [List.take_length] at this; exact this, HK.out.2⟩
end Go.Proofs.Ytkndmibmmoikbaa
namespace Go.Proofs.Ytkndmibmmoikbaa
open Go.RowKit
open Cox (Tl)
variable {K : Type} [Cox.OR K] (W : Cox.Tri K)
def StepPost (W : Cox.Tri K) (B : Nat) (a b c : Int) (L p F M MP Wk : Nat) (w : World) (D : Dict) (ws : List (List (Fin 3))) (xs : List Nat) (rv wv pv : Value) (gs : List (EdgeW × List (Fin 3))) (A : List (Fin 3) → Nat) (u : List (Fin 3)) (e : Ending) (w' : World) : Prop :=
 ∃ D' y, e = .returned (.pointer (some ⟨y, 0, none⟩)) ∧ D' u y ∧ WSt W B a b c L p F M MP Wk w' D' ws xs rv wv pv gs A ∧ TExt w D w' D'
variable {W}
variable {B : Nat} {a b c : Int} {L p F M MP Wk : Nat} {w : World} {D : Dict} {ws : List (List (Fin 3))} {xs : List Nat} {rv wv pv : Value} {gs : List (EdgeW × List (Fin 3))} {A : List (Fin 3) → Nat}
theorem mv_in (h : WSt W B a b c L p F M MP Wk w D ws xs rv wv pv gs A) {u v : List (Fin 3)} {i : Fin 3} (hm : ((u, i), v) ∈ gs) : mv W gs u i = v := by
 unfold mv
 cases hf : gs.find? (fun x => x.1 = (u, i)) with
 | none =>
  have := List.find?_eq_none.1 hf _ hm
  simp at this
 | some x =>
  have h1 := List.find?_some hf
  have h2 := List.mem_of_find?_eq_some hf
  simp only [decide_eq_true_eq] at h1
  obtain ⟨j, hj, hje⟩ := List.getElem_of_mem h2
  obtain ⟨j', hj', hje'⟩ := List.getElem_of_mem hm
  have h3 := List.nodup_iff_pairwise_ne.1 h.nodup
  rw [List.pairwise_iff_getElem] at h3
  rcases Nat.lt_trichotomy j j' with q | q | q
  · have := h3 j j' (by simpa using hj) (by simpa using hj') q
    rw [List.getElem_map, List.getElem_map, hje, hje', h1] at this
    exact (this rfl).elim
  · subst q
    rw [hje] at hje'
    simp only [hje']
  · have := h3 j' j (by simpa using hj') (by simpa using hj) q
    rw [List.getElem_map, List.getElem_map, hje, hje', h1] at this
    exact (this rfl).elim
theorem mv_out {u : List (Fin 3)} {i : Fin 3} (hm : ∀ x, x ∈ gs → x.1 ≠ (u, i)) : mv W gs u i = Nb W u i := by
 unfold mv
 have : gs.find? (fun x => x.1 = (u, i)) = none := by
  rw [List.find?_eq_none]
  intro x hx
  simpa using hm x hx
 rw [this]
theorem step_any (ho : Ords W a b c) (h : WSt W B a b c L p F M MP Wk w D ws xs rv wv pv gs A) {u : List (Fin 3)} {x : Nat} (hx : D u x) (hu : u.length < 90000) (i : Fin 3) :
 Calls Try.prog 51 #[.pointer (some ⟨Wk, 0, none⟩), .pointer (some ⟨x, 0, none⟩), .int .i64 (i.val : Int)] w (StepPost W B a b c L p F M MP Wk w D ws xs rv wv pv gs A (mv W gs u i)) := by
 have c0 : w.cell? ⟨Wk, 0, none⟩ = some (.pointer (some ⟨L, 0, none⟩)) := by rw [cell_of h.head]; rfl
 have c1 : w.cell? ⟨Wk, 1, none⟩ = some (.map (some MP)) := by rw [cell_of h.head]; rfl
 have c2 : w.cell? ⟨L, 0, none⟩ = some (.pointer (some ⟨p, 0, none⟩)) := h.lst.cell0
 obtain ⟨Q, hQ⟩ : ∃ Q : Ending → World → Prop, Q = StepPost W B a b c L p F M MP Wk w D ws xs rv wv pv gs A (mv W gs u i) := ⟨_, rfl⟩
 rw [← hQ]
 have HQ := Lib.hid hQ
 have HH := Lib.hid h
 by_cases hin : ∃ v, ((u, i), v) ∈ gs
 · obtain ⟨v, hm⟩ := hin
   have hk := h.look_in hx hm
   have HV := Hi (And.intro (mv_in h hm) (h.at_ _ hm).2)
   clear hQ h hm
   go_enter Try.func51, Try.ntmps51
   go_wp2_with fail
   rw [HQ.out]
   exact ⟨D, A v, rfl, by rw [HV.out.1]; exact HV.out.2, HH.out, TExt.refl _ _⟩
 · have hno : ∀ y, y ∈ gs → y.1 ≠ (u, i) := fun y hy e => hin ⟨y.2, by rw [← e]; exact hy⟩
   have hk := h.look_out hx hno
   have HV := Hi (mv_out (W := W) hno)
   have CR := Hi (cross_any W ho h.lst.td hx hu i)
   clear hQ h hno hin ho
   go_enter Try.func51, Try.ntmps51
   go_wp2_with (go_at_call 60; refine CR.out.mono ?_; rintro e w4 ⟨D', y, rfl, hy, htd, hext⟩; have H4 := Hi (And.intro hy (And.intro htd hext)); clear hy htd hext)
   rw [HQ.out]
   exact ⟨D', y, rfl, by rw [HV.out]; exact H4.out.1, HH.out.ext H4.out.2.2 H4.out.2.1, H4.out.2.2⟩
end Go.Proofs.Ytkndmibmmoikbaa
