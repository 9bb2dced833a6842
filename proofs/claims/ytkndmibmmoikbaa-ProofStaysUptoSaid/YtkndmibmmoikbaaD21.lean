/- Chapter 10: Pl4. -/
import Derived.Test.YtkndmibmmoikbaaD19
import Derived.Test.YtkndmibmmoikbaaD20
import Derived.Deep.RegionLaw
import Derived.Deep.RegionHeld3
import Derived.Maps.RangeRun
import Derived.Deep.CutRange
set_option linter.all false
set_option maxRecDepth 100000
set_option maxHeartbeats 16000000
namespace Go.Proofs.Ytkndmibmmoikbaa
open Go.RowKit
open Cox (Tl)
variable {K : Type} [Cox.OR K] (W : Cox.Tri K)
noncomputable def adr (D : Dict) (u : List (Fin 3)) : Nat := @dite _ (∃ x, D u x) (Classical.propDecidable _) (fun h => Classical.choose h) (fun _ => 0)
theorem adr_of {a b c : Int} {p F : Nat} {w : World} {D : Dict} (td : TD W a b c p F w D) {u : List (Fin 3)} {x : Nat} (hx : D u x) : adr D u = x := by
 unfold adr
 have h : ∃ x, D u x := ⟨x, hx⟩
 rw [dif_pos h]
 exact td.addr_inj (Classical.choose_spec h) hx
structure OInv (ws : List (List (Fin 3))) (os : List EdgeW) (j s : Nat) : Prop where
 sub : ∀ e, e ∈ os → Outer W ws e
 done : ∀ i (h : i < ws.length), i < j → ∀ t, Outer W ws (ws[i], t) → (ws[i], t) ∈ os
 part : ∀ (h : j < ws.length), ∀ t : Fin 3, t.val < s → Outer W ws (ws[j], t) → (ws[j], t) ∈ os
 front : ∀ e, e ∈ os → (∃ i, ∃ h : i < ws.length, i < j ∧ e.1 = ws[i]) ∨ (∃ h : j < ws.length, e.1 = ws[j] ∧ e.2.val < s)
section
variable {W}
variable {ws : List (List (Fin 3))} {os : List EdgeW} {j : Nat}
theorem OInv.start : OInv W ws [] 0 0 := ⟨fun e h => (by cases h), fun i h h1 => (by omega), fun h t h1 => (by omega), fun e h => (by cases h)⟩
theorem OInv.notin {t : Fin 3} (h : OInv W ws os j t.val) (hj : j < ws.length) (hn : ws.Nodup) : (ws[j], t) ∉ os := by
 intro hm
 rcases h.front _ hm with ⟨i, hi, hij, he⟩ | ⟨_, _, ht⟩
 · have h3 := List.nodup_iff_pairwise_ne.1 hn
   rw [List.pairwise_iff_getElem] at h3
   exact h3 i j hi hj hij he.symm
 · have ht : t.val < t.val := ht
   omega
theorem OInv.add {t : Fin 3} (h : OInv W ws os j t.val) (hj : j < ws.length) (ho : Outer W ws (ws[j], t)) : OInv W ws (os ++ [(ws[j], t)]) j (t.val + 1) where
 sub e he := by
  rcases List.mem_append.1 he with he | he
  · exact h.sub e he
  · simp at he; subst he; exact ho
 done i hi hij t' ho' := List.mem_append_left _ (h.done i hi hij t' ho')
 part hj' t' ht ho' := by
  by_cases e : t' = t
  · subst e; simp
  · exact List.mem_append_left _ (h.part hj' t' (by have : t'.val ≠ t.val := fun q => e (Fin.ext q); omega) ho')
 front e he := by
  rcases List.mem_append.1 he with he | he
  · rcases h.front e he with h1 | ⟨h1, h2, h3⟩
    · exact .inl h1
    · exact .inr ⟨h1, h2, by omega⟩
  · simp at he; subst he; exact .inr ⟨hj, rfl, by show t.val < t.val + 1; omega⟩
theorem OInv.skip {t : Fin 3} (h : OInv W ws os j t.val) (hj : j < ws.length) (ho : ¬ Outer W ws (ws[j], t)) : OInv W ws os j (t.val + 1) where
 sub := h.sub
 done := h.done
 part hj' t' ht ho' := by
  by_cases e : t' = t
  · subst e; exact (ho ho').elim
  · exact h.part hj' t' (by have : t'.val ≠ t.val := fun q => e (Fin.ext q); omega) ho'
 front e he := by
  rcases h.front e he with h1 | ⟨h1, h2, h3⟩
  · exact .inl h1
  · exact .inr ⟨h1, h2, by omega⟩
theorem OInv.next (h : OInv W ws os j 3) : OInv W ws os (j + 1) 0 where
 sub := h.sub
 done i hi hij t ho := by
  by_cases e : i = j
  · subst e; exact h.part hi t t.isLt ho
  · exact h.done i hi (by omega) t ho
 part _ t ht := by omega
 front e he := by
  rcases h.front e he with ⟨i, hi, hij, h2⟩ | ⟨h1, h2, h3⟩
  · exact .inl ⟨i, hi, by omega, h2⟩
  · exact .inl ⟨j, h1, by omega, h2⟩
theorem OInv.fin (h : OInv W ws os j 0) (hj : ws.length ≤ j) (e : EdgeW) : e ∈ os ↔ Outer W ws e := by
 refine ⟨h.sub e, fun ho => ?_⟩
 obtain ⟨i, hi, hie⟩ := List.getElem_of_mem ho.1
 have := h.done i hi (by omega) e.2 (by rw [hie]; exact ho)
 rw [hie] at this
 exact this
end
def used (es : List (EdgeW × EdgeW)) : List EdgeW := es.flatMap fun q => [q.1, q.2]
noncomputable def prow (A : List (Fin 3) → Nat) (es : List (EdgeW × EdgeW)) : List Value := es.flatMap fun q => [pval (A q.1.1), .int .i64 (q.1.2.val : Int), pval (A q.2.1), .int .i64 (q.2.2.val : Int)]
def pcell (A : List (Fin 3) → Nat) (e0 e1 : EdgeW) (j : Nat) : Array Value :=
 if j = 0 then #[.pointer none, .int .i64 0, .pointer none, .int .i64 0]
 else if j = 1 then #[.pointer (some ⟨A e0.1, 0, none⟩), .int .i64 (e0.2.val : Int), .pointer none, .int .i64 0]
 else #[.pointer (some ⟨A e0.1, 0, none⟩), .int .i64 (e0.2.val : Int), .pointer (some ⟨A e1.1, 0, none⟩), .int .i64 (e1.2.val : Int)]
theorem LSt.cell0 {W : Cox.Tri K} {B : Nat} {a b c : Int} {L p F M : Nat} {w : World} {D : Dict} {ws : List (List (Fin 3))} {xs : List Nat} {rv wv pv : Value} (h : LSt W B a b c L p F M w D ws xs rv wv pv) : w.cell? ⟨L, 0, none⟩ = some (.pointer (some ⟨p, 0, none⟩)) := by rw [cell_of h.head]; rfl
theorem TD.cell3 {W : Cox.Tri K} {a b c : Int} {p F : Nat} {w : World} {D : Dict} (h : TD W a b c p F w D) : w.cell? ⟨p, 3, none⟩ = some (.pointer (some ⟨F, 0, none⟩)) := by rw [cell_of h.head.1]; rfl
theorem pcell_size (A : List (Fin 3) → Nat) (e0 e1 : EdgeW) (j : Nat) : (pcell A e0 e1 j).size = 4 := by unfold pcell; split <;> (try split) <;> rfl
theorem pcell_some {w : World} {T8 : Nat} {A : List (Fin 3) → Nat} {e0 e1 : EdgeW} {j : Nat} (h : w.heap[T8]? = some (.cells (pcell A e0 e1 j) 114 (0, 0))) (o : Nat) (ho : o < 4) : ∃ v, w.cell? ⟨T8, o, none⟩ = some v ∧ w.frozen? ⟨T8, o, none⟩ = false :=
 ⟨(pcell A e0 e1 j)[o]'(by rw [pcell_size]; exact ho), by rw [cell_of h]; exact Array.getElem?_eq_getElem _, free_of h o⟩
theorem sc2 (w : World) {T8 b : Nat} (h : ¬ b = T8) (o o' q : Nat) (v v' : Value) : ((w.setCell ⟨T8, o, none⟩ v).setCell ⟨T8, o', none⟩ v').cell? ⟨b, q, none⟩ = w.cell? ⟨b, q, none⟩ := by
 refine World.cell?_of_block ?_
 rw [heap_setCell', if_neg h, heap_setCell', if_neg h]
theorem sc2_out (w : World) (T8 o o' : Nat) (v v' : Value) : Out (fun b => b = T8) w ((w.setCell ⟨T8, o, none⟩ v).setCell ⟨T8, o', none⟩ v') :=
 ⟨rfl, rfl, rfl, by simp [World.setCell], fun b hb hn => by rw [heap_setCell', if_neg hn, heap_setCell', if_neg hn]⟩
theorem sc2_at {w : World} {T8 : Nat} {cs : Array Value} {T : TypeId} (h : w.heap[T8]? = some (.cells cs T (0, 0))) (o o' : Nat) (v v' : Value) : ((w.setCell ⟨T8, o, none⟩ v).setCell ⟨T8, o', none⟩ v').heap[T8]? = some (.cells ((cs.setIfInBounds o v).setIfInBounds o' v') T (0, 0)) := by
 rw [heap_setCell', if_pos rfl, heap_setCell', if_pos rfl, h]; rfl
def PairPost (B : Nat) (a b c : Int) (L p F M : Nat) (w : World) (D : Dict) (ws : List (List (Fin 3))) (xs : List Nat) (rv wv : Value) (es : List (EdgeW × EdgeW)) (e : Ending) (w' : World) : Prop :=
 (¬ PairSeq W ws [] es ∧ e = .panicked (refusal 8) ∧ Below B w w') ∨
 (PairSeq W ws [] es ∧ e = .returned (.tuple #[]) ∧ ∃ D' pv', LSt W B a b c L p F M w' D' ws xs rv wv pv' ∧ w'.ownsRow w.heap.size 114 4 pv' es.length (prow (adr D) es) ∧ (∀ g, pv'.ownBlock = some g → ¬ D'.dom g) ∧ (∀ u x, D u x → D' u x) ∧ Below B w w')
structure PSt (B : Nat) (a b c : Int) (L p F M : Nat) (w : World) (D : Dict) (ws : List (List (Fin 3))) (xs : List Nat) (rv wv : Value) (es : List (EdgeW × EdgeW)) (os : List EdgeW) (k : Nat) (us : List EdgeW) (D' : Dict) (pv : Value) (wr : World) : Prop where
 lst : LSt W B a b c L p F M wr D' ws xs rv wv pv
 ost : OSt w.heap.size wr D' (adr D) w.heap.size os (fun e => us.count e)
 row : wr.ownsRow w.heap.size 114 4 pv k (prow (adr D) (es.take k))
 sepP : ∀ g, pv.ownBlock = some g → ¬ D'.dom g ∧ g ≠ w.heap.size
 more : ∀ u x, D u x → D' u x
 below : Below B w wr
theorem PSt.ext {B : Nat} {a b c : Int} {L p F M : Nat} {w : World} {D : Dict} {ws : List (List (Fin 3))} {xs : List Nat} {rv wv : Value} {es : List (EdgeW × EdgeW)} {os : List EdgeW} {k : Nat} {us : List EdgeW} {D' : Dict} {pv : Value} {wr : World}
 (h : PSt W B a b c L p F M w D ws xs rv wv es os k us D' pv wr) {w3 : World} {D2 : Dict} (g : TExt wr D' w3 D2) (td : TD W a b c p F w3 D2) : PSt W B a b c L p F M w D ws xs rv wv es os k us D2 pv w3 where
 lst := h.lst.ext g td
 ost := h.ost.ext g
 row := owns_keep h.row fun q hq => (g.keep (owns_lt h.row hq).1 (h.sepP q hq).1).1
 sepP q hq := ⟨(g.keep (owns_lt h.row hq).1 (h.sepP q hq).1).2, (h.sepP q hq).2⟩
 more u x hx := g.more u x (h.more u x hx)
 below := h.below.trans (g.out.below (fun b hb => h.lst.lo.2.2.2 b hb) (by have := h.lst.Llt; have := h.lst.lo.1; omega))
theorem PSt.own {B : Nat} {a b c : Int} {L p F M : Nat} {w : World} {D : Dict} {ws : List (List (Fin 3))} {xs : List Nat} {rv wv : Value} {es : List (EdgeW × EdgeW)} {os : List EdgeW} {k : Nat} {us : List EdgeW} {D' : Dict} {pv : Value} {wr : World}
 (h : PSt W B a b c L p F M w D ws xs rv wv es os k us D' pv wr) (hL : L < w.heap.size) (hM : M < w.heap.size) (hp : p < w.heap.size) (hR : ∀ g, rv.ownBlock = some g → g < w.heap.size) {S : Nat → Prop} {w3 : World} (ho : Out S wr w3) (hS : ∀ q, S q → w.heap.size < q ∧ ¬ D'.dom q ∧ pv.ownBlock ≠ some q) : PSt W B a b c L p F M w D ws xs rv wv es os k us D' pv w3 where
 lst := h.lst.out ho (fun x hx e => (hS x e).2.1 hx) (fun e => by have := (hS _ e).1; omega) (fun e => by have := (hS _ e).1; omega) (fun e => by have := (hS _ e).1; omega) (fun q hq e => by have := (hS _ e).1; have := hR q hq; omega)
 ost := h.ost.out ho (fun e => by have := (hS _ e).1; omega)
 row := owns_keep h.row fun q hq => ho.block q (owns_lt h.row hq).1 (fun e => (hS q e).2.2 hq)
 sepP := h.sepP
 more := h.more
 below := h.below.trans (ho.below (fun q hq => by have := (hS q hq).1; have := h.lst.lo.1; omega) (by have := h.lst.Llt; have := h.lst.lo.1; omega))
theorem PSt.bump {B : Nat} {a b c : Int} {L p F M : Nat} {w : World} {D : Dict} {ws : List (List (Fin 3))} {xs : List Nat} {rv wv : Value} {es : List (EdgeW × EdgeW)} {os : List EdgeW} {k : Nat} {us us' : List EdgeW} {D' : Dict} {pv : Value} {wr : World}
 (h : PSt W B a b c L p F M w D ws xs rv wv es os k us D' pv wr) (hL : L < w.heap.size) (hM : M < w.heap.size) (hp : p < w.heap.size) (hR : ∀ g, rv.ownBlock = some g → g < w.heap.size) {w3 : World} (ho : Out (fun q => q = w.heap.size) wr w3) (hos : OSt w.heap.size w3 D' (adr D) w.heap.size os (fun e => us'.count e)) : PSt W B a b c L p F M w D ws xs rv wv es os k us' D' pv w3 where
 lst := h.lst.out ho (fun x hx e => h.ost.sep (e ▸ hx)) (fun e => by omega) (fun e => by omega) (fun e => by omega) (fun q hq e => by have := hR q hq; omega)
 ost := hos
 row := owns_keep h.row fun q hq => ho.block q (owns_lt h.row hq).1 (fun e => (h.sepP q hq).2 e)
 sepP := h.sepP
 more := h.more
 below := h.below.trans (ho.below (fun q hq => by have := h.lst.lo.1; omega) (by have := h.lst.Llt; have := h.lst.lo.1; omega))
theorem take_next {e0 e1 e : EdgeW} {j : Nat} (hj : j < 2) (h : e = if j = 0 then e0 else e1) (us : List EdgeW) : us ++ [e0, e1].take (j + 1) = (us ++ [e0, e1].take j) ++ [e] := by
 have : j = 0 ∨ j = 1 := by omega
 rcases this with rfl | rfl
 · rw [h]; simp
 · rw [h]; simp
theorem pcell_next {A : List (Fin 3) → Nat} {e0 e1 : EdgeW} {v : List (Fin 3)} {i : Fin 3} {j y : Nat} (hj : j < 2) (h : (v, i) = if j = 0 then e0 else e1) (hy : A v = y) :
 ((pcell A e0 e1 j).setIfInBounds (j * 2) (.pointer (some ⟨y, 0, none⟩))).setIfInBounds (j * 2 + 1) (.int .i64 (i.val : Int)) = pcell A e0 e1 (j + 1) := by
 have : j = 0 ∨ j = 1 := by omega
 rcases this with rfl | rfl
 · rw [if_pos rfl] at h
   subst h hy
   rfl
 · rw [if_neg (by omega)] at h
   subst h hy
   rfl
theorem peq {W : Cox.Tri K} {a b c : Int} {p F : Nat} {w : World} {D : Dict} (td : TD W a b c p F w D) {u v : List (Fin 3)} {x y : Nat} (hx : D u x) (hy : D v y) :
 (Op.equalIn 9999 69 (.pointer (some ⟨x, 0, none⟩)) (.pointer (some ⟨y, 0, none⟩))).run Try.prog w = .ok (decide (u = v)) w := by
 have hp : Try.prog.underlying 69 = some (.pointer 124) := by kernel_rfl
 obtain ⟨j, hj, _, hj1, _⟩ := info_parts info124
 have hjs : j.size ≠ 0 := by rw [hj1]; decide
 by_cases h : u = v
 · subst h
   have : x = y := td.addr_inj hx hy
   subst this
   rw [decide_eq_true rfl]
   have h : ∀ d : Nat, (Op.equalIn (d + 1) 69 (.pointer (some ⟨x, 0, none⟩)) (.pointer (some ⟨x, 0, none⟩))).run Try.prog w = .ok true w := fun d => by
    simp [Op.equalIn, run_underlying hp, sizeOf, typeInfo, hj, run_sameAddr_same]
   exact h 9998
 · have hne : (⟨x, 0, none⟩ : Addr) ≠ ⟨y, 0, none⟩ := fun e => h (by
    have : x = y := by simpa using e
    subst this
    exact td.word_inj hx hy)
   obtain ⟨cx, hcx⟩ := td.cells hx
   obtain ⟨cy, hcy⟩ := td.cells hy
   rw [decide_eq_false h]
   have h : ∀ d : Nat, (Op.equalIn (d + 1) 69 (.pointer (some ⟨x, 0, none⟩)) (.pointer (some ⟨y, 0, none⟩))).run Try.prog w = .ok false w := fun d => by
    simp [Op.equalIn, run_underlying hp, sizeOf, typeInfo, hj, hjs, run_sameAddr_other w hne hcx hcy]
   exact h 9998
theorem feq (i j : Fin 3) : ((i.val : Int) == (j.val : Int)) = decide (i = j) := by
 rw [Bool.eq_iff_iff]
 simp
 constructor
 · intro h; exact Fin.ext (by omega)
 · intro h; rw [h]
theorem count_in {us : List EdgeW} {e : EdgeW} (h : us.count e ≠ 0) : e ∈ us := List.count_pos_iff.1 (by omega)
theorem info114 : Option.map (fun i => (i.zero, i.size, i.bytes)) (Try.prog.info? 114) = some (some (.agg #[.pointer none, .int .i64 0, .pointer none, .int .i64 0]), 4, 32) := by kernel_rfl
theorem LSt.setPairs {W : Cox.Tri K} {B : Nat} {a b c : Int} {L p F M : Nat} {w : World} {D : Dict} {ws : List (List (Fin 3))} {xs : List Nat} {rv wv pv : Value} (h : LSt W B a b c L p F M w D ws xs rv wv pv) (pv' : Value) : LSt W B a b c L p F M (w.setCell ⟨L, 4, none⟩ pv') D ws xs rv wv pv' := by
 have ho : Out (fun b => b = L) w (w.setCell ⟨L, 4, none⟩ pv') := ⟨rfl, rfl, rfl, by simp [World.setCell], fun b hb hn => by rw [heap_setCell', if_neg hn]⟩
 have hD : ∀ x, D.dom x → ¬ x = L := fun x hx e => h.sepL.1 (e ▸ hx)
 refine ⟨h.td.out ho hD (fun e => h.sepL.2.2 e.symm), ?_, h.len, h.at_, h.nodup, owns_keep h.row fun q hq => ho.block q (owns_lt h.row hq).1 (h.sepR q hq).2.1, h.map.keep (ho.block M h.map.lt (fun e => h.sepL.2.1 e.symm)), h.sepL, h.sepM, h.sepR, h.lo⟩
 rw [heap_setCell', if_pos rfl, h.head]; rfl
theorem take_prow {A : List (Fin 3) → Nat} {es : List (EdgeW × EdgeW)} {k : Nat} {e0 e1 : EdgeW} (h : es[k]? = some (e0, e1)) : prow A (es.take (k + 1)) = prow A (es.take k) ++ [pval (A e0.1), .int .i64 (e0.2.val : Int), pval (A e1.1), .int .i64 (e1.2.val : Int)] := by
 obtain ⟨hk, he⟩ := List.getElem?_eq_some_iff.1 h
 rw [List.take_succ_eq_append_getElem hk, he]
 unfold prow
 rw [List.flatMap_append]; rfl
theorem take_used {es : List (EdgeW × EdgeW)} {k : Nat} {e0 e1 : EdgeW} (h : es[k]? = some (e0, e1)) : used (es.take (k + 1)) = used (es.take k) ++ [e0, e1] := by
 obtain ⟨hk, he⟩ := List.getElem?_eq_some_iff.1 h
 rw [List.take_succ_eq_append_getElem hk, he]
 unfold used
 rw [List.flatMap_append]; rfl
theorem PSt.push {B : Nat} {a b c : Int} {L p F M : Nat} {w : World} {D : Dict} {ws : List (List (Fin 3))} {xs : List Nat} {rv wv : Value} {es : List (EdgeW × EdgeW)} {os : List EdgeW} {k : Nat} {us : List EdgeW} {D' : Dict} {pv : Value} {wr : World}
 (h : PSt W B a b c L p F M w D ws xs rv wv es os k us D' pv wr) (hL : L < w.heap.size) (hM : M < w.heap.size) (hp : p < w.heap.size) (hR : ∀ g, rv.ownBlock = some g → g < w.heap.size) {e0 e1 : EdgeW} (he : es[k]? = some (e0, e1)) {o : Obj} {w1 : World} {g cap : Nat}
 (hown : w1.ownsRow w.heap.size 114 4 (.slice (some ⟨g, 0, none⟩) (k + 1) cap) (k + 1) (prow (adr D) (es.take k) ++ [pval (adr D e0.1), .int .i64 (e0.2.val : Int), pval (adr D e1.1), .int .i64 (e1.2.val : Int)])) (hgr : (wr.alloc o).grownBy w1 pv.ownBlock) (hat : pv.ownBlock = some g ∨ g = (wr.alloc o).heap.size) :
 PSt W B a b c L p F M w D ws xs rv wv es os (k + 1) us D' (.slice (some ⟨g, 0, none⟩) (k + 1) cap) (w1.setCell ⟨L, 4, none⟩ (.slice (some ⟨g, 0, none⟩) (k + 1) cap)) := by
 have hal : ∀ q, q < wr.heap.size → (wr.alloc o).heap[q]? = wr.heap[q]? := fun q hq => Below.heap_alloc _ _ _ hq
 have hout : Out (fun q => pv.ownBlock = some q) wr w1 := by
  refine ⟨hgr.os, hgr.tape, hgr.output, ?_, fun q hq hn => ?_⟩
  · have := hgr.size; simp at this; omega
  · rw [hgr.block q (by simp; omega) (fun e => hn e.symm), hal q hq]
 have hge : ∀ q, pv.ownBlock = some q → w.heap.size ≤ q := fun q hq => (owns_lt h.row hq).2
 have hgl := owns_lt hown (g := g) rfl
 have hgD : ¬ D'.dom g ∧ g ≠ w.heap.size := by
  rcases hat with e | e
  · exact h.sepP g e
  · rw [World.size_alloc] at e
    have := h.ost.map.lt
    refine ⟨?_, by omega⟩
    rintro ⟨v, hv⟩
    have := h.lst.td.lt hv; omega
 have l1 := h.lst.out hout (fun x hx e => (h.sepP x e).1 hx) (fun e => by have := hge _ e; omega) (fun e => by have := hge _ e; omega) (fun e => by have := hge _ e; omega) (fun q hq e => by have := hge _ e; have := hR q hq; omega)
 have ho2 : Out (fun b => b = L) w1 (w1.setCell ⟨L, 4, none⟩ (.slice (some ⟨g, 0, none⟩) (k + 1) cap)) := ⟨rfl, rfl, rfl, by simp [World.setCell], fun b hb hn => by rw [heap_setCell', if_neg hn]⟩
 refine ⟨l1.setPairs _, (h.ost.out hout (fun e => (h.sepP _ e).2 rfl)).out ho2 (by omega), ?_, ?_, h.more, ?_⟩
 · rw [take_prow he]
   exact owns_keep hown fun q hq => ho2.block q (owns_lt hown hq).1 (by have := (owns_lt hown hq).2; omega)
 · intro q hq
   have : q = g := by simpa [Value.ownBlock] using hq.symm
   subst this
   exact hgD
 · have hBL := h.lst.lo.1
   have hsz := h.lst.Llt
   refine h.below.trans ((hout.below (fun q hq => by have := hge q hq; omega) (by omega)).trans (ho2.below (fun q hq => by omega) (by have := hout.size; omega)))
theorem setBlock_at (w : World) {r : Nat} (o : Obj) (h : r < w.heap.size) : (ChangeMaps.setBlock w r o).heap[r]? = some o := by
 show (w.heap.setIfInBounds r o)[r]? = _
 rw [Array.getElem?_setIfInBounds, if_pos rfl, if_pos h]
theorem setBlock_below (w : World) (r : Nat) (o : Obj) : Below r w (ChangeMaps.setBlock w r o) :=
 ⟨rfl, rfl, rfl, by show w.heap.size ≤ (w.heap.setIfInBounds r o).size; simp, fun k hk => by
   show (w.heap.setIfInBounds r o)[k]? = _
   rw [Array.getElem?_setIfInBounds, if_neg (by omega)]⟩
structure RSt (R MO : Nat) (em : Array MapEntry) (clock : Nat) (w0 w : World) (seen : Array Nat) (c0 : Nat) : Prop where
 it : w.heap[R]? = some (.mapIter (some MO) clock seen c0)
 le : clock ≤ c0
 map : w.heap[MO]? = some (.map em clock)
 below : Below R w0 w
 pos : ∀ e ∈ em.toList, seen.contains e.born = true → ∃ n : Nat, e.val = .int .i64 n ∧ 0 < n
theorem RSt.left {R MO : Nat} {em : Array MapEntry} {clock : Nat} {w0 w : World} {seen : Array Nat} {c0 : Nat} (h : RSt R MO em clock w0 w seen c0) : w.iterSeen R = seen := by
 unfold World.iterSeen
 rw [h.it]
theorem RSt.step {R MO : Nat} {em : Array MapEntry} {clock : Nat} {w0 w : World} {seen : Array Nat} {c0 : Nat} (h : RSt R MO em clock w0 w seen c0) (hne : MO < R) {e : MapEntry} (he : e ∈ em.toList) (hn : (em.toList.map (·.born)).Nodup) {n : Nat} (hv : e.val = .int .i64 n) (hpos : 0 < n) {w1 : World} (hw : w1 = w ∨ w1 = w.drew) :
 RSt R MO em clock w0 (ChangeMaps.setBlock w1 R (.mapIter (some MO) clock (seen.push e.born) clock)) (seen.push e.born) clock := by
 have hR : R < w1.heap.size := by
  have := (Array.getElem?_eq_some_iff.1 h.it).1
  rcases hw with rfl | rfl <;> exact this
 have hb1 : Below R w w1 := by
  rcases hw with rfl | rfl
  · exact Below.refl _ _
  · exact (Below.refl _ _).drew
 refine ⟨setBlock_at _ _ hR, Nat.le_refl _, ?_, h.below.trans (hb1.trans (setBlock_below _ _ _)), ?_⟩
 · rw [(hb1.trans (setBlock_below _ _ _)).block MO hne]; exact h.map
 · intro x hx hs
   rw [contains_push] at hs
   cases hc : seen.contains x.born with
   | true => exact h.pos x hx hc
   | false =>
    rw [hc, Bool.false_or, beq_iff_eq] at hs
    have : x = e := by
     obtain ⟨i, hi, rfl⟩ := List.getElem_of_mem hx
     obtain ⟨j, hj, rfl⟩ := List.getElem_of_mem he
     have h2 := List.nodup_iff_pairwise_ne.1 hn
     rw [List.pairwise_iff_getElem] at h2
     rcases Nat.lt_trichotomy i j with h3 | h3 | h3
     · have := h2 i j (by simpa using hi) (by simpa using hj) h3
       simp only [List.getElem_map] at this
       exact (this hs).elim
     · subst h3; rfl
     · have := h2 j i (by simpa using hj) (by simpa using hi) h3
       simp only [List.getElem_map] at this
       exact (this hs.symm).elim
    subst this
    exact ⟨n, hv, hpos⟩
theorem pair_any {a b c : Int} (ho : Ords W a b c) {B L p F M : Nat} {w0 w : World} {D : Dict} {ws : List (List (Fin 3))} {xs : List Nat} {rv : Value} {pp : Option Addr} {cp : Nat} {ps : List PairD}
 (h : LSt W B a b c L p F M w D ws xs rv (.slice pp ps.length cp) (.slice none 0 0)) (hne : ws ≠ []) (h200 : ws.length ≤ 200) (h600 : ps.length ≤ 600) (hlen : ∀ u, u ∈ ws → u.length ≤ 60) (hB : w0.heap.size = B) (hb0 : Below B w0 w) (hps : PairsAt w0 pp ps) (hgood : ∀ q, q ∈ ps → cpair q = 0) :
 Calls Try.prog 49 #[.pointer (some ⟨L, 0, none⟩)] w (PairPost W B a b c L p F M w D ws xs rv (.slice pp ps.length cp) (eds W ps)) := by
 have hx0 : 0 < xs.length := by rw [h.len]; exact List.length_pos_iff.2 hne
 obtain ⟨g, cap, rfl, hc0⟩ := owns_at h.row (i := 0) (by simpa using hx0)
 have HL := Lib.hid h
 have HO := Lib.hid ho
 have HLEN := Lib.hid hlen
 have HXL := Lib.hid h.len
 have HPS := Hi (And.intro hB (And.intro hb0 (And.intro hps hgood)))
 have c1 := cell_alloc (show w.cell? ⟨L, 1, none⟩ = some (.slice (some ⟨g, 0, none⟩) xs.length cap) by rw [cell_of h.head]; rfl) (.map #[] 0)
 have hmm := @run_makeMap Try.prog
 have HQ0 : Hid (∃ D', LSt W B a b c L p F M (w.alloc (.map #[] 0)) D' ws xs (.slice (some ⟨g, 0, none⟩) xs.length cap) (.slice pp ps.length cp) (.slice none 0 0) ∧ OSt w.heap.size (w.alloc (.map #[] 0)) D' (adr D) w.heap.size [] (fun _ => 0) ∧ TExt w D (w.alloc (.map #[] 0)) D' ∧ OInv W ws [] 0 0) := Hi (by
  have hb2 : Below w.heap.size w (w.alloc (.map #[] 0)) := (Below.refl _ _).alloc (Nat.le_refl _) _
  refine ⟨D, h.below hb2, ⟨MapOf.new w, by simp, fun e he => (by cases he), Nat.le_refl _, ?_⟩, (TExt.refl w D).stay (Out.of_below hb2), OInv.start⟩
  rintro ⟨v, hv⟩
  have := h.td.lt hv; omega)
 have x200 : xs.length ≤ 200 := by rw [h.len]; exact h200
 clear h ho hc0 hne hlen hB hb0 hps hgood h200 hx0
 go_enter Try.func49, Try.ntmps49
 go_wp2_with fail
 go_loopw [21] (fun jj wr => ∃ (os : List EdgeW) (D' : Dict) (j : Nat), jj = .int .i64 j ∧ j ≤ xs.length ∧ Hid (LSt W B a b c L p F M wr D' ws xs (.slice (some ⟨g, 0, none⟩) xs.length cap) (.slice pp ps.length cp) (.slice none 0 0) ∧ OSt w.heap.size wr D' (adr D) w.heap.size os (fun _ => 0) ∧ TExt w D wr D' ∧ OInv W ws os j 0)) (fun jj _ => xs.length - (intOf jj).toNat)
 case atStart =>
  obtain ⟨D', h1, h2, h3, h4⟩ := HQ0.out
  exact ⟨[], D', 0, rfl, by omega, Lib.hid ⟨h1, h2, h3, h4⟩⟩
 case round =>
  obtain ⟨os, D', j, rfl, hj, HK⟩ := hrel
  clear c1 HQ0
  by_cases hlt : j < xs.length
  · obtain ⟨g', cap', hgg, hcj⟩ := owns_at HK.out.1.row (i := j) (by simpa using hlt)
    cases hgg
    rw [List.getElem_map] at hcj
    unfold pval at hcj
    have hjw : j < ws.length := by rw [← HXL.out]; exact hlt
    have k1 : (j : Int) < (xs.length : Int) := by omega
    have k2 : (0 : Int) ≤ (j : Int) := by omega
    obtain ⟨xj, hxj⟩ : ∃ xj, xs[j] = xj := ⟨_, rfl⟩
    obtain ⟨uj, huj⟩ : ∃ uj, ws[j] = uj := ⟨_, rfl⟩
    have HD0 : Hid (D uj xj) := Hi (by rw [← hxj, ← huj]; exact HL.out.at_ j hjw hlt)
    have HUL : Hid (uj.length < 90000 ∧ uj ∈ ws) := Hi (by rw [← huj]; have := HLEN.out _ (List.getElem_mem hjw); exact ⟨by omega, List.getElem_mem hjw⟩)
    have HSK : Hid (∀ (os : List EdgeW) (t : Fin 3), OInv W ws os j t.val → ¬ Outer W ws (uj, t) → OInv W ws os j (t.val + 1)) := Hi (fun os t h ho => h.skip hjw (by rw [huj]; exact ho))
    have HAD : Hid (∀ (os : List EdgeW) (t : Fin 3), OInv W ws os j t.val → Outer W ws (uj, t) → OInv W ws (os ++ [(uj, t)]) j (t.val + 1) ∧ (uj, t) ∉ os) := Hi (fun os t h ho => by rw [← huj] at ho ⊢; exact ⟨h.add hjw ho, h.notin hjw HL.out.nodup⟩)
    rw [hxj] at hcj
    clear hxj huj hjw
    go_wp2_with fail
    go_loopw [25] (fun ss wq => ∃ (os : List EdgeW) (D' : Dict) (s : Nat), ss = .int .i64 s ∧ s ≤ 3 ∧ Hid (LSt W B a b c L p F M wq D' ws xs (.slice (some ⟨g, 0, none⟩) xs.length cap) (.slice pp ps.length cp) (.slice none 0 0) ∧ OSt w.heap.size wq D' (adr D) w.heap.size os (fun _ => 0) ∧ TExt w D wq D' ∧ OInv W ws os j s)) (fun ss _ => 3 - (intOf ss).toNat)
    case atStart => exact ⟨os, D', 0, rfl, by omega, Lib.hid HK.out⟩
    case round =>
     clear HK hcj
     obtain ⟨os, D', s', rfl, hs3, HK⟩ := hrel
     by_cases hs : s' < 3
     · obtain ⟨s, rfl⟩ : ∃ s : Fin 3, s' = s.val := ⟨⟨s', hs⟩, rfl⟩
       have cL : wr.cell? ⟨L, 0, none⟩ = some (.pointer (some ⟨p, 0, none⟩)) := by rw [cell_of HK.out.1.head]; rfl
       have hDj : D' uj xj := HK.out.2.2.1.more _ _ HD0.out
       have CR := Hi (cross_any W HO.out HK.out.1.td hDj HUL.out.1 s)
       have hou : Outer W ws (uj, s) ↔ Cox.nf W (uj ++ [s]) ∉ ws := ⟨fun h => h.2, fun h => ⟨HUL.out.2, h⟩⟩
       by_cases hout : Cox.nf W (uj ++ [s]) ∈ ws
       · have HS := Hi (HSK.out os s HK.out.2.2.2 (fun h => hou.1 h hout))
         have HV := Lib.hid hout
         clear hou hout hDj
         generalize Cox.nf W (uj ++ [s]) = v at *
         go_wp2_with (first
          | (go_at_call 60; refine CR.out.mono ?_; rintro e w3 ⟨D2, y, rfl, hd2, td2, tx2⟩; have HA := has_any (HK.out.1.ext tx2 td2) hd2; rw [decide_eq_true HV.out] at HA; have HA := Lib.hid HA; have H3 := Hi (And.intro hd2 (And.intro td2 tx2)); clear hd2 td2 tx2)
          | (go_at_call 36; refine HA.out.mono ?_; rintro e w4 ⟨rfl, rfl⟩))
         go_roundw
         case rel => exact ⟨os, _, s.val + 1, by go_num, by omega, Lib.hid ⟨HK.out.1.ext H3.out.2.2 H3.out.2.1, HK.out.2.1.ext H3.out.2.2, HK.out.2.2.1.trans H3.out.2.2, HS.out⟩⟩
         case measure => simp [intOf]; omega
       · have HS := Hi (HAD.out os s HK.out.2.2.2 (hou.2 hout))
         have HV := Lib.hid hout
         have HDJ := Lib.hid hDj
         have HA0 := Hi (adr_of W HL.out.td HD0.out)
         clear hou hout hDj
         generalize Cox.nf W (uj ++ [s]) = v at *
         go_wp2_with (first
          | (go_at_call 60; refine CR.out.mono ?_; rintro e w3 ⟨D2, y, rfl, hd2, td2, tx2⟩; have HA := has_any (HK.out.1.ext tx2 td2) hd2; rw [decide_eq_false HV.out] at HA; have HA := Lib.hid HA; obtain ⟨w5, hup5, hos5, ho5, hs5⟩ := (HK.out.2.1.ext tx2).add td2 (tx2.more _ _ HDJ.out) HA0.out HS.out.2; have hup6 : (Instr.mapUpdate 136 (.map (some w.heap.size)) (.agg #[.pointer (some ⟨xj, 0, none⟩), .int .i64 (s.val : Int)]) (.int .i64 0)).run Try.prog w3 = .ok () w5 := hup5; have H3 := Hi (And.intro td2 (And.intro tx2 (And.intro hos5 (And.intro ho5 hs5)))); clear hd2 td2 tx2 hos5 ho5 hs5 hup5)
          | (go_at_call 36; refine HA.out.mono ?_; rintro e w4 ⟨rfl, rfl⟩))
         go_roundw
         case rel =>
          have hle := H3.out.2.2.1.lo
          have hL3 := (HK.out.1.ext H3.out.2.1 H3.out.1)
          refine ⟨_, _, s.val + 1, by go_num, by omega, Lib.hid ⟨hL3.out H3.out.2.2.2.1 (fun x hx e => H3.out.2.2.1.sep (e ▸ hx)) (fun e => ?_) (fun e => ?_) (fun e => ?_) (fun q hq e => ?_), H3.out.2.2.1, (HK.out.2.2.1.trans H3.out.2.1).own H3.out.2.2.2.1 (fun b hb => by omega), HS.out.1⟩⟩
          · have := HL.out.Llt; omega
          · have := HL.out.plt; omega
          · have := HL.out.map.lt; omega
          · have := (owns_lt HL.out.row hq).1; omega
         case measure => simp [intOf]; omega
     · have hs33 : s' = 3 := by omega
       subst hs33
       go_wp2_with fail
       go_roundw
       case rel => exact ⟨os, D', j + 1, by go_num, by omega, Lib.hid ⟨HK.out.1, HK.out.2.1, HK.out.2.2.1, HK.out.2.2.2.next⟩⟩
       case measure => simp [intOf]; omega
  · have hjl : j = xs.length := by omega
    subst hjl
    have k1 : ¬ (xs.length : Int) < (xs.length : Int) := by omega
    have HOS := Hi (HK.out.2.2.2.fin (by rw [HXL.out]; exact Nat.le_refl _))
    have cL3 : wr.cell? ⟨L, 3, none⟩ = some (.slice pp ps.length cp) := by rw [cell_of HK.out.1.head]; rfl
    have HSZ : Hid (L < w.heap.size ∧ M < w.heap.size ∧ p < w.heap.size ∧ (∀ q, (Value.slice (some ⟨g, 0, none⟩) xs.length cap).ownBlock = some q → q < w.heap.size)) := Lib.hid ⟨HL.out.Llt, HL.out.map.lt, HL.out.plt, fun q hq => (owns_lt HL.out.row hq).1⟩
    obtain ⟨es, hes⟩ : ∃ es, eds W ps = es := ⟨_, rfl⟩
    have HES := Lib.hid hes
    rw [hes]
    have HP0 : Hid (PSt W B a b c L p F M w D ws xs (.slice (some ⟨g, 0, none⟩) xs.length cap) (.slice pp ps.length cp) es os 0 [] D' (.slice none 0 0) wr) := Lib.hid
     ⟨HK.out.1, HK.out.2.1, ⟨rfl, .inl ⟨rfl, rfl⟩⟩, fun g hg => (by cases hg), HK.out.2.2.1.more, HK.out.2.2.1.out.below (fun q hq => HL.out.lo.2.2.2 q hq) (by have := HL.out.Llt; have := HL.out.lo.1; omega)⟩
    clear HK k1 hes
    go_wp2_with fail
    go_loopw [49] (fun kk wr => ∃ (k : Nat) (D' : Dict) (pv : Value), kk = .int .i64 k ∧ k ≤ ps.length ∧ Hid (PSt W B a b c L p F M w D ws xs (.slice (some ⟨g, 0, none⟩) xs.length cap) (.slice pp ps.length cp) es os k (used (es.take k)) D' pv wr ∧ (PairSeq W ws [] es ↔ PairSeq W ws (used (es.take k)) (es.drop k)))) (fun kk _ => ps.length - (intOf kk).toNat)
    case atStart => exact ⟨0, D', .slice none 0 0, rfl, by omega, Lib.hid ⟨HP0.out, by simp [used]⟩⟩
    case round =>
     clear cL3 HP0
     obtain ⟨k, D', pv, rfl, hk, HP⟩ := hrel
     by_cases hlt : k < ps.length
     · obtain ⟨bt, ot, rfl, hr⟩ := (HPS.out.2.2.1.below (by rw [HPS.out.1]; exact HPS.out.2.1.trans HP.out.1.below)) (by intro h; rw [h] at hlt; simp at hlt)
       obtain ⟨c0, c1, c2, c3⟩ := hr k hlt
       have k1 : (k : Int) < (ps.length : Int) := by omega
       have k2 : (0 : Int) ≤ (k : Int) := by omega
       have HG := Hi (cpair_good (HPS.out.2.2.2 _ (List.getElem_mem hlt)))
       have hek : es[k]? = some (ned W ps[k].1, ned W ps[k].2) := by
        rw [← HES.out]; unfold eds
        rw [List.getElem?_map, List.getElem?_eq_getElem hlt]; rfl
       have HEK := Lib.hid hek
       clear hr hek
       generalize ps[k] = pk at *
       have HIX := Hi (idx41 pk)
       obtain ⟨e0, he0⟩ : ∃ e, ned W pk.1 = e := ⟨_, rfl⟩
       obtain ⟨e1, he1⟩ : ∃ e, ned W pk.2 = e := ⟨_, rfl⟩
       rw [he0, he1] at HEK
       have HE01 := Hi (And.intro he0 he1)
       obtain ⟨us, hus⟩ : ∃ us, used (es.take k) = us := ⟨_, rfl⟩
       rw [hus] at HP
       have HUS := Lib.hid hus
       have H8 : Hid (∀ o1, ((wr.alloc o1).alloc (.cells #[.pointer none, .int .i64 0, .pointer none, .int .i64 0] 114)).heap[wr.heap.size + 1]? = some (.cells (pcell (adr D) e0 e1 0) 114 (0, 0))) := Hi (fun o1 => str_new _ _ _ _ (by simp))
       have HP8 : Hid (∀ o1 o2, PSt W B a b c L p F M w D ws xs (.slice (some ⟨g, 0, none⟩) xs.length cap) (.slice (some ⟨bt, ot, none⟩) ps.length cp) es os k us D' pv ((wr.alloc o1).alloc o2) ∧ ¬ D'.dom (wr.heap.size + 1) ∧ pv.ownBlock ≠ some (wr.heap.size + 1) ∧ w.heap.size < wr.heap.size + 1) := Hi (fun o1 o2 => by
        have hb2 : Below wr.heap.size wr ((wr.alloc o1).alloc o2) := ((Below.refl _ _).alloc (Nat.le_refl _) _).alloc (by simp) _
        have hlt := HP.out.1.ost.map.lt
        refine ⟨HP.out.1.own W HSZ.out.1 HSZ.out.2.1 HSZ.out.2.2.1 HSZ.out.2.2.2 (S := fun _ => False) (Out.of_below hb2) (fun q hq => hq.elim), ?_, ?_, by omega⟩
        · rintro ⟨v, hv⟩
          have := HP.out.1.lst.td.lt hv; omega
        · intro e
          have := (owns_lt HP.out.1.row e).1; omega)
       have HSEQ : Hid (PairSeq W ws [] es ↔ (Outer W ws e0 ∧ Outer W ws e1 ∧ e0 ∉ us ∧ e1 ∉ us ∧ e0.2 = e1.2 ∧ PairSeq W ws (us ++ [e0, e1]) (es.drop (k + 1)))) := Hi (by
        rw [HP.out.2]
        have hd : es.drop k = (e0, e1) :: es.drop (k + 1) := by
         obtain ⟨hlt', he⟩ := List.getElem?_eq_some_iff.1 HEK.out
         rw [List.drop_eq_getElem_cons hlt', he]
        rw [hd]; exact Iff.rfl)
       clear he0 he1 hus
       go_wp2_with fail
       have HP9 := Hi (HP8.out (.cells #[.string pk.1.tile, .int .i64 pk.1.mir, .string pk.2.tile, .int .i64 pk.2.mir] 41) (.cells #[.pointer none, .int .i64 0, .pointer none, .int .i64 0] 114))
       have H9 := Hi (H8.out (.cells #[.string pk.1.tile, .int .i64 pk.1.mir, .string pk.2.tile, .int .i64 pk.2.mir] 41))
       clear H8 HP8
       generalize hT8 : wr.heap.size + 1 = T8 at *
       clear hT8
       generalize World.alloc (World.alloc wr _) _ = wr9 at *
       go_loopw [54] (fun jj wq => ∃ (j : Nat) (D' : Dict), jj = .int .i64 j ∧ j ≤ 2 ∧ Hid (PSt W B a b c L p F M w D ws xs (.slice (some ⟨g, 0, none⟩) xs.length cap) (.slice (some ⟨bt, ot, none⟩) ps.length cp) es os k (us ++ [e0, e1].take j) D' pv wq ∧
        wq.heap[T8]? = some (.cells (pcell (adr D) e0 e1 j) 114 (0, 0)) ∧ ¬ D'.dom T8 ∧ (1 ≤ j → e0 ∈ os ∧ e0 ∉ us) ∧ (2 ≤ j → e1 ∈ os ∧ e1 ∉ us))) (fun jj _ => 2 - (intOf jj).toNat)
       case atStart => exact ⟨0, D', rfl, by omega, Lib.hid ⟨by simpa using HP9.out.1, H9.out, HP9.out.2.1, fun h => by omega, fun h => by omega⟩⟩
       case round =>
        obtain ⟨j, D', rfl, hj, HJ⟩ := hrel
        by_cases hlj : j < 2
        · have hcg : cw (edgeAt pk j).tile = 0 ∧ isMir (edgeAt pk j).mir := by
           unfold edgeAt; split
           · exact cedge_good HG.out.1
           · exact cedge_good HG.out.2
          have hixj := HIX.out j hlj
          rw [(cw_unw hcg.1).1, mf_of hcg.2] at hixj
          have HUW : Hid ((unw (edgeAt pk j).tile).length ≤ 60) := Hi (cw_unw hcg.1).2
          have HNE : Hid ((Cox.nf W (unw (edgeAt pk j).tile), mf (edgeAt pk j).mir) = if j = 0 then e0 else e1) := Hi (by
           rw [← HE01.out.1, ← HE01.out.2]; unfold edgeAt; split <;> rfl)
          clear hcg
          generalize unw (edgeAt pk j).tile = l at *
          generalize mf (edgeAt pk j).mir = i at *
          go_wp2_with fail
          have HPE : Hid (PSt W B a b c L p F M w D ws xs (.slice (some ⟨g, 0, none⟩) xs.length cap) (.slice (some ⟨bt, ot, none⟩) ps.length cp) es os k (us ++ [e0, e1].take j) D' pv (wr.alloc (.cells #[.string (wb l), .int .i64 (i.val : Int)] 40)) ∧ (wr.alloc (.cells #[.string (wb l), .int .i64 (i.val : Int)] 40)).heap[T8]? = some (.cells (pcell (adr D) e0 e1 j) 114 (0, 0)) ∧ wr.heap.size < (wr.alloc (.cells #[.string (wb l), .int .i64 (i.val : Int)] 40)).heap.size) := Hi (by
           have hb2 : Below wr.heap.size wr (wr.alloc (.cells #[.string (wb l), .int .i64 (i.val : Int)] 40)) := (Below.refl _ _).alloc (Nat.le_refl _) _
           have h8 := (Array.getElem?_eq_some_iff.1 HJ.out.2.1).1
           exact ⟨HJ.out.1.own W HSZ.out.1 HSZ.out.2.1 HSZ.out.2.2.1 HSZ.out.2.2.2 (S := fun _ => False) (Out.of_below hb2) (fun q hq => hq.elim), (hb2.block T8 h8).trans HJ.out.2.1, by simp⟩)
          have e0c : (wr.alloc (.cells #[.string (wb l), .int .i64 (i.val : Int)] 40)).cell? ⟨wr.heap.size, 0, none⟩ = some (.string (wb l)) := by simp
          have e1c : (wr.alloc (.cells #[.string (wb l), .int .i64 (i.val : Int)] 40)).cell? ⟨wr.heap.size, 1, none⟩ = some (.int .i64 (i.val : Int)) := by simp
          have HED : Hid (¬ D'.dom wr.heap.size) := Hi (by
           rintro ⟨v, hv⟩
           have := HJ.out.1.lst.td.lt hv; omega)
          have NT : Hid (¬ L = T8 ∧ ¬ p = T8 ∧ ¬ wr.heap.size = T8) := Hi (by have h1 := HP9.out.2.2.2; have h2 := HSZ.out.1; have h3 := HSZ.out.2.2.1; have h8 := (Array.getElem?_eq_some_iff.1 HJ.out.2.1).1; exact ⟨by omega, by omega, by omega⟩)
          generalize wr.heap.size = EB at *
          generalize World.alloc wr _ = wE at *
          have f0 : wE.cell? ⟨L, 0, none⟩ = some (.pointer (some ⟨p, 0, none⟩)) := by rw [cell_of HPE.out.1.lst.head]; rfl
          have f1 : wE.cell? ⟨p, 3, none⟩ = some (.pointer (some ⟨F, 0, none⟩)) := by rw [cell_of HPE.out.1.lst.td.head.1]; rfl
          have HPD : Hid (PSt W B a b c L p F M w D ws xs (.slice (some ⟨g, 0, none⟩) xs.length cap) (.slice (some ⟨bt, ot, none⟩) ps.length cp) es os k (us ++ [e0, e1].take j) D' pv wE.drew ∧ wE.drew.heap[T8]? = some (.cells (pcell (adr D) e0 e1 j) 114 (0, 0)) ∧ EB < wE.drew.heap.size) := Lib.hid
           ⟨HPE.out.1.own W HSZ.out.1 HSZ.out.2.1 HSZ.out.2.2.1 HSZ.out.2.2.2 (S := fun _ => False) (Out.of_below (Below.drew (Below.refl _ _))) (fun q hq => hq.elim), HPE.out.2.1, HPE.out.2.2⟩
          have e0d := Hi (show wE.drew.cell? ⟨EB, 0, none⟩ = some (.string (wb l)) by simpa using e0c)
          have e1d := Hi (show wE.drew.cell? ⟨EB, 1, none⟩ = some (.int .i64 (i.val : Int)) by simpa using e1c)
          have LD := Hi (lead_any W HO.out HPD.out.1.lst.td HPD.out.1.lst.td.root l (by have := HUW.out; simp; omega))
          have J2a : Hid (j * 2 < 4) := Hi (by omega)
          have J2b : Hid (j * 2 + 1 < 4) := Hi (by omega)
          have j1 : (j : Int) < 2 := by omega
          have j2 : (0 : Int) ≤ (j : Int) := by omega
          go_cut [54] from 54 to 112 (fun v54 wx => v54 = .int .i64 (j : Nat) ∧ ∃ (D2 : Dict) (y : Nat), Hid (D2 (Cox.nf W l) y ∧ PSt W B a b c L p F M w D ws xs (.slice (some ⟨g, 0, none⟩) xs.length cap) (.slice (some ⟨bt, ot, none⟩) ps.length cp) es os k (us ++ [e0, e1].take j) D2 pv wx ∧ wx.heap[T8]? = some (.cells (((pcell (adr D) e0 e1 j).setIfInBounds (j * 2) (.pointer (some ⟨y, 0, none⟩))).setIfInBounds (j * 2 + 1) (.int .i64 (i.val : Int))) 114 (0, 0)) ∧ ¬ D2.dom T8))
          case first =>
           go_region_held3 (fun w' => w'.cell? ⟨L, 0, none⟩ = some (.pointer (some ⟨p, 0, none⟩)) ∧ w'.cell? ⟨p, 3, none⟩ = some (.pointer (some ⟨F, 0, none⟩)) ∧ w'.cell? ⟨EB, 0, none⟩ = some (.string (wb l)) ∧ w'.cell? ⟨EB, 1, none⟩ = some (.int .i64 (i.val : Int)))
            (first | exact ⟨f0, f1, e0c, e1c⟩ | exact ⟨g0, g1, g2, g3⟩ | exact ⟨(sc2 _ NT.out.1 _ _ _ _ _).trans g0, (sc2 _ NT.out.2.1 _ _ _ _ _).trans g1, (sc2 _ NT.out.2.2 _ _ _ _ _).trans g2, (sc2 _ NT.out.2.2 _ _ _ _ _).trans g3⟩)
            (first | (go_at_call 33; with_reducible refine LD.out.mono ?_; rintro e w3 ⟨D2, y, rfl, hd2, td2, tx2⟩; have g0 := (HPD.out.1.ext W tx2 td2).lst.cell0; have g1 := td2.cell3; have h8 := (tx2.keep (Array.getElem?_eq_some_iff.1 HPD.out.2.1).1 HJ.out.2.2.1).1.trans HPD.out.2.1; obtain ⟨v8a, h8a, h8b⟩ := pcell_some h8 (j * 2) J2a.out; obtain ⟨v8c, h8c, h8d⟩ := pcell_some h8 (j * 2 + 1) J2b.out; have H8 := Lib.hid h8; clear h8; have g2 : w3.cell? ⟨EB, 0, none⟩ = some (.string (wb l)) := (by rw [World.cell?_of_block (tx2.keep HPD.out.2.2 HED.out).1]; exact e0d.out); have g3 : w3.cell? ⟨EB, 1, none⟩ = some (.int .i64 (i.val : Int)) := (by rw [World.cell?_of_block (tx2.keep HPD.out.2.2 HED.out).1]; exact e1d.out); have H3 := Hi (And.intro hd2 (And.intro td2 tx2)); clear hd2 td2 tx2))
           go_wp2_with fail
           go_meet
           have h8d := (H3.out.2.2.keep (Array.getElem?_eq_some_iff.1 HPD.out.2.1).1 HJ.out.2.2.1).2
           refine ⟨rfl, D2, y, Lib.hid ⟨by simpa using H3.out.1, (HPD.out.1.ext W H3.out.2.2 H3.out.2.1).own W HSZ.out.1 HSZ.out.2.1 HSZ.out.2.2.1 HSZ.out.2.2.2 (sc2_out _ _ _ _ _ _) ?_, sc2_at H8.out _ _ _ _, h8d⟩⟩
           rintro q rfl
           exact ⟨HP9.out.2.2.2, h8d, HP9.out.2.2.1⟩
          case rest =>
           obtain ⟨rfl, D2, y, HC⟩ := hcut
           clear e0c e1c f0 f1 e0d e1d LD HPE HPD HED J2a J2b hixj NT HUW
           generalize hv : Cox.nf W l = v at *
           clear hv
           have hvy := HC.out.1
           have hTD := HC.out.2.1.lst.td
           have hOS := HC.out.2.1.ost
           have c8a : wc.cell? ⟨T8, j * 2, none⟩ = some (.pointer (some ⟨y, 0, none⟩)) := by
            rw [cell_of HC.out.2.2.1, Array.getElem?_setIfInBounds, if_neg (by omega), Array.getElem?_setIfInBounds, if_pos rfl, if_pos (by rw [pcell_size]; omega)]
           have c8b : wc.cell? ⟨T8, j * 2 + 1, none⟩ = some (.int .i64 (i.val : Int)) := by
            rw [cell_of HC.out.2.2.1, Array.getElem?_setIfInBounds, if_pos rfl, if_pos (by rw [Array.size_setIfInBounds, pcell_size]; omega)]
           have NN := Hi (fun w => need_no 8 w)
           have NY := Hi (fun w => need_yes 8 w)
           by_cases hm : (v, i) ∈ os
           · have HLI := hOS.look_in hTD hvy hm
             have HAY := Hi (show adr D v = y from hTD.addr_inj (hOS.at_ _ hm) hvy)
             have HM := Lib.hid hm
             obtain ⟨n, hn⟩ : ∃ n, (us ++ [e0, e1].take j).count (v, i) = n := ⟨_, rfl⟩
             simp only [hn] at HLI
             have HN := Lib.hid hn
             have HOUT : Hid (Outer W ws (v, i)) := Hi ((HOS.out _).1 hm)
             have HBU : Hid (∃ w1, (Instr.mapUpdate 136 (.map (some w.heap.size)) (.agg #[.pointer (some ⟨y, 0, none⟩), .int .i64 (i.val : Int)]) (.int .i64 ((n : Int) + 1))).run Try.prog wc = .ok () w1 ∧ OSt w.heap.size w1 D2 (adr D) w.heap.size os (fun e => (us ++ [e0, e1].take (j + 1)).count e) ∧ Out (fun b => b = w.heap.size) wc w1) := Hi (by
              have htn := take_next (e := (v, i)) hlj HNE.out us
              obtain ⟨w1, h1, h2, h3, h4⟩ := hOS.bump hTD hvy hm (fun e => (us ++ [e0, e1].take (j + 1)).count e) (fun e he => by
               simp only [htn, List.count_append, List.count_singleton]
               rw [if_neg (by simpa using fun h => he h.symm)]; rfl)
              refine ⟨w1, ?_, h2, h3⟩
              have hc1 : (us ++ [e0, e1].take (j + 1)).count (v, i) = n + 1 := by
               rw [htn, List.count_append, hn]; simp
              simp only [hc1] at h1
              exact h1)
             clear hm hn hOS hTD hvy
             obtain ⟨w1, hup, hbu⟩ := HBU.out
             have HB1 := Lib.hid hbu
             clear hbu HBU
             by_cases hn0 : n = 0
             · have n0 : ((n : Int) == 0) = true := by rw [hn0]; rfl
               have nb : (n : Int) ≤ 5000 := by omega
               have nb2 : (0 : Int) ≤ (n : Int) := by omega
               have HN0 := Lib.hid hn0
               clear hn0
               go_wp2_with (go_at_call 24; refine (NY.out _).mono ?_; rintro e w2 ⟨rfl, rfl⟩)
               have hnu : (v, i) ∉ us := by
                intro h
                have h1 := HN.out
                rw [HN0.out, List.count_append] at h1
                have h2 := List.count_pos_iff.2 h
                omega
               refine ⟨⟨j + 1, D2, by go_num, by omega, Lib.hid ⟨HC.out.2.1.bump W HSZ.out.1 HSZ.out.2.1 HSZ.out.2.2.1 HSZ.out.2.2.2 HB1.out.2 HB1.out.1, ?_, HC.out.2.2.2, ?_, ?_⟩⟩, ?_⟩
               · rw [HB1.out.2.block T8 (Array.getElem?_eq_some_iff.1 HC.out.2.2.1).1 (fun e => by have := HP9.out.2.2.2; omega), HC.out.2.2.1, pcell_next hlj HNE.out HAY.out]
               · intro _
                 by_cases hj0 : j = 0
                 · have := HNE.out
                   rw [if_pos hj0] at this
                   rw [← this]; exact ⟨HM.out, hnu⟩
                 · exact HJ.out.2.2.2.1 (by omega)
               · intro h2
                 have := HNE.out
                 rw [if_neg (by omega)] at this
                 rw [← this]; exact ⟨HM.out, hnu⟩
               · simp [intOf]; omega
             · have n0 : ((n : Int) == 0) = false := by rw [beq_eq_false_iff_ne]; omega
               have HN0 := Lib.hid hn0
               by_cases hj0 : j = 0
               · have jb : ((j : Int) == 1) = false := by rw [beq_eq_false_iff_ne]; omega
                 have HNS : Hid (¬ PairSeq W ws [] (eds W ps)) := Hi (by
                  rw [HES.out, HSEQ.out]
                  rintro ⟨_, _, q2, _⟩
                  have h1 := HNE.out
                  rw [if_pos hj0] at h1
                  rw [← h1] at q2
                  refine q2 (count_in ?_)
                  have h2 := HN.out
                  rw [hj0] at h2
                  simp at h2
                  omega)
                 clear hn0 hj0
                 go_wp2_with (go_at_call 24; refine (NN.out _).mono ?_; rintro e w2 ⟨rfl, rfl⟩)
                 exact ⟨rfl, .inl ⟨HNS.out, rfl, HC.out.2.1.below⟩⟩
               · have jb : ((j : Int) == 1) = true := by rw [beq_iff_eq]; omega
                 have hj1 : j = 1 := by omega
                 have HN1 : Hid (us.count (v, i) + (if e0 = (v, i) then 1 else 0) = n) := Hi (by
                  have h2 := HN.out
                  rw [hj1] at h2
                  simp only [List.take_succ_cons, List.take_zero, List.count_append, List.count_singleton] at h2
                  rw [← h2]
                  congr 1
                  by_cases he : e0 = (v, i)
                  · rw [if_pos he, if_pos (by simpa using he)]
                  · rw [if_neg he, if_neg (by simpa using he)])
                 have HNE1 : Hid ((v, i) = e1) := Hi (by have := HNE.out; rwa [if_neg hj0] at this)
                 have HJ1 := Hi (HJ.out.2.2.2.1 (by omega))
                 have HJJ := Lib.hid hj1
                 by_cases hn1 : n = 1
                 · have n1 : ((n : Int) == 1) = true := by rw [hn1]; rfl
                   have hD0 := HC.out.2.1.ost.at_ _ HJ1.out.1
                   have hDv := HC.out.1
                   have heq := peq HC.out.2.1.lst.td hD0 hDv
                   have hfe := feq e0.2 i
                   have hq0 : wc.cell? ⟨T8, 0, none⟩ = some (.pointer (some ⟨adr D e0.1, 0, none⟩)) := by
                    rw [cell_of HC.out.2.2.1, Array.getElem?_setIfInBounds, if_neg (by omega), Array.getElem?_setIfInBounds, if_neg (by omega), hj1]; rfl
                   have hq1 : wc.cell? ⟨T8, 1, none⟩ = some (.int .i64 (e0.2.val : Int)) := by
                    rw [cell_of HC.out.2.2.1, Array.getElem?_setIfInBounds, if_neg (by omega), Array.getElem?_setIfInBounds, if_neg (by omega), hj1]; rfl
                   have hq2 : wc.cell? ⟨T8, 2, none⟩ = some (.pointer (some ⟨y, 0, none⟩)) := by rw [hj1] at c8a; exact c8a
                   have hq3 : wc.cell? ⟨T8, 3, none⟩ = some (.int .i64 (i.val : Int)) := by rw [hj1] at c8b; exact c8b
                   have nb : (n : Int) ≤ 5000 := by omega
                   have nb2 : (0 : Int) ≤ (n : Int) := by omega
                   by_cases he : e0 = (v, i)
                   · rw [decide_eq_true (show e0.1 = v by rw [he])] at heq
                     rw [decide_eq_true (show e0.2 = i by rw [he])] at hfe
                     have h3 : (e0.2.val : Int) = (i.val : Int) := by rw [he]
                     have H33 := Lib.hid h3
                     clear h3
                     have hnu : Hid ((v, i) ∉ us) := Hi (by rw [← he]; exact HJ1.out.2)
                     clear hn0 hj0 hj1 hn1 hD0 hDv he
                     go_wp2_with (go_at_call 24; refine (NY.out _).mono ?_; rintro e w2 ⟨rfl, rfl⟩)
                     refine ⟨⟨j + 1, D2, by go_num, by omega, Lib.hid ⟨HC.out.2.1.bump W HSZ.out.1 HSZ.out.2.1 HSZ.out.2.2.1 HSZ.out.2.2.2 HB1.out.2 HB1.out.1, ?_, HC.out.2.2.2, fun _ => HJ1.out, fun _ => ?_⟩⟩, ?_⟩
                     · rw [HB1.out.2.block T8 (Array.getElem?_eq_some_iff.1 HC.out.2.2.1).1 (fun e => by have := HP9.out.2.2.2; omega), HC.out.2.2.1, pcell_next hlj HNE.out HAY.out]
                     · rw [← HNE1.out]; exact ⟨HM.out, hnu.out⟩
                     · simp [intOf]; omega
                   · have hparts : ¬ e0.1 = v ∨ (e0.1 = v ∧ ¬ e0.2 = i) := by
                      by_cases h1 : e0.1 = v
                      · exact .inr ⟨h1, fun h2 => he (by rw [← h1, ← h2])⟩
                      · exact .inl h1
                     have HNS : Hid (¬ PairSeq W ws [] (eds W ps)) := Hi (by
                      rw [HES.out, HSEQ.out]
                      rintro ⟨_, _, _, q3, _⟩
                      rw [← HNE1.out] at q3
                      refine q3 (count_in ?_)
                      have h2 := HN1.out
                      rw [if_neg he] at h2
                      omega)
                     clear hn0 hj0 hj1 hn1 hD0 hDv he
                     rcases hparts with h1 | ⟨h1, h2⟩
                     · rw [decide_eq_false h1] at heq
                       clear h1 hfe
                       go_wp2_with (go_at_call 24; refine (NN.out _).mono ?_; rintro e w2 ⟨rfl, rfl⟩)
                       all_goals exact ⟨rfl, .inl ⟨HNS.out, rfl, HC.out.2.1.below⟩⟩
                     · rw [decide_eq_true h1] at heq
                       rw [decide_eq_false h2] at hfe
                       have h3 : ¬ (e0.2.val : Int) = (i.val : Int) := by
                        intro h; exact h2 (Fin.ext (by omega))
                       clear h1 h2
                       go_wp2_with (go_at_call 24; refine (NN.out _).mono ?_; rintro e w2 ⟨rfl, rfl⟩)
                       all_goals exact ⟨rfl, .inl ⟨HNS.out, rfl, HC.out.2.1.below⟩⟩
                 · have n1 : ((n : Int) == 1) = false := by rw [beq_eq_false_iff_ne]; omega
                   have HNS : Hid (¬ PairSeq W ws [] (eds W ps)) := Hi (by
                    rw [HES.out, HSEQ.out]
                    rintro ⟨_, _, _, q3, _⟩
                    rw [← HNE1.out] at q3
                    refine q3 (count_in ?_)
                    have h2 := HN1.out
                    split at h2 <;> omega)
                   clear hn0 hj0 hj1 hn1
                   go_wp2_with (go_at_call 24; refine (NN.out _).mono ?_; rintro e w2 ⟨rfl, rfl⟩)
                   exact ⟨rfl, .inl ⟨HNS.out, rfl, HC.out.2.1.below⟩⟩
           · have HLO := hOS.look_out hTD hvy hm
             have HNS : Hid (¬ PairSeq W ws [] es) := Hi (fun h => by
              obtain ⟨q0, q1, _⟩ := HSEQ.out.1 h
              have hj2 : j = 0 ∨ j = 1 := by omega
              have hne := HNE.out
              rcases hj2 with rfl | rfl
              · rw [if_pos rfl] at hne
                exact hm (by rw [hne]; exact (HOS.out _).2 q0)
              · rw [if_neg (by omega)] at hne
                exact hm (by rw [hne]; exact (HOS.out _).2 q1))
             clear hm hOS hTD hvy
             go_wp2_with (go_at_call 24; refine (NN.out _).mono ?_; rintro e w2 ⟨rfl, rfl⟩)
             exact ⟨rfl, .inl ⟨by rw [HES.out]; exact HNS.out, rfl, HC.out.2.1.below⟩⟩
        · have hj2 : j = 2 := by omega
          subst hj2
          have ht8 := HJ.out.2.1
          have t1 := cell_of ht8 1
          have t3 := cell_of ht8 3
          have t0 := cell_of ht8 0
          have t2 := cell_of ht8 2
          simp [pcell] at t0 t1 t2 t3
          by_cases hmm2 : e0.2 = e1.2
          · have hie : ((e0.2.val : Int) == (e1.2.val : Int)) = true := by rw [hmm2]; simp
            have NY := Hi (fun w => need_yes 8 w)
            have HMM := Lib.hid hmm2
            clear hmm2 ht8
            go_upto_region 24 with (go_at_call 24; refine (NY.out _).mono ?_; rintro e w2 ⟨rfl, rfl⟩)
            obtain ⟨i114, hi, hz0, hz1, hz2⟩ := info_parts info114
            have p0 : k + 1 ≤ 600 := by omega
            have p1 : k + 1 ≤ maxLen := by unfold maxLen; omega
            have p2 : (k + 1) * 32 ≤ 140737488355328 := by omega
            have p3 : Hid (∀ o : Obj, w.heap.size ≤ (wr.alloc o).heap.size) := Hi (fun o => by have := HJ.out.1.ost.map.lt; simp; omega)
            have HOW : Hid (∀ o : Obj, (wr.alloc o).ownsRow w.heap.size 114 4 pv k (prow (adr D) (es.take k))) := Hi (fun o => owns_keep HJ.out.1.row fun q hq => Below.heap_alloc _ _ _ (owns_lt HJ.out.1.row hq).1)
            have cL4 : wr.cell? ⟨L, 4, none⟩ = some pv := by rw [cell_of HJ.out.1.lst.head]; rfl
            have HLC : Hid (∀ (o : Obj) (w1 : World), (wr.alloc o).grownBy w1 pv.ownBlock → w1.heap[L]? = wr.heap[L]?) := Hi (fun o w1 hg => by
             rw [hg.block L (by have := HJ.out.1.lst.Llt; simp; omega) (fun e => by have := (owns_lt HJ.out.1.row e.symm).2; have := HSZ.out.1; omega)]
             exact Below.heap_alloc _ _ _ HJ.out.1.lst.Llt)
            have nn := cell_alloc cL4 (.cells #[.pointer (some ⟨adr D e0.1, 0, none⟩), .int .i64 (e0.2.val : Int), .pointer (some ⟨adr D e1.1, 0, none⟩), .int .i64 (e1.2.val : Int)] 114)
            go_region_law ((refine step_append_lies _ ?_ (.tmp 125) (.tmp 127) 78 ?_ w.heap.size 114 i114 _ 4 32 Try.underlying78 hi hz0 hz1 hz2 ?_ ?_ pv k (prow (adr D) (es.take k)) ?_ ?_ ⟨wr.heap.size, 0, none⟩ 1 1 [pval (adr D e0.1), .int .i64 (e0.2.val : Int), pval (adr D e1.1), .int .i64 (e1.2.val : Int)] ?_ ?_ ?_ ?_ ?_ p1 p2 ?_ (wr.heap.size + 1) ?_ ?_; rfl; rfl; rfl; omega; rfl; exact HOW.out _; rfl; rfl; exact World.news_of_block (heap_alloc_new _ _); (intro u hu; simp at hu; rcases hu with rfl | rfl | rfl | rfl <;> rfl); omega; exact p3.out _; simp; intro g9 cap9 w9 hown hgrow hat hlt; have HGW := Hi (grown_undrew hgrow); have HOWN := Lib.hid hown; have HAT := Lib.hid hat; clear hgrow hown hat hlt; have z1 : w9.cell? ⟨L, 4, none⟩ = some pv := (by rw [cell_of ((HLC.out _ _ HGW.out).trans HJ.out.1.lst.head)]; rfl); have z2 := free_of ((HLC.out _ _ HGW.out).trans HJ.out.1.lst.head) 4))
            all_goals
             go_wp2_with fail
             go_roundw
             case rel =>
              have hpu := HJ.out.1.push W HSZ.out.1 HSZ.out.2.1 HSZ.out.2.2.1 HSZ.out.2.2.2 HEK.out HOWN.out HGW.out (by have := HAT.out; rw [World.size_alloc]; exact this)
              rw [show us ++ [e0, e1].take 2 = used (es.take (k + 1)) by rw [take_used HEK.out, HUS.out]; rfl] at hpu
              refine ⟨k + 1, D', _, by go_num, by omega, Lib.hid ⟨hpu, ?_⟩⟩
              rw [HSEQ.out, take_used HEK.out, HUS.out]
              constructor
              · intro h; exact h.2.2.2.2.2
              · intro h
                have q0 := HJ.out.2.2.2.1 (by omega)
                have q1 := HJ.out.2.2.2.2 (by omega)
                exact ⟨(HOS.out _).1 q0.1, (HOS.out _).1 q1.1, q0.2, q1.2, HMM.out, h⟩
             case measure => simp [intOf]; omega
          · have hie : ((e0.2.val : Int) == (e1.2.val : Int)) = false := by rw [feq]; exact decide_eq_false hmm2
            have NN := Hi (fun w => need_no 8 w)
            have HNS : Hid (¬ PairSeq W ws [] (eds W ps)) := Hi (by
             rw [HES.out, HSEQ.out]
             rintro ⟨_, _, _, _, q4, _⟩
             exact hmm2 q4)
            clear hmm2 ht8
            go_wp2_with (go_at_call 24; refine (NN.out _).mono ?_; rintro e w2 ⟨rfl, rfl⟩)
            exact ⟨rfl, .inl ⟨HNS.out, rfl, HJ.out.1.below⟩⟩
     · have hkp : k = ps.length := by omega
       subst hkp
       have k1 : ¬ (ps.length : Int) < (ps.length : Int) := by omega
       obtain ⟨em, clock, hm1, hm2, hm3, hm4⟩ := HP.out.1.ost.map
       have hrg := run_range_map (P := Try.prog) wr 136 113 3 w.heap.size em clock Try.underlying136 hm1
       have hel : es.length = ps.length := by rw [← HES.out]; unfold eds; simp
       have HFI : Hid (PairSeq W ws [] es ↔ ∀ e, e ∈ os → (used es).count e ≠ 0) := Hi (by
        rw [HP.out.2, ← hel, List.take_length, List.drop_length]
        show (∀ e, Outer W ws e → e ∈ used es) ↔ _
        constructor
        · intro h e he hc
          exact (List.count_eq_zero.1 hc) (h e ((HOS.out e).1 he))
        · intro h e he
          exact count_in (h e ((HOS.out e).2 he)))
       have HM := Hi (And.intro hm1 (And.intro hm2 (And.intro hm3 hm4)))
       clear hm1 hm2 hm3 hm4
       have HR0 : Hid (RSt wr.heap.size w.heap.size em clock wr (wr.alloc (.mapIter (some w.heap.size) clock #[] clock)) #[] clock) := Lib.hid
        ⟨heap_alloc_new _ _, Nat.le_refl _, by rw [heap_alloc_old _ _ HP.out.1.ost.map.lt]; exact HM.out.1, (Below.refl _ _).alloc (Nat.le_refl _) _, fun e _ h => by simp at h⟩
       have HEV : Hid (∀ e ∈ em.toList, ∃ e' ∈ os, e.val = .int .i64 ((used es).count e' : Nat)) := Hi (fun e he => by
        have h1 : (e.key, e.val) ∈ (os.map fun e => (ekey (adr D e.1) e.2, Value.int .i64 ((used (es.take ps.length)).count e : Nat))) := by rw [← HM.out.2.1]; exact List.mem_map.2 ⟨e, he, rfl⟩
        obtain ⟨e', h2, h3⟩ := List.mem_map.1 h1
        refine ⟨e', h2, ?_⟩
        have := congrArg Prod.snd h3
        rw [← hel, List.take_length] at this
        exact this.symm)
       have HVE : Hid (∀ e' ∈ os, ∃ e ∈ em.toList, e.val = .int .i64 ((used es).count e' : Nat)) := Hi (fun e' he => by
        have h1 : (ekey (adr D e'.1) e'.2, Value.int .i64 ((used (es.take ps.length)).count e' : Nat)) ∈ em.toList.map (fun e => (e.key, e.val)) := by rw [HM.out.2.1]; exact List.mem_map.2 ⟨e', he, rfl⟩
        obtain ⟨e, h2, h3⟩ := List.mem_map.1 h1
        refine ⟨e, h2, ?_⟩
        have := congrArg Prod.snd h3
        rw [← hel, List.take_length] at this
        exact this)
       have HELN := Lib.hid hel
       clear hel
       go_wp2_with fail
       obtain ⟨W0, hW0⟩ : ∃ W0, W0 = wr := ⟨wr, rfl⟩
       subst hW0
       have hMR : w.heap.size < W0.heap.size := HP.out.1.ost.map.lt
       go_loopw [14] (fun _ wq => ∃ (seen : Array Nat) (c0 : Nat), Hid (RSt W0.heap.size w.heap.size em clock W0 wq seen c0)) (fun _ wq => (leftOf em (wq.iterSeen W0.heap.size)).size)
       case atStart => exact ⟨#[], clock, HR0.out⟩
       case round =>
        obtain ⟨seen, c0, HR⟩ := hrel
        rcases run_next_at (P := Try.prog) wr 0 W0.heap.size w.heap.size clock c0 seen em clock HR.out.it HR.out.map HM.out.2.2.1 HR.out.le with ⟨h0, hnx⟩ | ⟨e, he, w1, hw1, hnx⟩
        · have HALL : Hid (PairSeq W ws [] (eds W ps)) := Hi (by
           rw [HES.out, HFI.out]
           intro e' he'
           obtain ⟨e, h2, h3⟩ := HVE.out e' he'
           obtain ⟨n, h4, h5⟩ := HR.out.pos e h2 (all_seen em seen h0 e h2)
           rw [h3] at h4
           have : (((used es).count e' : Nat) : Int) = (n : Int) := by simpa using h4
           omega)
          have HFIN : Hid (LSt W B a b c L p F M wr D' ws xs (.slice (some ⟨g, 0, none⟩) xs.length cap) (.slice pp ps.length cp) pv ∧ wr.ownsRow w.heap.size 114 4 pv ps.length (prow (adr D) es) ∧ Below B w wr) := Hi (by
           refine ⟨HP.out.1.lst.below HR.out.below, owns_keep ?_ fun q hq => HR.out.below.block q (owns_lt HP.out.1.row hq).1, HP.out.1.below.trans (HR.out.below.mono (by have := HP.out.1.below.size; have := HSZ.out.1; have := HP.out.1.lst.lo.1; omega))⟩
           have := HP.out.1.row
           rw [← HELN.out, List.take_length] at this
           rw [← HELN.out]; exact this)
          clear h0
          go_wp2_with fail
          go_end0
          refine .inr ⟨HALL.out, rfl, D', pv, HFIN.out.1, ?_, fun q hq => (HP.out.1.sepP q hq).1, HP.out.1.more, HFIN.out.2.2⟩
          rw [HES.out, HELN.out]; exact HFIN.out.2.1
        · have hml := mem_left he
          have hsh := left_shrinks em seen e he
          obtain ⟨e', he', hev⟩ := HEV.out e hml.1
          have hR1 : W0.heap.size < w1.heap.size := by
           have := (Array.getElem?_eq_some_iff.1 HR.out.it).1
           rcases hw1 with h | h <;> (rw [h]; exact this)
          have hen := run_entry_at (P := Try.prog) (ChangeMaps.setBlock w1 W0.heap.size (.mapIter (some w.heap.size) clock (seen.push e.born) clock)) W0.heap.size w.heap.size clock seen em clock e (setBlock_at _ _ hR1) (by
           have hb1 : Below W0.heap.size wr w1 := by
            rcases hw1 with h | h
            · rw [h]; exact Below.refl _ _
            · rw [h]; exact (Below.refl _ _).drew
           rw [(hb1.trans (setBlock_below _ _ _)).block _ hMR]; exact HR.out.map) hml.1 HM.out.2.2.2
          rw [hev] at hnx hen
          have HSH : Hid ((leftOf em (seen.push e.born)).size < (leftOf em (wr.iterSeen W0.heap.size)).size) := Hi (by rw [HR.out.left]; exact hsh)
          by_cases hn0 : (used es).count e' = 0
          · have HNS : Hid (¬ PairSeq W ws [] (eds W ps)) := Hi (by
             rw [HES.out, HFI.out]
             exact fun h => h e' he' hn0)
            have HBL : Hid (Below B w (ChangeMaps.setBlock w1 W0.heap.size (.mapIter (some w.heap.size) clock (seen.push e.born) clock))) := Hi (by
             have hb1 : Below W0.heap.size wr w1 := by
              rcases hw1 with h | h
              · rw [h]; exact Below.refl _ _
              · rw [h]; exact (Below.refl _ _).drew
             exact HP.out.1.below.trans ((HR.out.below.trans (hb1.trans (setBlock_below _ _ _))).mono (by have := HP.out.1.below.size; have := HSZ.out.1; have := HP.out.1.lst.lo.1; omega)))
            have NN := Hi (fun w => need_no 8 w)
            rw [hn0] at hnx hen
            clear hml hsh he' hev hR1 hw1 hn0 he
            generalize ChangeMaps.setBlock w1 _ _ = w5 at *
            go_wp2_with (go_at_call 24; refine (NN.out _).mono ?_; rintro e w2 ⟨rfl, rfl⟩)
            exact ⟨rfl, .inl ⟨HNS.out, rfl, HBL.out⟩⟩
          · have HRN := Hi (HR.out.step hMR hml.1 HM.out.2.2.2 hev (by omega) hw1)
            have hpos : (0 : Int) < ((used es).count e' : Nat) := by omega
            have NY := Hi (fun w => need_yes 8 w)
            clear hml hsh he' hev hR1 hw1 hn0 he
            generalize hw5 : ChangeMaps.setBlock w1 _ _ = w5 at *
            clear hw5
            generalize (((used es).count e' : Nat) : Int) = nn at *
            go_wp2_with (go_at_call 24; refine (NY.out _).mono ?_; rintro e w2 ⟨rfl, rfl⟩)
            go_roundw
            case rel => exact ⟨_, _, HRN⟩
            case measure => rw [HRN.out.left]; exact HSH.out
end Go.Proofs.Ytkndmibmmoikbaa
