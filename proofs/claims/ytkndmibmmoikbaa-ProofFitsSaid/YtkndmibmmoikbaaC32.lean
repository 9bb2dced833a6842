/- Chapter 10: Rd1 Rd2 Rd3 Rd4. -/
import Derived.Test.YtkndmibmmoikbaaC31
import Derived.Deep.CutRange
set_option linter.all false
set_option maxRecDepth 100000
set_option maxHeartbeats 16000000
namespace Go.Proofs.Ytkndmibmmoikbaa
open Go.RowKit
open Cox (Tl)
theorem upd3_same (f : Nat → Nat → Int) (t i : Nat) (v : Int) : upd3 f t i v t i = v := by unfold upd3; rw [if_pos ⟨rfl, rfl⟩]
theorem upd3_other (f : Nat → Nat → Int) {t i t' i' : Nat} (v : Int) (h : ¬ (t' = t ∧ i' = i)) : upd3 f t i v t' i' = f t' i' := by unfold upd3; rw [if_neg h]
section
variable {K : Type} [Cox.OR K] {W : Cox.Tri K} {ws : List (List (Fin 3))} {es : List (EdgeW × EdgeW)}
theorem mv_key {gs : List (EdgeW × List (Fin 3))} {u : List (Fin 3)} {i : Fin 3} (h : ∀ x, x ∈ gs → x.1 ≠ (u, i)) : gs.find? (fun x => x.1 = (u, i)) = none := by
 rw [List.find?_eq_none]
 intro x hx
 simpa using h x hx
theorem mv_none {gs : List (EdgeW × List (Fin 3))} {u : List (Fin 3)} {i : Fin 3} (h : ∀ x, x ∈ gs → x.1 ≠ (u, i)) : mv W gs u i = Nb W u i := by
 unfold mv
 rw [mv_key h]
theorem mv_left {gs hs : List (EdgeW × List (Fin 3))} {u : List (Fin 3)} {i : Fin 3} (h : ∀ x, x ∈ hs → x.1 ≠ (u, i)) : mv W (gs ++ hs) u i = mv W gs u i := by
 unfold mv
 rw [List.find?_append, mv_key h]
 cases gs.find? (fun x => x.1 = (u, i)) <;> rfl
theorem mv_right {gs hs : List (EdgeW × List (Fin 3))} {u : List (Fin 3)} {i : Fin 3} (h : ∀ x, x ∈ gs → x.1 ≠ (u, i)) : mv W (gs ++ hs) u i = mv W hs u i := by
 unfold mv
 rw [List.find?_append, mv_key h]
 rfl
theorem glu_used {e : EdgeW} (h : e ∉ used es) : ∀ x, x ∈ glu es → x.1 ≠ e := by
 intro x hx he
 obtain ⟨q, hq, h1⟩ := glu_mem hx
 refine h (List.mem_flatMap.2 ⟨q, hq, ?_⟩)
 rcases h1 with ⟨h1, _⟩ | ⟨h1, _⟩
 · simp [← he, h1]
 · simp [← he, h1]
theorem used_mem {e : EdgeW} (h : e ∈ used es) : ∃ q, q ∈ es ∧ (e = q.1 ∨ e = q.2) := by
 obtain ⟨q, hq, h1⟩ := List.mem_flatMap.1 h
 refine ⟨q, hq, ?_⟩
 simpa using h1
structure RI (W : Cox.Tri K) (ws : List (List (Fin 3))) (es : List (EdgeW × EdgeW)) (k : Nat) (f g : Nat → Nat → Int) : Prop where
 to_ : ∀ t (h : t < ws.length) (i : Fin 3), f t i.val = zidx ws (mv W (glu (es.take k)) ws[t] i)
 put : ∀ t (h : t < ws.length) (i : Fin 3), g t i.val ≠ 0 ↔ (ws[t], i) ∈ used (es.take k)
 out : ∀ q, q ∈ es.take k → Outer W ws q.1 ∧ Outer W ws q.2
 seq : PairSeq W ws [] es ↔ PairSeq W ws (used (es.take k)) (es.drop k)
theorem RI.start {f g : Nat → Nat → Int} (hf : ∀ t (h : t < ws.length) (i : Fin 3), f t i.val = zidx ws (Nb W ws[t] i)) (hg : ∀ t i, g t i = 0) : RI W ws es 0 f g :=
 ⟨fun t h i => by rw [hf t h i, List.take_zero, mv_none (by intro x hx; cases hx)], fun t h i => by rw [hg]; simp [used], fun q hq => by simp at hq, by simp [used]⟩
theorem RI.no {k : Nat} {f g : Nat → Nat → Int} (h : RI W ws es k f g) {e0 e1 : EdgeW} (hk : es[k]? = some (e0, e1)) (hn : ¬ (Outer W ws e0 ∧ Outer W ws e1 ∧ e0 ∉ used (es.take k) ∧ e1 ∉ used (es.take k) ∧ e0.2 = e1.2)) : ¬ PairSeq W ws [] es := by
 rw [h.seq]
 obtain ⟨hl, he⟩ := List.getElem?_eq_some_iff.1 hk
 rw [List.drop_eq_getElem_cons hl, he]
 rintro ⟨h1, h2, h3, h4, h5, _⟩
 exact hn ⟨h1, h2, h3, h4, h5⟩
theorem RI.step (hnd : ws.Nodup) {k : Nat} {f g : Nat → Nat → Int} (h : RI W ws es k f g) {e0 e1 : EdgeW} (hk : es[k]? = some (e0, e1)) (h0 : Outer W ws e0) (h1 : Outer W ws e1) (h2 : e0 ∉ used (es.take k)) (h3 : e1 ∉ used (es.take k)) (h4 : e0.2 = e1.2) {x y : Int} (hx : x ≠ 0) (hy : y ≠ 0) :
 RI W ws es (k + 1) (upd3 (upd3 f (uidx ws e0.1) e0.2.val (uidx ws e1.1 : Int)) (uidx ws e1.1) e0.2.val (uidx ws e0.1 : Int)) (upd3 (upd3 g (uidx ws e0.1) e0.2.val x) (uidx ws e1.1) e0.2.val y) := by
 obtain ⟨u0, i0⟩ := e0
 obtain ⟨u1, i1⟩ := e1
 simp only at h4
 subst h4
 have hu0 := uidx_mem h0.1
 have hu1 := uidx_mem h1.1
 have hg := glu_take hk
 have hu := take_used hk
 have key : ∀ t (ht : t < ws.length) (i : Fin 3), (t = uidx ws u0 ∧ i.val = i0.val) ↔ (ws[t], i) = (u0, i0) := by
  intro t ht i
  constructor
  · rintro ⟨rfl, hi⟩
    rw [hu0.2.2, Fin.ext hi]
  · intro e
    simp at e
    refine ⟨?_, by rw [e.2]⟩
    have := uidx_at hnd ht
    rw [e.1] at this
    exact this.symm
 have key1 : ∀ t (ht : t < ws.length) (i : Fin 3), (t = uidx ws u1 ∧ i.val = i0.val) ↔ (ws[t], i) = (u1, i0) := by
  intro t ht i
  constructor
  · rintro ⟨rfl, hi⟩
    rw [hu1.2.2, Fin.ext hi]
  · intro e
    simp at e
    refine ⟨?_, by rw [e.2]⟩
    have := uidx_at hnd ht
    rw [e.1] at this
    exact this.symm
 refine ⟨?_, ?_, ?_, ?_⟩
 · intro t ht i
   rw [hg]
   by_cases a1 : t = uidx ws u1 ∧ i.val = i0.val
   · have e1 := (key1 t ht i).1 a1
     obtain ⟨b1, b2⟩ := a1
     simp only [Prod.mk.injEq] at e1
     have hi : i = i0 := e1.2
     subst hi
     rw [e1.1, b1, upd3_same, hu0.1, mv_right (glu_used h3)]
     by_cases e : ((u0, i) : EdgeW) = (u1, i)
     · rw [if_pos e]
       simp only [Prod.mk.injEq, and_true] at e
       subst e
       unfold mv
       simp
     · rw [if_neg e]
       unfold mv
       rw [List.find?_cons_of_neg (by simpa using e)]
       simp
   · rw [upd3_other _ _ a1]
     have n1 : (ws[t], i) ≠ (u1, i0) := fun e => a1 ((key1 t ht i).2 e)
     by_cases a0 : t = uidx ws u0 ∧ i.val = i0.val
     · have e0 := (key t ht i).1 a0
       obtain ⟨b1, b2⟩ := a0
       simp only [Prod.mk.injEq] at e0
       have hi : i = i0 := e0.2
       subst hi
       rw [e0.1, b1, upd3_same, hu1.1, mv_right (glu_used h2)]
       have e : ((u0, i) : EdgeW) ≠ (u1, i) := fun e => n1 (by rw [← e, ← e0.1])
       rw [if_neg e]
       unfold mv
       simp
     · rw [upd3_other _ _ a0]
       have n0 : (ws[t], i) ≠ (u0, i0) := fun e => a0 ((key t ht i).2 e)
       rw [h.to_ t ht i, mv_left]
       intro x hx he
       split at hx
       · simp at hx; subst hx; exact n0 he.symm
       · simp at hx
         rcases hx with rfl | rfl
         · exact n0 he.symm
         · exact n1 he.symm
 · intro t ht i
   rw [hu]
   by_cases a1 : t = uidx ws u1 ∧ i.val = i0.val
   · have e1 := (key1 t ht i).1 a1
     rw [e1]
     obtain ⟨b1, b2⟩ := a1
     rw [b1, b2, upd3_same]
     simp [hy]
   · rw [upd3_other _ _ a1]
     have n1 : (ws[t], i) ≠ (u1, i0) := fun e => a1 ((key1 t ht i).2 e)
     by_cases a0 : t = uidx ws u0 ∧ i.val = i0.val
     · have e0 := (key t ht i).1 a0
       rw [e0]
       obtain ⟨b1, b2⟩ := a0
       rw [b1, b2, upd3_same]
       simp [hx]
     · rw [upd3_other _ _ a0]
       have n0 : (ws[t], i) ≠ (u0, i0) := fun e => a0 ((key t ht i).2 e)
       rw [h.put t ht i, List.mem_append]
       constructor
       · exact fun hh => .inl hh
       · rintro (hh | hh)
         · exact hh
         · simp at hh
           rcases hh with hh | hh
           · exact (n0 (by simp [hh])).elim
           · exact (n1 (by simp [hh])).elim
 · intro q hq
   obtain ⟨hl, he⟩ := List.getElem?_eq_some_iff.1 hk
   rw [List.take_succ_eq_append_getElem hl, he] at hq
   rcases List.mem_append.1 hq with hq | hq
   · exact h.out q hq
   · simp at hq; subst hq; exact ⟨h0, h1⟩
 · rw [h.seq, hu]
   obtain ⟨hl, he⟩ := List.getElem?_eq_some_iff.1 hk
   rw [List.drop_eq_getElem_cons hl, he]
   exact ⟨fun hh => hh.2.2.2.2.2, fun hh => ⟨h0, h1, h2, h3, rfl, hh⟩⟩
theorem RI.mv_in {f g : Nat → Nat → Int} (h : RI W ws es es.length f g) {u : List (Fin 3)} (hu : u ∈ ws) (i : Fin 3) : mv W (glu es) u i ∈ ws ↔ ¬ (Outer W ws (u, i) ∧ (u, i) ∉ used es) := by
 have htk : es.take es.length = es := List.take_of_length_le (Nat.le_refl _)
 have ho := h.out
 rw [htk] at ho
 by_cases hin : (u, i) ∈ used es
 · constructor
   · exact fun _ hh => hh.2 hin
   · intro _
     unfold mv
     cases hf : (glu es).find? (fun x => x.1 = (u, i)) with
     | none =>
      rw [List.find?_eq_none] at hf
      obtain ⟨q, hq, h1⟩ := used_mem hin
      refine (?_ : False).elim
      have hq1 : (q.1, q.2.1) ∈ glu es := List.mem_flatMap.2 ⟨q, hq, by split <;> simp⟩
      rcases h1 with h1 | h1
      · have := hf _ hq1
        simp [h1] at this
      · by_cases e : q.1 = q.2
        · have := hf _ hq1
          simp [h1, e] at this
        · have hq2 : (q.2, q.1.1) ∈ glu es := List.mem_flatMap.2 ⟨q, hq, by rw [if_neg e]; simp⟩
          have := hf _ hq2
          simp [h1] at this
     | some x =>
      have hx := List.mem_of_find?_eq_some hf
      obtain ⟨q, hq, h1⟩ := glu_mem hx
      have := ho q hq
      rcases h1 with ⟨_, h1⟩ | ⟨_, h1⟩
      · show x.2 ∈ ws
        rw [h1]; exact this.2.1
      · show x.2 ∈ ws
        rw [h1]; exact this.1.1
 · rw [mv_none (glu_used hin)]
   constructor
   · exact fun h1 h2 => h2.1.2 h1
   · intro h1
     by_cases h2 : Nb W u i ∈ ws
     · exact h2
     · exact (h1 ⟨⟨hu, h2⟩, hin⟩).elim
theorem RI.fin {f g : Nat → Nat → Int} (h : RI W ws es es.length f g) : PairSeq W ws [] es ↔ ∀ t (_ : t < ws.length) (i : Fin 3), 0 ≤ f t i.val := by
 have htk : es.take es.length = es := List.take_of_length_le (Nat.le_refl _)
 have hs := h.seq
 rw [htk, List.drop_length] at hs
 rw [hs]
 have hto := h.to_
 rw [htk] at hto
 constructor
 · intro hp t ht i
   rw [hto t ht i]
   have hin : mv W (glu es) ws[t] i ∈ ws := (h.mv_in (List.getElem_mem ht) i).2 (fun hh => hh.2 (hp _ hh.1))
   have := (zidx_neg (ws := ws) (u := mv W (glu es) ws[t] i))
   rcases Int.lt_or_le (zidx ws (mv W (glu es) ws[t] i)) 0 with h1 | h1
   · exact ((this.1 h1) hin).elim
   · exact h1
 · intro hp e ho
   by_cases hin : e ∈ used es
   · exact hin
   · obtain ⟨u, i⟩ := e
     obtain ⟨t, ht, rfl⟩ := List.getElem_of_mem ho.1
     have h1 := hp t ht i
     rw [hto t ht i] at h1
     have h2 : mv W (glu es) ws[t] i ∉ ws := fun hm => ((h.mv_in ho.1 i).1 hm) ⟨ho, hin⟩
     have := zidx_neg.2 h2
     omega
end
end Go.Proofs.Ytkndmibmmoikbaa
namespace Go.Proofs.Ytkndmibmmoikbaa
open Go.RowKit
open Cox (Tl)
def set7 (w : World) (br : Nat) (v0 v1 v2 v3 v4 v5 v6 : Value) : World := ((((((w.setCell ⟨br, 0, none⟩ v0).setCell ⟨br, 1, none⟩ v1).setCell ⟨br, 2, none⟩ v2).setCell ⟨br, 3, none⟩ v3).setCell ⟨br, 4, none⟩ v4).setCell ⟨br, 5, none⟩ v5).setCell ⟨br, 6, none⟩ v6
theorem set7_at {w : World} {br : Nat} {x0 x1 x2 x3 x4 x5 x6 : Value} (h : w.heap[br]? = some (.cells #[x0, x1, x2, x3, x4, x5, x6] 54 (0, 0))) (v0 v1 v2 v3 v4 v5 v6 : Value) : (set7 w br v0 v1 v2 v3 v4 v5 v6).heap[br]? = some (.cells #[v0, v1, v2, v3, v4, v5, v6] 54 (0, 0)) := by
 unfold set7
 simp only [heap_setCell', if_true, h, Option.map]
 rfl
theorem set7_below {w0 w : World} {B br : Nat} (hb : Below B w0 w) (h : B ≤ br) (v0 v1 v2 v3 v4 v5 v6 : Value) : Below B w0 (set7 w br v0 v1 v2 v3 v4 v5 v6) := by
 unfold set7
 exact ((((((hb.setCell (p := ⟨br, 0, none⟩) h _).setCell (p := ⟨br, 1, none⟩) h _).setCell (p := ⟨br, 2, none⟩) h _).setCell (p := ⟨br, 3, none⟩) h _).setCell (p := ⟨br, 4, none⟩) h _).setCell (p := ⟨br, 5, none⟩) h _).setCell (p := ⟨br, 6, none⟩) h _
theorem set7_other {w : World} {br q : Nat} (h : q ≠ br) (v0 v1 v2 v3 v4 v5 v6 : Value) : (set7 w br v0 v1 v2 v3 v4 v5 v6).heap[q]? = w.heap[q]? := by
 unfold set7
 simp only [heap_setCell', if_neg h]
theorem StrsAt.far {w w' : World} {p : Option Addr} {l : List ByteArray} {br : Nat} (h : StrsAt w p l) (hb : ∀ q, q ≠ br → w'.heap[q]? = w.heap[q]?) (hq : ∀ q, p = some ⟨q, 0, none⟩ → q ≠ br) (h0 : ∀ q o, p = some ⟨q, o, none⟩ → o = 0) : StrsAt w' p l := by
 intro hne
 obtain ⟨q, o, he, hrow⟩ := h hne
 have ho := h0 q o he
 subst ho
 refine ⟨q, 0, he, fun i hi => ?_⟩
 have h1 := hrow i hi
 have h2 := World.cell?_of_block (w := w) (w' := w') (a := ⟨q, 0 + i, none⟩) (hb q (hq q he))
 rw [h2]
 exact h1
theorem TosAt.far {w w' : World} {p : Option Addr} {n : Nat} {f : Nat → Nat → Int} {br : Nat} (h : TosAt w p n f) (hb : ∀ q, q ≠ br → w'.heap[q]? = w.heap[q]?) (hq : ∀ q, p = some ⟨q, 0, none⟩ → q ≠ br) (h0 : ∀ q o, p = some ⟨q, o, none⟩ → o = 0) : TosAt w' p n f := by
 intro hne
 obtain ⟨q, o, he, hrow⟩ := h hne
 have ho := h0 q o he
 subst ho
 refine ⟨q, 0, he, fun t i ht hi => ?_⟩
 have h1 := hrow t i ht hi
 have h2 := World.cell?_of_block (w := w) (w' := w') (a := ⟨q, 0 + t * 3 + i, none⟩) (hb q (hq q he))
 rw [h2]
 exact h1
theorem owns_addr {w : World} {B : Nat} {e : TypeId} {n m size cap : Nat} {p : Option Addr} {xs : List Value} (h : w.ownsRow B e size (.slice p m cap) n xs) : ∀ q o, p = some ⟨q, o, none⟩ → o = 0 ∧ B ≤ q := by
 intro q o he
 rcases h.2 with ⟨h2, _⟩ | ⟨g, cap', cur, hv, hb, _⟩
 · simp at h2; rw [h2.1] at he; cases he
 · simp at hv
   rw [hv.1] at he
   simp at he
   exact ⟨he.2.symm, he.1 ▸ hb⟩
theorem read_door {Q : Ending → World → Prop} {tmps : Array Value} {br : Nat} {e : Int} {w : World} {v0 v1 v2 v3 v4 v5 v6 : Value} (h6 : tmps[6]? = some (.pointer (some ⟨br, 0, none⟩))) (h7 : tmps[7]? = some (.int .i64 e)) (hb : w.heap[br]? = some (.cells #[v0, v1, v2, v3, v4, v5, v6] 54 (0, 0)))
 (hQ : Q (.returned (.tuple #[.agg #[v0, v1, v2, v3, v4, v5, v6], .int .i64 e])) w) :
 bodyPost Try.prog Try.f17 Q .ret ⟨tmps, []⟩ w := by
 have k0 : w.cell? ⟨br, 0, none⟩ = some v0 := by rw [cell_of hb]; rfl
 have k1 : w.cell? ⟨br, 1, none⟩ = some v1 := by rw [cell_of hb]; rfl
 have k2 : w.cell? ⟨br, 2, none⟩ = some v2 := by rw [cell_of hb]; rfl
 have k3 : w.cell? ⟨br, 3, none⟩ = some v3 := by rw [cell_of hb]; rfl
 have k4 : w.cell? ⟨br, 4, none⟩ = some v4 := by rw [cell_of hb]; rfl
 have k5 : w.cell? ⟨br, 5, none⟩ = some v5 := by rw [cell_of hb]; rfl
 have k6 : w.cell? ⟨br, 6, none⟩ = some v6 := by rw [cell_of hb]; rfl
 refine bodyPost_ret (v := .tuple #[.agg #[v0, v1, v2, v3, v4, v5, v6], .int .i64 e]) ?_ rfl hQ
 simp [results, Try.results17, go_sem, h6, h7, k0, k1, k2, k3, k4, k5, k6]
end Go.Proofs.Ytkndmibmmoikbaa
namespace Go.Proofs.Ytkndmibmmoikbaa
open Go.RowKit
open Cox (Tl)
structure RdEnd {K : Type} [Cox.OR K] (W : Cox.Tri K) (a b c : Int) (br : Nat) (ws : List (List (Fin 3))) (gs : List (EdgeW × List (Fin 3))) (e : Int) (wi : World) (Q : Ending → World → Prop) : Prop where
 no : e ≠ 0 → ∀ w', Below wi.heap.size wi w' → Q (.returned (.tuple #[.agg #[.int .i64 0, .int .i64 0, .int .i64 0, .slice none 0 0, .slice none 0 0, .slice none 0 0, .slice none 0 0], .int .i64 e])) w'
 yes : e = 0 → ∀ pt ct pto cto p3 n3 c3 p4 n4 c4 f w', StrsAt w' pt (ws.map wb) → TosAt w' pto ws.length f → (∀ t (h : t < ws.length) (i : Fin 3), f t i.val = zidx ws (mv W gs ws[t] i)) → Below wi.heap.size wi w' → Q (.returned (.tuple #[lval a b c (.slice pt ws.length ct) pto ws.length cto (.slice p3 n3 c3) (.slice p4 n4 c4), .int .i64 0])) w'
noncomputable def read42 : Code := (Try.f17.body.bind (fromR 42)).getD .skip
theorem read_t42 {K : Type} [Cox.OR K] {W : Cox.Tri K} {Q : Ending → World → Prop} {H bl bo br : Nat} {a b c : Int} {vt vto vput vm : Value} {ws : List (List (Fin 3))} {es : List (EdgeW × EdgeW)} {f g : Nat → Nat → Int} {ms : List ByteArray} {w0 wi wz : World} {e : Int}
 (HE : Hid (RdEnd W a b c br ws (glu es) e w0 Q)) (hw : Below w0.heap.size w0 wi) (hbr : w0.heap.size ≤ br) (hwl : ws.length ≤ 200) (hr : LRep H bl bo br a b c vt vto vput vm (ws.map wb) ws.length ws.length f g ms wi wz) (hri : RI W ws es es.length f g) (he0 : PairSeq W ws [] es → e = 0) (he8 : ¬ PairSeq W ws [] es → e = 8) {u0 u1 u2 u3 u4 u5 u7 u8 u10 u11 u12 u13 u14 u15 u16 u17 u18 u19 u20 u21 u22 u23 u24 u25 u26 u27 u28 u29 u30 u31 u32 u33 u34 u35 u36 u37 u38 u39 u40 u41 u42 u43 u44 u45 u46 u47 u48 u49 u50 u51 u52 u53 u54 u55 u56 u57 u58 u59 u60 u61 u62 u63 u64 u65 u66 u67 u68 u69 u70 u71 u72 u73 u74 u75 u76 u77 u78 u79 u80 u81 u82 u83 u84 u85 u86 u87 u88 u89 u90 u91 u92 u93 u94 u95 u96 u97 u98 u99 u100 u101 u102 u103 u104 u105 u106 u107 u108 u109 u110 u111 u112 u113 u114 u115 u116 u117 u118 u119 u120 u121 u122 u123 u124 u125 u126 u127 u128 u129 u130 u131 u132 u133 u134 u135 u136 u137 u138 u139 u140 u141 u142 u143 u144 u145 u146 u147 u148 u149 u150 u151 u152 u153 u154 u155 u156 u157 u158 u159 u160 u161 u162 u163 u164 u165 u166 u167 u168 u169 u170 u171 u172 u173 u174 u175 u176 u177 u178 u179 u180 u181 u182 u183 u184 u185 u186 u187 u188 u189 u190 u191 u192 u193 u194 u195 u196 u197 u198 u199 u200 u201 u202 u203 u204 u205 u206 u207 u208 u209 u210 u211 u212 u213 u214 u215 u216 u217 u218 u219 u220 u221 u222 u223 u224 u225 u226 u227 u228 u229 u230 u231 u232 u233 u234 u235 : Value} :
 Code.wp Try.prog read42 (bodyPost Try.prog Try.f17 Q) ⟨#[u0, u1, u2, u3, u4, u5, .pointer (some ⟨br, 0, none⟩), u7, u8, .pointer (some ⟨bl, 0, none⟩), u10, u11, u12, u13, u14, u15, u16, u17, u18, u19, u20, u21, u22, u23, u24, u25, u26, u27, u28, u29, u30, u31, u32, u33, u34, u35, u36, u37, u38, u39, u40, u41, u42, u43, u44, u45, u46, u47, u48, u49, u50, u51, u52, u53, u54, u55, u56, u57, u58, u59, u60, u61, u62, u63, u64, u65, u66, u67, u68, u69, u70, u71, u72, u73, u74, u75, u76, u77, u78, u79, u80, u81, u82, u83, u84, u85, u86, u87, u88, u89, u90, u91, u92, u93, u94, u95, u96, u97, u98, u99, u100, u101, u102, u103, u104, u105, u106, u107, u108, u109, u110, u111, u112, u113, u114, u115, u116, u117, u118, u119, u120, u121, u122, u123, u124, u125, u126, u127, u128, u129, u130, u131, u132, u133, u134, u135, u136, u137, u138, u139, u140, u141, u142, u143, u144, u145, u146, u147, u148, u149, u150, u151, u152, u153, u154, u155, u156, u157, u158, u159, u160, u161, u162, u163, u164, u165, u166, u167, u168, u169, u170, u171, u172, u173, u174, u175, u176, u177, u178, u179, u180, u181, u182, u183, u184, u185, u186, u187, u188, u189, u190, u191, u192, u193, u194, u195, u196, u197, u198, u199, u200, u201, u202, u203, u204, u205, u206, u207, u208, u209, u210, u211, u212, u213, u214, u215, u216, u217, u218, u219, u220, u221, u222, u223, u224, u225, u226, u227, u228, u229, u230, u231, u232, u233, u234, u235], []⟩ wz := by
 have HR := Lib.hid hr
 have HB : Hid (Below w0.heap.size w0 wz) := Hi (hw.trans (hr.bel.mono hw.size))
 have hres := hr.res
 obtain ⟨pt, ct, hvt, hst⟩ := hr.strs
 obtain ⟨pto, cto, hvto, hto⟩ := rowsAt hr.rTo
 have k3 : wz.cell? ⟨bl, 3, none⟩ = some (.slice pt ws.length ct) := by rw [hr.cells.1, hvt]
 have k4 : wz.cell? ⟨bl, 4, none⟩ = some (.slice pto ws.length cto) := by rw [hr.cells.2.1, hvto]
 have HTO := Lib.hid hto
 have HST := Lib.hid hst
 have HRI := Lib.hid hri
 have HEQ := Hi (And.intro he0 he8)
 have x0 : wz.cell? ⟨bl, 0, none⟩ = some (.int .i64 a) := by rw [cell_of hr.box]; rfl
 have x1 : wz.cell? ⟨bl, 1, none⟩ = some (.int .i64 b) := by rw [cell_of hr.box]; rfl
 have x2 : wz.cell? ⟨bl, 2, none⟩ = some (.int .i64 c) := by rw [cell_of hr.box]; rfl
 have hl4 : bl ≠ br := hr.big.2.2.2.2.1
 have hH := hr.big
 obtain ⟨p5, c5, hv5⟩ := owns_form hr.rPut
 obtain ⟨p6, c6, hv6⟩ := owns_form hr.rM
 have x5 : wz.cell? ⟨bl, 5, none⟩ = some (.slice p5 ws.length c5) := by rw [hr.cells.2.2.1, hv5]
 have x6 : wz.cell? ⟨bl, 6, none⟩ = some (.slice p6 ms.length c6) := by rw [hr.cells.2.2.2.1, hv6]
 have hoT := hr.rT
 have hoTo := hr.rTo
 rw [hvt] at hoT
 rw [hvto] at hoTo
 have HSEP : Hid (∀ v0 v1 v2 v3 v4 v5 v6, StrsAt (set7 wz br v0 v1 v2 v3 v4 v5 v6) pt (ws.map wb) ∧ TosAt (set7 wz br v0 v1 v2 v3 v4 v5 v6) pto ws.length f) := Hi (fun v0 v1 v2 v3 v4 v5 v6 => by
  exact ⟨hst.far (fun q hq => set7_other hq v0 v1 v2 v3 v4 v5 v6) (fun q hq => by have := (owns_addr hoT q 0 hq).2; omega) (fun q o hq => (owns_addr hoT q o hq).1), hto.far (fun q hq => set7_other hq v0 v1 v2 v3 v4 v5 v6) (fun q hq => by have := (owns_addr hoTo q 0 hq).2; omega) (fun q o hq => (owns_addr hoTo q o hq).1)⟩)
 have HX := Hi (And.intro x0 (And.intro x1 (And.intro x2 (And.intro x5 x6))))
 have HK3 := Lib.hid k3
 have r0 : wz.cell? ⟨br, 0, none⟩ = some (.int .i64 0) := by rw [cell_of hres]; rfl
 have r1 : wz.cell? ⟨br, 1, none⟩ = some (.int .i64 0) := by rw [cell_of hres]; rfl
 have r2 : wz.cell? ⟨br, 2, none⟩ = some (.int .i64 0) := by rw [cell_of hres]; rfl
 have r3 : wz.cell? ⟨br, 3, none⟩ = some (.slice none 0 0) := by rw [cell_of hres]; rfl
 have r4 : wz.cell? ⟨br, 4, none⟩ = some (.slice none 0 0) := by rw [cell_of hres]; rfl
 have r5 : wz.cell? ⟨br, 5, none⟩ = some (.slice none 0 0) := by rw [cell_of hres]; rfl
 have r6 : wz.cell? ⟨br, 6, none⟩ = some (.slice none 0 0) := by rw [cell_of hres]; rfl
 have g0 := free_of hres 0
 have g1 := free_of hres 1
 have g2 := free_of hres 2
 have g3 := free_of hres 3
 have g4 := free_of hres 4
 have g5 := free_of hres 5
 have g6 := free_of hres 6
 have HRES := Lib.hid hres
 have HBR := Lib.hid hbr
 have HRR := Hi (And.intro r0 (And.intro r1 (And.intro r2 (And.intro r3 (And.intro r4 (And.intro r5 (And.intro r6 (And.intro g0 (And.intro g1 (And.intro g2 (And.intro g3 (And.intro g4 (And.intro g5 g6)))))))))))))
 clear hr hst hto hri he0 he8 hres hw hbr x0 x1 x2 x5 x6 hvt hvto hoT hoTo hv5 hv6 hl4 hH r0 r1 r2 r3 r4 r5 r6 g0 g1 g2 g3 g4 g5 g6
 conv => arg 2; whnf
 go_wp2_with fail
 go_loopw [218] (fun t wr => wr = wz ∧ ∃ k : Nat, k ≤ ws.length ∧ t = .int .i64 (k : Nat) ∧ Hid (∀ t i, t < k → i < 3 → 0 ≤ f t i)) (fun t _ => ws.length - (intOf t).toNat)
 case atStart => exact ⟨rfl, 0, by omega, rfl, Hi (fun t i h => by omega)⟩
 case round =>
  obtain ⟨rfl, k, hk, rfl, HK⟩ := hrel
  by_cases hlt : k < ws.length
  · have k1 : (k : Int) < (ws.length : Int) := by omega
    have k2 : (0 : Int) ≤ (k : Int) := by omega
    have HLT := Lib.hid hlt
    go_wp2_with fail
    go_loopw [25] (fun t wq => wq = wr ∧ ∃ i : Nat, i ≤ 3 ∧ t = .int .i64 (i : Nat) ∧ Hid (∀ j, j < i → 0 ≤ f k j)) (fun t _ => 3 - (intOf t).toNat)
    case atStart => exact ⟨rfl, 0, by omega, rfl, Hi (fun j h => by omega)⟩
    case round =>
     obtain ⟨rfl, i, hi, rfl, HI⟩ := hrel
     by_cases hi3 : i < 3
     · obtain ⟨b1, o1, hpt, hrow⟩ := HTO.out (by omega)
       have q0 := hrow k i HLT.out hi3
       have i1 : (i : Int) < 3 := by omega
       have i2 : (0 : Int) ≤ (i : Int) := by omega
       have HI3 := Lib.hid hi3
       clear hrow
       subst hpt
       by_cases hneg : f k i < 0
       · have d0 : decide (f k i < 0) = true := decide_eq_true hneg
         have HN : Hid (e = 8) := Hi (by
          refine HEQ.out.2 (fun hp => ?_)
          have := (HRI.out.fin.1 hp) k HLT.out ⟨i, HI3.out⟩
          have h2 : 0 ≤ f k i := this
          omega)
         obtain ⟨r0, r1, r2, r3, r4, r5, r6, g0, g1, g2, g3, g4, g5, g6⟩ := HRR.out
         clear hneg
         go_wp2_with fail
         refine read_door (e := 8) rfl rfl (set7_at HRES.out (.int .i64 0) (.int .i64 0) (.int .i64 0) (.slice none 0 0) (.slice none 0 0) (.slice none 0 0) (.slice none 0 0)) ?_
         have := HE.out.no (by rw [HN.out]; decide) _ (set7_below HB.out HBR.out (.int .i64 0) (.int .i64 0) (.int .i64 0) (.slice none 0 0) (.slice none 0 0) (.slice none 0 0) (.slice none 0 0))
         rw [HN.out] at this
         exact this
       · have d0 : decide (f k i < 0) = false := decide_eq_false hneg
         have HN : Hid (∀ j, j < i + 1 → 0 ≤ f k j) := Hi (fun j hj => by
          by_cases e : j = i
          · subst e; omega
          · exact HI.out j (by omega))
         clear hneg
         go_wp2_with fail
         go_roundw
         case rel => exact ⟨trivial, i + 1, by omega, by go_num, HN⟩
         case measure => simp [intOf]; omega
     · have hie : i = 3 := by omega
       subst hie
       have HN : Hid (∀ t i, t < k + 1 → i < 3 → 0 ≤ f t i) := Hi (fun t i ht hi => by
        by_cases e : t = k
        · subst e; exact HI.out i hi
        · exact HK.out t i (by omega) hi)
       go_wp2_with fail
       go_roundw
       case rel => exact ⟨trivial, k + 1, HLT.out, by go_num, HN⟩
       case measure =>
        have := HLT.out
        simp [intOf]; omega
  · have hke : k = ws.length := by omega
    subst hke
    have k1 : ¬ (ws.length : Int) < (ws.length : Int) := by omega
    have HN : Hid (e = 0) := Hi (HEQ.out.1 (HRI.out.fin.2 (fun t ht i => HK.out t i.val ht i.isLt)))
    obtain ⟨r0, r1, r2, r3, r4, r5, r6, g0, g1, g2, g3, g4, g5, g6⟩ := HRR.out
    obtain ⟨x0, x1, x2, x5, x6⟩ := HX.out
    go_wp2_with fail
    refine read_door (e := 0) rfl rfl (set7_at HRES.out (.int .i64 a) (.int .i64 b) (.int .i64 c) (.slice pt ws.length ct) (.slice pto ws.length cto) (.slice p5 ws.length c5) (.slice p6 ms.length c6)) ?_
    have hto := HRI.out.to_
    have htk : es.take es.length = es := List.take_of_length_le (Nat.le_refl _)
    rw [htk] at hto
    refine HE.out.yes HN.out pt ct pto cto p5 ws.length c5 p6 ms.length c6 f _ (HSEP.out _ _ _ _ _ _ _).1 (HSEP.out _ _ _ _ _ _ _).2 hto (set7_below HB.out HBR.out _ _ _ _ _ _ _)
end Go.Proofs.Ytkndmibmmoikbaa
namespace Go.Proofs.Ytkndmibmmoikbaa
open Go.RowKit
open Cox (Tl)
section
variable {H bl bo br : Nat} {a b c : Int} {vt vto vput vm : Value} {ts : List ByteArray} {n m : Nat} {f g : Nat → Nat → Int} {ms : List ByteArray} {wi w : World}
theorem LRep.toCell (h : LRep H bl bo br a b c vt vto vput vm ts n m f g ms wi w) {t i : Nat} (ht : t < n) (hi : i < 3) : ∃ q cap, vto = .slice (some ⟨q, 0, none⟩) n cap ∧ w.cell? ⟨q, t * 3 + i, none⟩ = some (.int .i64 (f t i)) ∧ w.frozen? ⟨q, t * 3 + i, none⟩ = false := by
 obtain ⟨q, cap, hv, hc, _⟩ := owns_cell h.rTo (i := t * 3 + i) (by rw [row3_len]; omega)
 rw [row3_at ht hi] at hc
 have ho := h.rTo
 rw [hv] at ho
 exact ⟨q, cap, hv, hc, ho.frozenAt _⟩
theorem LRep.putCell (h : LRep H bl bo br a b c vt vto vput vm ts n m f g ms wi w) {t i : Nat} (ht : t < m) (hi : i < 3) : ∃ q cap, vput = .slice (some ⟨q, 0, none⟩) m cap ∧ w.cell? ⟨q, t * 3 + i, none⟩ = some (.int .i64 (g t i)) ∧ w.frozen? ⟨q, t * 3 + i, none⟩ = false := by
 obtain ⟨q, cap, hv, hc, _⟩ := owns_cell h.rPut (i := t * 3 + i) (by rw [row3_len]; omega)
 rw [row3_at ht hi] at hc
 have ho := h.rPut
 rw [hv] at ho
 exact ⟨q, cap, hv, hc, ho.frozenAt _⟩
theorem set_keep {w : World} {q o : Nat} {v : Value} {k : Nat} (h : k ≠ q) : (w.setCell ⟨q, o, none⟩ v).heap[k]? = w.heap[k]? := by rw [heap_setCell', if_neg h]
theorem LRep.setTo (h : LRep H bl bo br a b c vt vto vput vm ts n m f g ms wi w) {t i : Nat} (ht : t < n) (hi : i < 3) (x : Int) {q cap : Nat} (hv : vto = .slice (some ⟨q, 0, none⟩) n cap) :
 LRep H bl bo br a b c vt vto vput vm ts n m (upd3 f t i x) g ms wi (w.setCell ⟨q, t * 3 + i, none⟩ (.int .i64 x)) where
 box := (set_keep (fun e => by have := (owns_lt h.rTo (g := q) (by rw [hv]; rfl)).2; have := h.big; omega)).trans h.box
 ord := (set_keep (fun e => by have := (owns_lt h.rTo (g := q) (by rw [hv]; rfl)).2; have := h.big; omega)).trans h.ord
 res := (set_keep (fun e => by have := (owns_lt h.rTo (g := q) (by rw [hv]; rfl)).2; have := h.big; omega)).trans h.res
 rT := row_set h.rT ((fun e => type_ne h.rT h.rTo (by decide) e (by rw [hv]; rfl))) _
 rTo := by
  have ho := h.rTo
  rw [hv] at ho
  have h1 := (ho.stored (t * 3 + i) (.int .i64 x)).1
  rw [row3_set ht hi] at h1
  rw [hv]
  exact h1
 rPut := row_set h.rPut ((fun e => h.sepTP q (by rw [hv]; rfl) e)) _
 rM := row_set h.rM ((fun e => type_ne h.rM h.rTo (by decide) e (by rw [hv]; rfl))) _
 sepTP := h.sepTP
 sepTM := h.sepTM
 bel := h.bel.setCell (by have h1 := (owns_lt h.rTo (g := q) (by rw [hv]; rfl)).2; have h2 := h.big; show wi.heap.size ≤ q; omega) _
 big := by
  have h2 := h.big
  refine ⟨h2.1, h2.2.1, h2.2.2.1, ?_, h2.2.2.2.2⟩
  simp [World.setCell]
  omega
theorem LRep.setPut (h : LRep H bl bo br a b c vt vto vput vm ts n m f g ms wi w) {t i : Nat} (ht : t < m) (hi : i < 3) (x : Int) {q cap : Nat} (hv : vput = .slice (some ⟨q, 0, none⟩) m cap) :
 LRep H bl bo br a b c vt vto vput vm ts n m f (upd3 g t i x) ms wi (w.setCell ⟨q, t * 3 + i, none⟩ (.int .i64 x)) where
 box := (set_keep (fun e => by have := (owns_lt h.rPut (g := q) (by rw [hv]; rfl)).2; have := h.big; omega)).trans h.box
 ord := (set_keep (fun e => by have := (owns_lt h.rPut (g := q) (by rw [hv]; rfl)).2; have := h.big; omega)).trans h.ord
 res := (set_keep (fun e => by have := (owns_lt h.rPut (g := q) (by rw [hv]; rfl)).2; have := h.big; omega)).trans h.res
 rT := row_set h.rT ((fun e => type_ne h.rT h.rPut (by decide) e (by rw [hv]; rfl))) _
 rPut := by
  have ho := h.rPut
  rw [hv] at ho
  have h1 := (ho.stored (t * 3 + i) (.int .i64 x)).1
  rw [row3_set ht hi] at h1
  rw [hv]
  exact h1
 rTo := row_set h.rTo ((fun e => h.sepTP q e (by rw [hv]; rfl))) _
 rM := row_set h.rM ((fun e => type_ne h.rM h.rPut (by decide) e (by rw [hv]; rfl))) _
 sepTP := h.sepTP
 sepTM := h.sepTM
 bel := h.bel.setCell (by have h1 := (owns_lt h.rPut (g := q) (by rw [hv]; rfl)).2; have h2 := h.big; show wi.heap.size ≤ q; omega) _
 big := by
  have h2 := h.big
  refine ⟨h2.1, h2.2.1, h2.2.2.1, ?_, h2.2.2.2.2⟩
  simp [World.setCell]
  omega
theorem LRep.far (h : LRep H bl bo br a b c vt vto vput vm ts n m f g ms wi w) {q o : Nat} {x : Value} (hq : H ≤ q) (h1 : vt.ownBlock ≠ some q) (h2 : vto.ownBlock ≠ some q) (h3 : vput.ownBlock ≠ some q) (h4 : vm.ownBlock ≠ some q) : LRep H bl bo br a b c vt vto vput vm ts n m f g ms wi (w.setCell ⟨q, o, none⟩ x) where
 box := (set_keep (fun e => by have := h.big; omega)).trans h.box
 ord := (set_keep (fun e => by have := h.big; omega)).trans h.ord
 res := (set_keep (fun e => by have := h.big; omega)).trans h.res
 rT := row_set h.rT h1 _
 rTo := row_set h.rTo h2 _
 rPut := row_set h.rPut h3 _
 rM := row_set h.rM h4 _
 sepTP := h.sepTP
 sepTM := h.sepTM
 bel := h.bel.setCell (by have h2 := h.big; show wi.heap.size ≤ q; omega) _
 big := by
  have h2 := h.big
  refine ⟨h2.1, h2.2.1, h2.2.2.1, ?_, h2.2.2.2.2⟩
  simp [World.setCell]
  omega
theorem LRep.fresh (h : LRep H bl bo br a b c vt vto vput vm ts n m f g ms wi w) {q : Nat} (hq : w.heap.size ≤ q) : vt.ownBlock ≠ some q ∧ vto.ownBlock ≠ some q ∧ vput.ownBlock ≠ some q ∧ vm.ownBlock ≠ some q :=
 ⟨fun e => by have := (owns_lt h.rT e).1; omega, fun e => by have := (owns_lt h.rTo e).1; omega, fun e => by have := (owns_lt h.rPut e).1; omega, fun e => by have := (owns_lt h.rM e).1; omega⟩
end
end Go.Proofs.Ytkndmibmmoikbaa
