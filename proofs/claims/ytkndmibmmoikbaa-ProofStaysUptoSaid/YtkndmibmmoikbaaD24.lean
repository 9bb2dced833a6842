/- Chapter 10: Pi1 Pi2 Pr0. -/
import Derived.Test.YtkndmibmmoikbaaD23
import Derived.Test.YtkndmibmmoikbaaD16
set_option linter.all false
set_option maxRecDepth 100000
set_option maxHeartbeats 16000000
namespace Go.Proofs.Ytkndmibmmoikbaa
open Go.RowKit
open Cox (Tl)
attribute [local go_sem] Oper.semAt_some
def alt (s t : Fin 3) (k : Nat) : Fin 3 := if k % 2 = 0 then s else t
theorem alt_swap (s t : Fin 3) (k : Nat) : alt s t (k + 2) = alt s t k := by unfold alt; rw [Nat.add_mod_right]
structure LE (K : Type) [Cox.OR K] where
 W : Cox.Tri K
 (B : Nat) (a b c : Int) (L p F M MP Wk : Nat) (ws : List (List (Fin 3))) (xs : List Nat) (rv wv pv : Value) (gs : List (EdgeW × List (Fin 3))) (A : List (Fin 3) → Nat)
 (us : List (List (Fin 3))) (ys : List Nat) (s t : Fin 3) (lastw : List (Fin 3)) (lasty : Nat) (g cap : Nat)
 (w0 : World) (D0 : Dict) (H : Nat) (X : Nat)
section
variable {K : Type} [Cox.OR K] (E : LE K)
def LE.okAt (k : Nat) : Prop := mv E.W E.gs (E.us.getD k []) (alt E.s E.t k) = E.us.getD (k + 1) E.lastw
def LE.Leads : Prop := ∀ k, k < E.us.length → E.okAt k
abbrev LE.WS (w : World) (D : Dict) : Prop := WSt E.W E.B E.a E.b E.c E.L E.p E.F E.M E.MP E.Wk w D E.ws E.xs E.rv E.wv E.pv E.gs E.A
def LE.pathv : Value := .slice (some ⟨E.g, 0, none⟩) E.us.length E.cap
def LE.bx (r : Nat) (res : Bool) : List (Nat × Obj) :=
 [(E.X, .cells #[.pointer (some ⟨E.Wk, 0, none⟩)] 62 (0, 0)), (E.X + 1, .cells #[E.pathv] 67 (0, 0)), (E.X + 2, .cells #[.pointer (some ⟨E.lasty, 0, none⟩)] 69 (0, 0)), (E.X + 3, .cells #[.bool res] 4 (0, 0)),
  (E.X + 4, .cells #[E.pathv] 67 (0, 0)), (E.X + 5, .cells #[.int .i64 ((alt E.s E.t r).val : Int)] 3 (0, 0)), (E.X + 6, .cells #[.int .i64 ((alt E.s E.t (r + 1)).val : Int)] 3 (0, 0))]
def Bxs (l : List (Nat × Obj)) (D : Dict) (w : World) : Prop := ∀ q, q ∈ l → w.heap[q.1]? = some q.2 ∧ ¬ D.dom q.1
structure LE.Good : Prop where
 ords : Ords E.W E.a E.b E.c
 ws : E.WS E.w0 E.D0
 row : E.w0.ownsRow E.H 69 1 E.pathv E.us.length (E.ys.map pval)
 own : ¬ E.D0.dom E.g
 len : E.ys.length = E.us.length
 at_ : ∀ i (h : i < E.us.length) (h' : i < E.ys.length), E.D0 E.us[i] E.ys[i]
 last : E.D0 E.lastw E.lasty
 short : ∀ i (h : i < E.us.length), E.us[i].length < 90000
 big : E.w0.heap.size = E.X
def LE.St (j r : Nat) (w : World) : Prop := (∀ i, i < j → E.okAt i) ∧ ∃ D', E.WS w D' ∧ TExt E.w0 E.D0 w D' ∧ Bxs (E.bx r false) D' w
def LE.End (res : Bool) (w : World) : Prop := ∃ D', E.WS w D' ∧ TExt E.w0 E.D0 w D' ∧ Bxs [(E.X + 3, .cells #[.bool res] 4 (0, 0))] D' w
variable {E}
theorem Bxs.ext {l : List (Nat × Obj)} {D D' : Dict} {w w' : World} (h : Bxs l D w) (g : TExt w D w' D') : Bxs l D' w' := fun q hq => by
 obtain ⟨h1, h2⟩ := h q hq
 obtain ⟨g1, g2⟩ := g.keep (Array.getElem?_eq_some_iff.1 h1).1 h2
 exact ⟨g1.trans h1, g2⟩
theorem Bxs.out {l : List (Nat × Obj)} {D : Dict} {S : Nat → Prop} {w w' : World} (h : Bxs l D w) (g : Out S w w') (hS : ∀ q, q ∈ l → ¬ S q.1) : Bxs l D w' := fun q hq => by
 obtain ⟨h1, h2⟩ := h q hq
 exact ⟨(g.block _ (Array.getElem?_eq_some_iff.1 h1).1 (hS q hq)).trans h1, h2⟩
theorem putObj_out (w : World) (m : Nat) (o : Obj) : Out (fun b => b = m) w (w.putObj m o) :=
 ⟨rfl, rfl, rfl, by simp, fun b hb hn => World.putObj_heap_other hn⟩
theorem WSt.dom_cells {W : Cox.Tri K} {B : Nat} {a b c : Int} {L p F M MP Wk : Nat} {w : World} {D : Dict} {ws : List (List (Fin 3))} {xs : List Nat} {rv wv pv : Value} {gs : List (EdgeW × List (Fin 3))} {A : List (Fin 3) → Nat}
 (h : WSt W B a b c L p F M MP Wk w D ws xs rv wv pv gs A) {m : Nat} {o : Obj} (hm : w.heap[m]? = some o) (ho : o.isCells = false) : ¬ D.dom m := by
 rintro ⟨u, hu⟩
 obtain ⟨cs, hc⟩ := h.lst.td.cells hu
 rw [hm] at hc
 cases hc
 cases ho
theorem LE.St.put (hg : E.Good) {j r : Nat} {w : World} (h : E.St j r w) {m : Nat} {o : Obj} (hm : w.heap[m]? = some o) (ho : o.isCells = false) (hX : E.X ≤ m) (o' : Obj) : E.St j r (w.putObj m o') := by
 obtain ⟨h1, D', h2, h3, h4⟩ := h
 have hout := putObj_out w m o'
 have hlt := hg.ws.lt
 have hbig := hg.big
 refine ⟨h1, D', h2.out hout (fun x hx => ?_), h3.own hout (fun x hx => by omega), h4.out hout ?_⟩
 · subst hx; exact ⟨by omega, h2.dom_cells hm ho⟩
 · rintro q hq rfl
   have := (h4 q hq).1
   rw [hm] at this
   unfold LE.bx at hq
   simp only [List.mem_cons, List.not_mem_nil, or_false] at hq
   rcases hq with rfl | rfl | rfl | rfl | rfl | rfl | rfl <;> (cases this; cases ho)
theorem LE.End.put (hg : E.Good) {res : Bool} {w : World} (h : E.End res w) {m : Nat} {o : Obj} (hm : w.heap[m]? = some o) (ho : o.isCells = false) (hX : E.X ≤ m) (o' : Obj) : E.End res (w.putObj m o') := by
 obtain ⟨D', h2, h3, h4⟩ := h
 have hout := putObj_out w m o'
 have hlt := hg.ws.lt
 have hbig := hg.big
 refine ⟨D', h2.out hout (fun x hx => ?_), h3.own hout (fun x hx => by omega), h4.out hout ?_⟩
 · subst hx; exact ⟨by omega, h2.dom_cells hm ho⟩
 · rintro q hq rfl
   have := (h4 q hq).1
   rw [hm] at this
   simp only [List.mem_cons, List.not_mem_nil, or_false] at hq
   subst hq
   cases this; cases ho
theorem LE.St.below (_ : E.Good) {j r : Nat} {w w' : World} (h : E.St j r w) (hb : Below w.heap.size w w') : E.St j r w' := by
 obtain ⟨h1, D', h2, h3, h4⟩ := h
 have ho : Out (fun _ => False) w w' := Out.of_below hb
 exact ⟨h1, D', h2.below hb, h3.own ho (fun x hx => hx.elim), h4.out ho (fun q hq hx => hx)⟩
theorem LE.St.cell (hg : E.Good) {j r : Nat} {w : World} (h : E.St j r w) {k : Nat} (hk : k < E.us.length) : ∃ y, E.ys[k]? = some y ∧ w.cell? ⟨E.g, k, none⟩ = some (.pointer (some ⟨y, 0, none⟩)) := by
 obtain ⟨h1, D', h2, h3, h4⟩ := h
 have hky : k < E.ys.length := by rw [hg.len]; exact hk
 obtain ⟨g', cap', hv, hc⟩ := owns_at hg.row (i := k) (by simpa using hky)
 have hgg : E.g = g' := by
  unfold LE.pathv at hv
  simp at hv
  exact hv.1
 rw [← hgg] at hc
 have hlt := owns_lt hg.row (g := E.g) rfl
 obtain ⟨k1, k2⟩ := h3.keep hlt.1 hg.own
 refine ⟨E.ys[k], List.getElem?_eq_getElem hky, ?_⟩
 rw [World.cell?_of_block k1, hc, List.getElem_map]; rfl
theorem LE.St.swap (hg : E.Good) {j r : Nat} {w : World} (h : E.St j r w) : E.St j (r + 1) ((w.setCell ⟨E.X + 5, 0, none⟩ (.int .i64 ((alt E.s E.t (r + 1)).val : Int))).setCell ⟨E.X + 6, 0, none⟩ (.int .i64 ((alt E.s E.t r).val : Int))) := by
 obtain ⟨h1, D', h2, h3, h4⟩ := h
 have hlt := hg.ws.lt
 have hbig := hg.big
 have hout : Out (fun b => b = E.X + 5 ∨ b = E.X + 6) w ((w.setCell ⟨E.X + 5, 0, none⟩ (.int .i64 ((alt E.s E.t (r + 1)).val : Int))).setCell ⟨E.X + 6, 0, none⟩ (.int .i64 ((alt E.s E.t r).val : Int))) :=
  ⟨rfl, rfl, rfl, by simp [World.setCell], fun b hb hn => by
    rw [heap_setCell', if_neg (fun e => hn (.inr e)), heap_setCell', if_neg (fun e => hn (.inl e))]⟩
 have e5 := h4 (E.X + 5, .cells #[.int .i64 ((alt E.s E.t r).val : Int)] 3 (0, 0)) (by unfold LE.bx; simp)
 have e6 := h4 (E.X + 6, .cells #[.int .i64 ((alt E.s E.t (r + 1)).val : Int)] 3 (0, 0)) (by unfold LE.bx; simp)
 refine ⟨h1, D', h2.out hout (fun x hx => ?_), h3.own hout (fun x hx => by omega), ?_⟩
 · rcases hx with rfl | rfl
   · exact ⟨by omega, e5.2⟩
   · exact ⟨by omega, e6.2⟩
 · intro q hq
   have hold : ∀ q, q ∈ E.bx r false → ¬ (q.1 = E.X + 5 ∨ q.1 = E.X + 6) → ((w.setCell ⟨E.X + 5, 0, none⟩ (.int .i64 ((alt E.s E.t (r + 1)).val : Int))).setCell ⟨E.X + 6, 0, none⟩ (.int .i64 ((alt E.s E.t r).val : Int))).heap[q.1]? = some q.2 ∧ ¬ D'.dom q.1 := fun q hq hn => by
    obtain ⟨a1, a2⟩ := h4 q hq
    exact ⟨(hout.block _ (Array.getElem?_eq_some_iff.1 a1).1 hn).trans a1, a2⟩
   unfold LE.bx at hq
   simp only [List.mem_cons, List.not_mem_nil, or_false] at hq
   rcases hq with rfl | rfl | rfl | rfl | rfl | rfl | rfl
   · exact hold _ (by unfold LE.bx; simp) (by show ¬ (E.X = _ ∨ E.X = _); omega)
   · exact hold _ (by unfold LE.bx; simp) (by show ¬ (E.X + 1 = _ ∨ E.X + 1 = _); omega)
   · exact hold _ (by unfold LE.bx; simp) (by show ¬ (E.X + 2 = _ ∨ E.X + 2 = _); omega)
   · exact hold _ (by unfold LE.bx; simp) (by show ¬ (E.X + 3 = _ ∨ E.X + 3 = _); omega)
   · exact hold _ (by unfold LE.bx; simp) (by show ¬ (E.X + 4 = _ ∨ E.X + 4 = _); omega)
   · refine ⟨?_, e5.2⟩
     show (World.setCell _ _ _).heap[E.X + 5]? = _
     rw [heap_setCell', if_neg (by omega), heap_setCell', if_pos rfl, e5.1]; rfl
   · refine ⟨?_, e6.2⟩
     show (World.setCell _ _ _).heap[E.X + 6]? = _
     rw [heap_setCell', if_pos rfl, heap_setCell', if_neg (by omega), e6.1, alt_swap]; rfl
theorem LE.St.finish (hg : E.Good) {j r : Nat} {w : World} (h : E.St j r w) (res : Bool) : E.End res (w.setCell ⟨E.X + 3, 0, none⟩ (.bool res)) := by
 obtain ⟨h1, D', h2, h3, h4⟩ := h
 have hlt := hg.ws.lt
 have hbig := hg.big
 have hout : Out (fun b => b = E.X + 3) w (w.setCell ⟨E.X + 3, 0, none⟩ (.bool res)) :=
  ⟨rfl, rfl, rfl, by simp [World.setCell], fun b hb hn => by rw [heap_setCell', if_neg hn]⟩
 have e3 := h4 (E.X + 3, .cells #[.bool false] 4 (0, 0)) (by unfold LE.bx; simp)
 refine ⟨D', h2.out hout (fun x hx => ?_), h3.own hout (fun x hx => by omega), ?_⟩
 · subst hx; exact ⟨by omega, e3.2⟩
 · intro q hq
   simp only [List.mem_cons, List.not_mem_nil, or_false] at hq
   subst hq
   refine ⟨?_, e3.2⟩
   show (World.setCell _ _ _).heap[E.X + 3]? = _
   rw [heap_setCell', if_pos rfl, e3.1]; rfl
def encl (E : LE K) (x : Nat × Nat) : Array Value := #[.int .i64 (x.1 : Nat), .agg #[.pointer (some ⟨x.2, 0, none⟩), .int .i64 ((alt E.s E.t x.1).val : Int)]]
theorem corners_say (p : Option Addr) (n c : Nat) (s t : Int) (w : World) :
 Calls Try.prog 67 #[.slice p n c, .int .i64 s, .int .i64 t] w fun e w' => e = .returned (.func (.func 76) #[] #[.pointer (some ⟨w.heap.size, 0, none⟩), .pointer (some ⟨w.heap.size + 1, 0, none⟩), .pointer (some ⟨w.heap.size + 1 + 1, 0, none⟩)]) ∧ w' = ((w.alloc (.cells #[.slice p n c] 67)).alloc (.cells #[.int .i64 s] 3)).alloc (.cells #[.int .i64 t] 3) := by
 go_enter Try.func67, Try.ntmps67
 go_wp2
 exact bodyPost_ret (results_tmp rfl _ _ _) rfl ⟨rfl, rfl⟩
theorem corners_in (hg : E.Good) (n : Nat) (hn : 1 ≤ n) (q : Nat) (w : World) (RR RX Ix : World → Prop) (hlen : E.us.length ≤ 1000)
 (hRR : ∀ A B, KeepsOthers A B → RR A → RR B) (h0 : E.St 0 0 w) (hr : RR w)
 (hY : ∀ (x : Nat × Nat) W1, (x.1 < E.us.length ∧ E.ys[x.1]? = some x.2 ∧ E.St x.1 x.1 W1) → RR W1 → YieldAt Fence.wide (n - 1) Try.prog q (encl E x) W1 fun e W' =>
   (e = .returned (.bool true) ∧ E.St (x.1 + 1) x.1 W' ∧ RR W') ∨ (e = .returned (.bool false) ∧ Ix W' ∧ RX W')) :
 CallsIn Fence.wide n Try.prog 76 (#[.func (.yield q) #[] #[]] ++ #[.pointer (some ⟨E.X + 4, 0, none⟩), .pointer (some ⟨E.X + 5, 0, none⟩), .pointer (some ⟨E.X + 6, 0, none⟩)]) w fun e W' =>
  (∃ v, e = .returned v) ∧ ((E.St E.us.length E.us.length W' ∧ RR W') ∨ (Ix W' ∧ RX W')) := by
 refine callsIn_of_wp Try.func76 rfl trivial ?_ rfl
 simp only [Try.ntmps76, List.size_toArray, List.length_cons, List.length_nil, Nat.reduceAdd, Nat.reduceSub, Array.replicate_succ, Array.replicate_zero, List.push_toArray, List.append_toArray, List.nil_append, List.cons_append]
 have hbs : ∀ (j r : Nat) (w : World), E.St j r w → w.cell? ⟨E.X + 4, 0, none⟩ = some (.slice (some ⟨E.g, 0, none⟩) E.us.length E.cap) ∧ w.cell? ⟨E.X + 5, 0, none⟩ = some (.int .i64 ((alt E.s E.t r).val : Int)) ∧ w.cell? ⟨E.X + 6, 0, none⟩ = some (.int .i64 ((alt E.s E.t (r + 1)).val : Int)) ∧
  w.frozen? ⟨E.X + 5, 0, none⟩ = false ∧ w.frozen? ⟨E.X + 6, 0, none⟩ = false := fun j r w h => by
  obtain ⟨_, D', _, _, h4⟩ := h
  have e4 := (h4 (E.X + 4, .cells #[E.pathv] 67 (0, 0)) (by unfold LE.bx; simp)).1
  have e5 := (h4 (E.X + 5, .cells #[.int .i64 ((alt E.s E.t r).val : Int)] 3 (0, 0)) (by unfold LE.bx; simp)).1
  have e6 := (h4 (E.X + 6, .cells #[.int .i64 ((alt E.s E.t (r + 1)).val : Int)] 3 (0, 0)) (by unfold LE.bx; simp)).1
  exact ⟨by rw [cell_of e4]; rfl, by rw [cell_of e5]; rfl, by rw [cell_of e6]; rfl, free_of e5 0, free_of e6 0⟩
 have HB := Lib.hid hbs
 obtain ⟨c4, _⟩ := hbs _ _ _ h0
 have H0 := Lib.hid h0
 have HR := Lib.hid hr
 have HY := Lib.hid hY
 have HG := Lib.hid hg
 clear h0 hr hY hbs hg
 gi_wp2
 gi_loopw [9] (fun t wr => ∃ k : Nat, t = .int .i64 (k : Nat) ∧ Hid (E.St k k wr ∧ RR wr) ∧ k ≤ E.us.length) (fun t _ => E.us.length - (intOf t).toNat)
 case atStart => exact ⟨0, rfl, Lib.hid ⟨H0.out, HR.out⟩, by omega⟩
 case round =>
  obtain ⟨k, rfl, HK, hk⟩ := hrel
  by_cases hlt : k < E.us.length
  · obtain ⟨y, hy0, c0⟩ := HK.out.1.cell HG.out hlt
    obtain ⟨_, c5, c6, f5, f6⟩ := HB.out _ _ _ HK.out.1
    have k1 : (k : Int) < (E.us.length : Int) := by omega
    have k2 : (0 : Int) ≤ (k : Int) := by omega
    obtain ⟨fn, tmps, assign, body, hy, hR⟩ := HY.out (k, y) wr ⟨hlt, hy0, HK.out.1⟩ HK.out.2
    dsimp only [encl] at hy
    gi_wp2_with fail
    refine hR.mono ?_
    rintro e w3 (⟨rfl, hst3, hr3⟩ | ⟨rfl, hix, hrx⟩)
    · have HS3 := Lib.hid hst3
      have HR3 := Hi (hRR _ _ ((KeepsOthers.setCell w3 ⟨E.X + 5, 0, none⟩ (.int .i64 ((alt E.s E.t (k + 1)).val : Int))).trans (KeepsOthers.setCell _ ⟨E.X + 6, 0, none⟩ (.int .i64 ((alt E.s E.t k).val : Int)))) hr3)
      have HSW := Hi (hst3.swap HG.out)
      obtain ⟨_, d5, d6, g5, g6⟩ := HB.out _ _ _ hst3
      have hfar : (w3.setCell ⟨E.X + 5, 0, none⟩ (.int .i64 ((alt E.s E.t (k + 1)).val : Int))).heap[E.X + 6]? = some (.cells #[.int .i64 ((alt E.s E.t (k + 1)).val : Int)] 3 (0, 0)) := by
       obtain ⟨_, D', _, _, h4⟩ := HS3.out
       rw [heap_setCell', if_neg (by omega)]
       exact (h4 (E.X + 6, .cells #[.int .i64 ((alt E.s E.t (k + 1)).val : Int)] 3 (0, 0)) (by unfold LE.bx; simp)).1
      have d6' : (w3.setCell ⟨E.X + 5, 0, none⟩ (.int .i64 ((alt E.s E.t (k + 1)).val : Int))).cell? ⟨E.X + 6, 0, none⟩ = some (.int .i64 ((alt E.s E.t (k + 1)).val : Int)) := by rw [cell_of hfar]; rfl
      have g6' := free_of hfar 0
      clear hfar
      clear hst3 hr3 hy hR
      gi_wp2_with fail
      go_roundw
      case rel => exact ⟨k + 1, by go_num, Lib.hid ⟨HSW.out, HR3.out⟩, by omega⟩
      case measure => simp [intOf]; omega
    · have HI := Lib.hid hix
      have HX := Lib.hid hrx
      clear hix hrx hy hR
      gi_wp2_with fail
      exact bodyPost_ret (results_none rfl _ _ _) rfl ⟨⟨_, rfl⟩, .inr ⟨HI.out, HX.out⟩⟩
  · have hke : k = E.us.length := by omega
    subst hke
    have k1 : ¬ (E.us.length : Int) < (E.us.length : Int) := by omega
    gi_wp2_with fail
    exact bodyPost_end (results_none rfl _ _ _) rfl ⟨⟨_, rfl⟩, .inl ⟨HK.out.1, HK.out.2⟩⟩
end
end Go.Proofs.Ytkndmibmmoikbaa
namespace Go.Proofs.Ytkndmibmmoikbaa
open Go.RowKit
open Cox (Tl)
attribute [local go_sem] Oper.semAt_some
section
variable {K : Type} [Cox.OR K] {E : LE K}
theorem str_old (W : World) (o' : Obj) {b : Nat} {o : Obj} (h : W.heap[b]? = some o) : (W.alloc o').heap[b]? = some o := by
 rw [Below.heap_alloc _ _ _ (Array.getElem?_eq_some_iff.1 h).1]; exact h
def LE.Post (E : LE K) (e : Ending) (w' : World) : Prop := ∃ bb : Bool, e = .returned (.bool bb) ∧ (bb = true ↔ E.Leads) ∧ ∃ D', E.WS w' D' ∧ TExt E.w0 E.D0 w' D'
theorem neqw {W : Cox.Tri K} {a b c : Int} {p F : Nat} {w : World} {D : Dict} (td : TD W a b c p F w D) {u v : List (Fin 3)} {x y : Nat} (hx : D u x) (hy : D v y) :
 (binOp .neq 69 (.pointer (some ⟨x, 0, none⟩)) (.pointer (some ⟨y, 0, none⟩))).run Try.prog w = .ok (.bool (decide (u ≠ v))) w := by
 by_cases h : u = v
 · subst h
   have : x = y := td.addr_inj hx hy
   subst this
   rw [decide_eq_false (by simp)]
   exact neq_same _ _
 · obtain ⟨cx, hcx⟩ := td.cells hx
   obtain ⟨cy, hcy⟩ := td.cells hy
   rw [decide_eq_true h]
   refine neq_other _ (fun e => h ?_) hcx hcy
   subst e
   exact td.word_inj hx hy
theorem LE.St.step (hg : E.Good) {k r : Nat} {w : World} (h : E.St k r w) {y : Nat} (hk : k < E.us.length) (hy : E.ys[k]? = some y) {n : Nat} :
 CallsIn Fence.wide n Try.prog 51 #[.pointer (some ⟨E.Wk, 0, none⟩), .pointer (some ⟨y, 0, none⟩), .int .i64 ((alt E.s E.t k).val : Int)] w fun e w2 => ∃ y', e = .returned (.pointer (some ⟨y', 0, none⟩)) ∧ E.St k r w2 ∧ KeepsOthers w w2 ∧
  ((binOp .neq 69 (.pointer (some ⟨y', 0, none⟩)) (.pointer (some ⟨E.ys.getD (k + 1) E.lasty, 0, none⟩))).run Try.prog w2 = .ok (.bool (@decide (¬ E.okAt k) (Classical.propDecidable _))) w2) := by
 refine callsIn_wide.2 ?_
 obtain ⟨h1, D', h2, h3, h4⟩ := h
 obtain ⟨hky, hyy⟩ := List.getElem?_eq_some_iff.1 hy
 have hat := h3.more _ _ (hg.at_ k hk hky)
 rw [hyy] at hat
 refine (step_any hg.ords h2 hat (hg.short k hk) (alt E.s E.t k)).mono ?_
 rintro e w2 ⟨D2, y', rfl, hd, hw, hx⟩
 have hx2 := h3.trans hx
 have hget : E.us.getD k [] = E.us[k] := by rw [List.getD_eq_getElem?_getD, List.getElem?_eq_getElem hk]; rfl
 refine ⟨y', rfl, ⟨h1, D2, hw, hx2, h4.ext hx⟩, ⟨hx.out.size, fun q o hq ho => ?_⟩, ?_⟩
 · rw [hx.out.block q (Array.getElem?_eq_some_iff.1 hq).1 (h2.dom_cells hq ho)]; exact hq
 · have hn : E.D0 (E.us.getD (k + 1) E.lastw) (E.ys.getD (k + 1) E.lasty) := by
    by_cases hl : k + 1 < E.us.length
    · have hl' : k + 1 < E.ys.length := by rw [hg.len]; exact hl
      rw [List.getD_eq_getElem?_getD, List.getElem?_eq_getElem hl, List.getD_eq_getElem?_getD, List.getElem?_eq_getElem hl']
      exact hg.at_ _ hl hl'
    · rw [List.getD_eq_getElem?_getD, List.getElem?_eq_none (by omega), List.getD_eq_getElem?_getD, List.getElem?_eq_none (by rw [hg.len]; omega)]
      exact hg.last
   have := neqw hw.lst.td hd (hx2.more _ _ hn)
   rw [this]
   have e1 : (decide (mv E.W E.gs E.us[k] (alt E.s E.t k) ≠ E.us.getD (k + 1) E.lastw)) = @decide (¬ E.okAt k) (Classical.propDecidable _) := by
    rw [Bool.eq_iff_iff]
    simp only [decide_eq_true_eq]
    unfold LE.okAt
    rw [hget]
   rw [e1]
theorem leads_any (hg : E.Good) (hlen : E.us.length ≤ 1000) :
 Calls Try.prog 52 #[.pointer (some ⟨E.Wk, 0, none⟩), E.pathv, .int .i64 (E.s.val : Int), .int .i64 (E.t.val : Int), .pointer (some ⟨E.lasty, 0, none⟩)] E.w0 E.Post := by
 refine (callsIn_wide (n := 5)).1 ?_
 have HG := Lib.hid hg
 have hX := hg.big
 have hpv : E.pathv = .slice (some ⟨E.g, 0, none⟩) E.us.length E.cap := rfl
 have hst0 : ∀ w8, w8 = ((((((E.w0.alloc (.cells #[.pointer (some ⟨E.Wk, 0, none⟩)] 62)).alloc (.cells #[.slice (some ⟨E.g, 0, none⟩) E.us.length E.cap] 67)).alloc (.cells #[.pointer (some ⟨E.lasty, 0, none⟩)] 69)).alloc (.cells #[.bool false] 4)).alloc (.cells #[.slice (some ⟨E.g, 0, none⟩) E.us.length E.cap] 67)).alloc (.cells #[.int .i64 (E.s.val : Int)] 3)).alloc (.cells #[.int .i64 (E.t.val : Int)] 3) → E.St 0 0 w8 ∧ w8.heap.size = E.X + 7 := by
  rintro w8 rfl
  have hb : Below E.w0.heap.size E.w0 (((((((E.w0.alloc (.cells #[.pointer (some ⟨E.Wk, 0, none⟩)] 62)).alloc (.cells #[.slice (some ⟨E.g, 0, none⟩) E.us.length E.cap] 67)).alloc (.cells #[.pointer (some ⟨E.lasty, 0, none⟩)] 69)).alloc (.cells #[.bool false] 4)).alloc (.cells #[.slice (some ⟨E.g, 0, none⟩) E.us.length E.cap] 67)).alloc (.cells #[.int .i64 (E.s.val : Int)] 3)).alloc (.cells #[.int .i64 (E.t.val : Int)] 3)) :=
   (((((((Below.refl _ _).alloc (Nat.le_refl _) _).alloc (by simp) _).alloc (by simp; omega) _).alloc (by simp; omega) _).alloc (by simp; omega) _).alloc (by simp; omega) _).alloc (by simp; omega) _
  have hdom : ∀ q, E.X ≤ q → ¬ E.D0.dom q := by
   rintro q hq ⟨u, hu⟩
   have := hg.ws.lst.td.lt hu; omega
  refine ⟨⟨fun i hi => by omega, E.D0, hg.ws.below hb, (TExt.refl _ _).stay (Out.of_below hb), ?_⟩, by simp; omega⟩
  intro q hq
  unfold LE.bx at hq
  simp only [List.mem_cons, List.not_mem_nil, or_false] at hq
  rcases hq with rfl | rfl | rfl | rfl | rfl | rfl | rfl
  · exact ⟨str_old _ _ (str_old _ _ (str_old _ _ (str_old _ _ (str_old _ _ (str_old _ _ (str_new _ _ _ _ (by show E.X = _; omega))))))), hdom _ (by show E.X ≤ E.X; omega)⟩
  · exact ⟨str_old _ _ (str_old _ _ (str_old _ _ (str_old _ _ (str_old _ _ (str_new _ _ _ _ (by show E.X + 1 = _; simp; omega)))))), hdom _ (by show E.X ≤ E.X + 1; omega)⟩
  · exact ⟨str_old _ _ (str_old _ _ (str_old _ _ (str_old _ _ (str_new _ _ _ _ (by show E.X + 2 = _; simp; omega))))), hdom _ (by show E.X ≤ E.X + 2; omega)⟩
  · exact ⟨str_old _ _ (str_old _ _ (str_old _ _ (str_new _ _ _ _ (by show E.X + 3 = _; simp; omega)))), hdom _ (by show E.X ≤ E.X + 3; omega)⟩
  · exact ⟨str_old _ _ (str_old _ _ (str_new _ _ _ _ (by show E.X + 4 = _; simp; omega))), hdom _ (by show E.X ≤ E.X + 4; omega)⟩
  · exact ⟨str_old _ _ (str_new _ _ _ _ (by show E.X + 5 = _; simp; omega)), hdom _ (by show E.X ≤ E.X + 5; omega)⟩
  · exact ⟨str_new _ _ _ _ (by show E.X + 6 = _; simp; omega), hdom _ (by show E.X ≤ E.X + 6; omega)⟩
 have H0 := Lib.hid hst0
 have HX := Lib.hid hX
 clear hst0 hg
 rw [hpv]
 obtain ⟨Q, hQ⟩ : ∃ Q, Q = E.Post := ⟨_, rfl⟩
 rw [← hQ]
 have HQ := Lib.hid hQ
 clear hQ hpv
 refine callsIn_of_wp_marks Try.func52 rfl trivial ?_ rfl
 simp only [Try.ntmps52, List.size_toArray, List.length_cons, List.length_nil, Nat.reduceAdd, Nat.reduceSub, Array.replicate_succ, Array.replicate_zero, List.push_toArray, List.append_toArray, List.nil_append, List.cons_append]
 clear hX
 gi_wp2_with fail
 refine ⟨trivial, ?_⟩
 gi_at_call 67
 refine (callsIn_wide.2 (corners_say _ _ _ _ _ _)).mono ?_
 rintro e wq ⟨rfl, rfl⟩
 gi_wp2_with fail
 obtain ⟨hs8, hl8⟩ := H0.out _ rfl
 have hX2 : E.w0.heap.size = E.X := HX.out
 simp only [hX2, Nat.add_assoc, Nat.reduceAdd]
 rw [hX2] at *
 generalize ((((((E.w0.alloc (.cells #[.pointer (some ⟨E.Wk, 0, none⟩)] 62)).alloc (.cells #[.slice (some ⟨E.g, 0, none⟩) E.us.length E.cap] 67)).alloc (.cells #[.pointer (some ⟨E.lasty, 0, none⟩)] 69)).alloc (.cells #[.bool false] 4)).alloc (.cells #[.slice (some ⟨E.g, 0, none⟩) E.us.length E.cap] 67)).alloc (.cells #[.int .i64 (E.s.val : Int)] 3)).alloc (.cells #[.int .i64 (E.t.val : Int)] 3) = w8 at *
 have H8 := Lib.hid hs8
 clear hs8 H0 hX2
 have fin : ∀ {D : Nat} {Wz : World} {tmps : Array Value} {bb : Bool}, E.End bb Wz → (bb = true ↔ E.Leads) → Wz.heap[D]? = some (.deferred (some [])) → E.X ≤ D → tmps[10]? = some (.pointer (some ⟨E.X + 3, 0, none⟩)) →
  LeavesInM Fence.wide 5 Try.prog Try.f52 tmps Q [{ target := .collected D, args := #[] }] .returning Wz := by
  intro D Wz tmps bb hf hb hK hD ht
  refine ⟨by simp, .inl ⟨_, _, rfl, run_takeDeferred hK, ?_⟩⟩
  obtain ⟨D', g1, g2, g3⟩ := hf.put HG.out hK rfl hD (.deferred none)
  have c3 := cell_of (g3 _ (List.mem_singleton.2 rfl)).1 0
  simp at c3
  have HP : Q (.returned (.bool bb)) (Wz.putObj D (.deferred none)) := by
   rw [HQ.out]; exact ⟨bb, rfl, hb, D', g1, g2⟩
  simp [LeavesInM, LeavesIn, settle, results, Try.results52, go_sem, ht, c3, HP]
 refine range_iter (X := Nat × Nat) (gf := 76) (lb := #[.pointer (some ⟨E.X + 4, 0, none⟩), .pointer (some ⟨E.X + 5, 0, none⟩), .pointer (some ⟨E.X + 6, 0, none⟩)]) rfl (by omega) rfl trivial (fun args w => by kernel_rfl)
  (encl E) (fun x => rfl) (fun x W => x.1 < E.us.length ∧ E.ys[x.1]? = some x.2 ∧ E.St x.1 x.1 W) (fun x W => E.St (x.1 + 1) x.1 W) (fun W => E.St 0 0 W)
  (fun W => E.St E.us.length E.us.length W) (fun W => ¬ E.Leads ∧ E.End false W)
  ?i ?idd ?ix ?start
  (fun x a₁ W => (x.1 < E.us.length ∧ E.ys[x.1]? = some x.2 ∧ E.St x.1 x.1 W) ∧ ∃ b12, W.heap[b12]? = some (.cells #[.pointer (some ⟨x.2, 0, none⟩), .int .i64 ((alt E.s E.t x.1).val : Int)] 71 (0, 0)) ∧ a₁ = (⟨
      #[Value.pointer (some { block := E.Wk, off := 0 }),
       Value.slice (some { block := E.g, off := 0 }) E.us.length E.cap, Value.int IntKind.i64 (E.s.val : Int),
       Value.int IntKind.i64 (E.t.val : Int), Value.pointer (some { block := E.lasty, off := 0 }),
       Value.pointer (some { block := E.X, off := 0 }),
       Value.pointer (some { block := E.X + 1, off := 0 }), undef, undef,
       Value.pointer (some { block := E.X + 2, off := 0 }),
       Value.pointer (some { block := E.X + 3, off := 0 }), .int .i64 (x.1 : Nat), .pointer (some ⟨b12, 0, none⟩), undef,
       Value.slice (some { block := E.g, off := 0 }) E.us.length E.cap, Value.int IntKind.i64 (E.s.val : Int),
       Value.int IntKind.i64 (E.t.val : Int),
       Value.func (Fn.func 76) #[]
        #[Value.pointer (some { block := E.X + 4, off := 0 }),
         Value.pointer (some { block := E.X + 5, off := 0 }),
         Value.pointer (some { block := E.X + 6, off := 0 })],
       .int .i64 (x.1 : Nat), .agg #[.pointer (some ⟨x.2, 0, none⟩), .int .i64 ((alt E.s E.t x.1).val : Int)], undef, undef, undef, undef, undef, undef, undef, undef, undef, undef, undef, undef, undef,
       undef, undef, undef, undef, undef, undef], []⟩ : Act)) ?ia ?assign ?body ?iter ?done ?stop
 case i =>
  rintro x W m o' hm ⟨r, hr⟩ h2
  exact h2.put HG.out hr rfl (by omega) o'
 case idd =>
  rintro W m o' hm ⟨r, hr⟩ h2
  exact h2.put HG.out hr rfl (by omega) o'
 case ix =>
  rintro W m o' hm ⟨r, hr⟩ ⟨h1, h2⟩
  exact ⟨h1, h2.put HG.out hr rfl (by omega) o'⟩
 case start =>
  intro r
  exact H8.out.below HG.out (((Below.refl _ _).alloc (Nat.le_refl _) _).alloc (by simp) _)
 case ia =>
  rintro x a₁ W m o' hm ⟨r, hr⟩ ⟨⟨h1, h2, h3⟩, b12, h4, h5⟩
  refine ⟨⟨h1, h2, h3.put HG.out hr rfl (by omega) o'⟩, b12, ?_, h5⟩
  rw [World.putObj_heap_other (by rintro rfl; rw [hr] at h4; cases h4)]
  exact h4
 case iter =>
  intro m W RR RX hRR hRX h0 hr hm hl hY
  exact corners_in HG.out _ (by omega) m W RR RX _ hlen hRR h0 hr hY
 case assign =>
  rintro m x W KK ⟨h1, h2, h3⟩ hK
  have HK := Hi (hK (⟨
   #[Value.pointer (some { block := E.Wk, off := 0 }),
    Value.slice (some { block := E.g, off := 0 }) E.us.length E.cap, Value.int IntKind.i64 (E.s.val : Int),
    Value.int IntKind.i64 (E.t.val : Int), Value.pointer (some { block := E.lasty, off := 0 }),
    Value.pointer (some { block := E.X, off := 0 }),
    Value.pointer (some { block := E.X + 1, off := 0 }), undef, undef,
    Value.pointer (some { block := E.X + 2, off := 0 }),
    Value.pointer (some { block := E.X + 3, off := 0 }), .int .i64 (x.1 : Nat), .pointer (some ⟨W.heap.size, 0, none⟩), undef,
    Value.slice (some { block := E.g, off := 0 }) E.us.length E.cap, Value.int IntKind.i64 (E.s.val : Int),
    Value.int IntKind.i64 (E.t.val : Int),
    Value.func (Fn.func 76) #[]
     #[Value.pointer (some { block := E.X + 4, off := 0 }),
      Value.pointer (some { block := E.X + 5, off := 0 }),
      Value.pointer (some { block := E.X + 6, off := 0 })],
    .int .i64 (x.1 : Nat), .agg #[.pointer (some ⟨x.2, 0, none⟩), .int .i64 ((alt E.s E.t x.1).val : Int)], undef, undef, undef, undef, undef, undef, undef, undef, undef, undef, undef, undef, undef,
    undef, undef, undef, undef, undef, undef], []⟩ : Act) (W.alloc (.cells #[.pointer (some ⟨x.2, 0, none⟩), .int .i64 ((alt E.s E.t x.1).val : Int)] 71)) (KeepsOthers.alloc _ _) ⟨⟨h1, h2, h3.below HG.out ((Below.refl _ _).alloc (Nat.le_refl _) _)⟩, W.heap.size, str_new _ _ _ _ rfl, rfl⟩)
  clear hK h3 fin
  dsimp only [encl]
  gi_wp2_with (rw [Oper.semAt_eq _ _ _ (fun c h => by cases h)]; go_simp; try go_bits)
  exact HK.out
 case body =>
  rintro m x a₁ W ⟨⟨h1, h2, h3⟩, b12, h4, rfl⟩
  clear fin
  have hnoall : ¬ E.okAt x.1 → ¬ E.Leads := fun h1' h2' => h1' (h2' _ h1)
  have HNA := Lib.hid hnoall
  have hbx := h3.2
  obtain ⟨D', _, _, hb⟩ := hbx
  have c0 : W.cell? ⟨E.X, 0, none⟩ = some (.pointer (some ⟨E.Wk, 0, none⟩)) := by rw [cell_of (hb (E.X, .cells #[.pointer (some ⟨E.Wk, 0, none⟩)] 62 (0, 0)) (by unfold LE.bx; simp)).1]; rfl
  have c1 : W.cell? ⟨E.X + 1, 0, none⟩ = some (.slice (some ⟨E.g, 0, none⟩) E.us.length E.cap) := by rw [cell_of (hb (E.X + 1, .cells #[E.pathv] 67 (0, 0)) (by unfold LE.bx; simp)).1]; rfl
  have c2 : W.cell? ⟨E.X + 2, 0, none⟩ = some (.pointer (some ⟨E.lasty, 0, none⟩)) := by rw [cell_of (hb (E.X + 2, .cells #[.pointer (some ⟨E.lasty, 0, none⟩)] 69 (0, 0)) (by unfold LE.bx; simp)).1]; rfl
  have p0 : W.cell? ⟨b12, 0, none⟩ = some (.pointer (some ⟨x.2, 0, none⟩)) := by rw [cell_of h4]; rfl
  have p1 : W.cell? ⟨b12, 1, none⟩ = some (.int .i64 ((alt E.s E.t x.1).val : Int)) := by rw [cell_of h4]; rfl
  have hw8 : x.1 < E.us.length := h1
  obtain ⟨yn, hyn, hstep⟩ : ∃ yn, yn = E.ys.getD (x.1 + 1) E.lasty ∧ CallsIn Fence.wide 2 Try.prog 51 #[.pointer (some ⟨E.Wk, 0, none⟩), .pointer (some ⟨x.2, 0, none⟩), .int .i64 ((alt E.s E.t x.1).val : Int)] W fun e w2 => ∃ y', e = .returned (.pointer (some ⟨y', 0, none⟩)) ∧ E.St x.1 x.1 w2 ∧ KeepsOthers W w2 ∧
   ((binOp .neq 69 (.pointer (some ⟨y', 0, none⟩)) (.pointer (some ⟨yn, 0, none⟩))).run Try.prog w2 = .ok (.bool (@decide (¬ E.okAt x.1) (Classical.propDecidable _))) w2) := ⟨_, rfl, h3.step HG.out h1 h2⟩
  have hcl : ∀ w2, E.St x.1 x.1 w2 → w2.cell? ⟨E.X + 3, 0, none⟩ = some (.bool false) ∧ w2.frozen? ⟨E.X + 3, 0, none⟩ = false := by
   rintro w2 ⟨_, D2, _, _, hb2⟩
   have := (hb2 (E.X + 3, .cells #[.bool false] 4 (0, 0)) (by unfold LE.bx; simp)).1
   exact ⟨by rw [cell_of this]; rfl, free_of this 0⟩
  have HCL := Lib.hid hcl
  have HST := Lib.hid hstep
  have HYN := Lib.hid hyn
  have H3 := Lib.hid h3
  have hn1 : (x.1 : Int) < (E.us.length : Int) := by omega
  clear hb hnoall h4 hcl hstep hyn hl8
  obtain ⟨bok, hbok⟩ : ∃ bok : Bool, bok = @decide (¬ E.okAt x.1) (Classical.propDecidable _) := ⟨_, rfl⟩
  have HBO : Hid ((bok = true → ¬ E.okAt x.1) ∧ (bok = false → E.okAt x.1)) := Hi (by
   rw [hbok]
   constructor
   · intro h; exact @of_decide_eq_true _ (Classical.propDecidable _) h
   · intro h; exact Classical.not_not.1 (@of_decide_eq_false _ (Classical.propDecidable _) h))
  rw [← hbok] at HST
  have h3 := H3.out
  have hfin : ∀ w2 (hst : E.St x.1 x.1 w2), E.okAt x.1 → E.St (x.1 + 1) x.1 w2 := fun w2 hst hok =>
   ⟨fun i hi => by
     by_cases e : i = x.1
     · rw [e]; exact hok
     · exact hst.1 i (by omega), hst.2⟩
  have HFI := Lib.hid hfin
  clear hbok h3 hfin
  by_cases hl : x.1 + 1 < E.us.length
  · obtain ⟨y2, hy2, hc2⟩ := H3.out.cell HG.out hl
    have hyn2 : yn = y2 := by rw [HYN.out, List.getD_eq_getElem?_getD, hy2]; rfl
    subst hyn2
    have k1 : (x.1 : Int) + 1 < (E.us.length : Int) := by omega
    have k2 : (0 : Int) ≤ (x.1 : Int) + 1 := by omega
    have k3 : ((x.1 : Int) + 1).toNat = x.1 + 1 := by omega
    clear hy2
    gi_wp2_with (rw [Oper.semAt_eq _ _ _ (fun c h => by cases h)]; go_simp; try go_bits)
    refine ⟨trivial, ?_⟩
    gi_at_call 51
    refine (CallsIn.inRound m HST.out).mono ?_
    rintro e w2 ⟨y', rfl, hst, hko, hneq⟩
    have HS2 := Hi (And.intro hst hko)
    obtain ⟨e3, f3⟩ := HCL.out _ hst
    clear hst hko
    cases bok with
    | true =>
     have HF2 := Hi (HS2.out.1.finish HG.out false)
     gi_wp2_with (rw [Oper.semAt_eq _ _ _ (fun c h => by cases h)]; go_simp; try go_bits)
     exact ⟨HS2.out.2.trans (KeepsOthers.setCell _ _ _), HNA.out (HBO.out.1 trivial), HF2.out⟩
    | false =>
     gi_wp2_with (rw [Oper.semAt_eq _ _ _ (fun c h => by cases h)]; go_simp; try go_bits)
     exact ⟨HS2.out.2, HFI.out _ HS2.out.1 (HBO.out.2 trivial)⟩
  · have hyn2 : yn = E.lasty := by rw [HYN.out, List.getD_eq_getElem?_getD, List.getElem?_eq_none (by rw [HG.out.len]; omega)]; rfl
    subst hyn2
    have k1 : ¬ (x.1 : Int) + 1 < (E.us.length : Int) := by omega
    gi_wp2_with (rw [Oper.semAt_eq _ _ _ (fun c h => by cases h)]; go_simp; try go_bits)
    refine ⟨trivial, ?_⟩
    gi_at_call 51
    refine (CallsIn.inRound m HST.out).mono ?_
    rintro e w2 ⟨y', rfl, hst, hko, hneq⟩
    have HS2 := Hi (And.intro hst hko)
    obtain ⟨e3, f3⟩ := HCL.out _ hst
    clear hst hko
    cases bok with
    | true =>
     have HF2 := Hi (HS2.out.1.finish HG.out false)
     gi_wp2_with (rw [Oper.semAt_eq _ _ _ (fun c h => by cases h)]; go_simp; try go_bits)
     exact ⟨HS2.out.2.trans (KeepsOthers.setCell _ _ _), HNA.out (HBO.out.1 trivial), HF2.out⟩
    | false =>
     gi_wp2_with (rw [Oper.semAt_eq _ _ _ (fun c h => by cases h)]; go_simp; try go_bits)
     exact ⟨HS2.out.2, HFI.out _ HS2.out.1 (HBO.out.2 trivial)⟩
 case done =>
  rintro D W hD hr hK
  have hbx := hr.2
  obtain ⟨D', _, _, hb⟩ := hbx
  have e3 := (hb (E.X + 3, .cells #[.bool false] 4 (0, 0)) (by unfold LE.bx; simp)).1
  have c3 : W.cell? ⟨E.X + 3, 0, none⟩ = some (.bool false) := by rw [cell_of e3]; rfl
  have f3 := free_of e3 0
  have HK : Hid ((W.setCell ⟨E.X + 3, 0, none⟩ (.bool true)).heap[D]? = some (.deferred (some []))) := Hi (by
   rw [heap_setCell', if_neg (by rintro rfl; rw [e3] at hK; cases hK)]; exact hK)
  have HE := Hi (hr.finish HG.out true)
  have HL : Hid E.Leads := Hi (fun k hk => hr.1 k hk)
  clear hb hr hK e3
  gi_wp2
  exact fin HE.out ⟨fun _ => HL.out, fun _ => rfl⟩ HK.out (by omega) rfl
 case stop =>
  rintro D W hD ⟨hr1, hr2⟩ hK
  gi_wp2
  exact fin hr2 ⟨fun h => (by cases h), fun h => (hr1 h).elim⟩ hK (by omega) rfl
end
end Go.Proofs.Ytkndmibmmoikbaa
namespace Go.Proofs.Ytkndmibmmoikbaa
open Go.RowKit
open Cox (Tl)
structure CycD where
 tiles : List ByteArray
 i : Int
 j : Int
 rounds : Int
 mir : Bool
section
variable {K : Type} [Cox.OR K] (W : Cox.Tri K)
def CycD.head (n : Nat) (c : CycD) : Prop := isMir c.i ∧ isMir c.j ∧ c.i < c.j ∧ 0 < c.tiles.length ∧ c.tiles.length ≤ n
def CycD.words (ws : List (List (Fin 3))) (c : CycD) : Prop := (∀ s, s ∈ c.tiles → cw s = 0) ∧ (∀ u, u ∈ tws W c.tiles → u ∈ ws) ∧ (tws W c.tiles).Nodup
def leadsP (gs : List (EdgeW × List (Fin 3))) (us : List (List (Fin 3))) (s t : Fin 3) (last : List (Fin 3)) : Prop := ∀ k, k < us.length → mv W gs (us.getD k []) (alt s t k) = us.getD (k + 1) last
def ordz (a b c i j : Int) : Int := if i + j = 1 then a else if i + j = 3 then b else c
def onceP (gs : List (EdgeW × List (Fin 3))) (us : List (List (Fin 3))) (s t : Fin 3) : Prop := mv W gs (us.getD 0 []) t = us.getD 0 [] ∧ leadsP W gs us s t (us.getD (us.length - 1) [])
def ringP (gs : List (EdgeW × List (Fin 3))) (us : List (List (Fin 3))) (s t : Fin 3) (mir : Bool) : Prop :=
 if mir = true then onceP W gs us s t ∨ onceP W gs us t s else us.length % 2 = 0 ∧ leadsP W gs us s t (us.getD 0 [])
def timesP (n : Nat) (m r : Int) : Prop := 0 ≤ r ∧ r ≤ m ∧ r * n = m
def CycOk (a b c : Int) (ws : List (List (Fin 3))) (gs : List (EdgeW × List (Fin 3))) (y : CycD) : Prop :=
 y.head ws.length ∧ y.words W ws ∧ ringP W gs (tws W y.tiles) (mf y.i) (mf y.j) y.mir ∧ timesP y.tiles.length (ordz a b c y.i y.j * (if y.mir = true then 1 else 2)) y.rounds
def RightPost (B : Nat) (a b c : Int) (L p F M MP Wk : Nat) (w : World) (D : Dict) (ws : List (List (Fin 3))) (xs : List Nat) (rv wv pv : Value) (gs : List (EdgeW × List (Fin 3))) (A : List (Fin 3) → Nat) (y : CycD) (e : Ending) (w' : World) : Prop :=
 (¬ CycOk W a b c ws gs y ∧ e = .panicked (refusal 20) ∧ Below B w w') ∨
 (CycOk W a b c ws gs y ∧ ∃ (D' : Dict) (ys : List Nat) (g cap : Nat), e = .returned (.slice (some ⟨g, 0, none⟩) y.tiles.length cap) ∧ WSt W B a b c L p F M MP Wk w' D' ws xs rv wv pv gs A ∧ TExt w D w' D' ∧
   w'.ownsRow w.heap.size 69 1 (.slice (some ⟨g, 0, none⟩) y.tiles.length cap) y.tiles.length (ys.map pval) ∧ ys.length = y.tiles.length ∧ ¬ D'.dom g ∧ (∀ i (h : i < (tws W y.tiles).length) (h' : i < ys.length), D' (tws W y.tiles)[i] ys[i]))
def cval (pt : Option Addr) (ct : Nat) (y : CycD) : Value := .agg #[.slice pt y.tiles.length ct, .int .i64 y.i, .int .i64 y.j, .int .i64 y.rounds, .bool y.mir]
structure RtSt (B : Nat) (a b c : Int) (L p F M MP Wk : Nat) (w : World) (D : Dict) (ws : List (List (Fin 3))) (xs : List Nat) (rv wv pv : Value) (gs : List (EdgeW × List (Fin 3))) (A : List (Fin 3) → Nat) (y : CycD) (o : Obj) (k : Nat) (D' : Dict) (tv : Value) (ys : List Nat) (wr : World) : Prop where
 ws_ : WSt W B a b c L p F M MP Wk wr D' ws xs rv wv pv gs A
 ext : TExt w D wr D'
 q : QSt w.heap.size wr D' (w.heap.size + 1) tv ((tws W y.tiles).take k) ys
 box : wr.heap[w.heap.size]? = some o
 boxs : ¬ D'.dom w.heap.size ∧ tv.ownBlock ≠ some w.heap.size
 good : ∀ s, s ∈ y.tiles.take k → cw s = 0
 inn : ∀ u, u ∈ (tws W y.tiles).take k → u ∈ ws
variable {W}
variable {B : Nat} {a b c : Int} {L p F M MP Wk : Nat} {w : World} {D : Dict} {ws : List (List (Fin 3))} {xs : List Nat} {rv wv pv : Value} {gs : List (EdgeW × List (Fin 3))} {A : List (Fin 3) → Nat} {y : CycD} {o : Obj} {k : Nat} {D' : Dict} {tv : Value} {ys : List Nat} {wr : World}
theorem RtSt.step (h : RtSt W B a b c L p F M MP Wk w D ws xs rv wv pv gs A y o k D' tv ys wr) {w2 : World} {D2 : Dict} (g : WSt W B a b c L p F M MP Wk w2 D2 ws xs rv wv pv gs A) (hx : TExt wr D' w2 D2) : RtSt W B a b c L p F M MP Wk w D ws xs rv wv pv gs A y o k D2 tv ys w2 where
 ws_ := g
 ext := h.ext.trans hx
 q := h.q.ext hx
 box := (hx.keep (Array.getElem?_eq_some_iff.1 h.box).1 h.boxs.1).1.trans h.box
 boxs := ⟨(hx.keep (Array.getElem?_eq_some_iff.1 h.box).1 h.boxs.1).2, h.boxs.2⟩
 good := h.good
 inn := h.inn
theorem RtSt.below (h : RtSt W B a b c L p F M MP Wk w D ws xs rv wv pv gs A y o k D' tv ys wr) {w2 : World} (hb : Below wr.heap.size wr w2) : RtSt W B a b c L p F M MP Wk w D ws xs rv wv pv gs A y o k D' tv ys w2 :=
 h.step (h.ws_.below hb) ((TExt.refl _ _).stay (Out.of_below hb))
theorem RtSt.all (h : RtSt W B a b c L p F M MP Wk w D ws xs rv wv pv gs A y o k D' tv ys wr) (hB : B ≤ w.heap.size) : Below B w wr :=
 h.ext.out.below (fun x hx => by
  have := h.ws_.lst.lo.2.2.2 x
  rcases hx with ⟨u, hu⟩
  exact this ⟨u, h.ext.more u x hu⟩) hB
theorem tws_length (W : Cox.Tri K) (l : List ByteArray) : (tws W l).length = l.length := by unfold tws; simp
theorem RtSt.ylen (h : RtSt W B a b c L p F M MP Wk w D ws xs rv wv pv gs A y o k D' tv ys wr) (hk : k ≤ y.tiles.length) : ys.length = k := by
 rw [h.q.len, List.length_take, tws_length, Nat.min_eq_left hk]
end
end Go.Proofs.Ytkndmibmmoikbaa
