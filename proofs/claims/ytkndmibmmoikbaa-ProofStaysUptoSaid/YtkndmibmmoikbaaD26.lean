/- Chapter 10: Pr1 Pr2 Pr3a. -/
import Derived.Test.YtkndmibmmoikbaaD24
import Derived.Test.YtkndmibmmoikbaaD25
set_option linter.all false
set_option maxRecDepth 100000
set_option maxHeartbeats 16000000
namespace Go.Proofs.Ytkndmibmmoikbaa
open Go.RowKit
open Cox (Tl)
section
variable {K : Type} [Cox.OR K] {W : Cox.Tri K}
variable {B : Nat} {a b c : Int} {L p F M MP Wk : Nat} {w : World} {D : Dict} {ws : List (List (Fin 3))} {xs : List Nat} {rv wv pv : Value} {gs : List (EdgeW × List (Fin 3))} {A : List (Fin 3) → Nat} {y : CycD}
theorem cyc_box (w : World) (S : List Nat) (v0 v1 v2 v3 v4 : Value) : ∃ wb, w.alloc (.cells #[v0, v1, v2, v3, v4] 48) = wb ∧ Below w.heap.size w wb ∧ wb.drew.cell? ⟨w.heap.size, 0, none⟩ = some v0 ∧ wb.drew.cell? ⟨w.heap.size, 1, none⟩ = some v1 ∧ wb.drew.cell? ⟨w.heap.size, 2, none⟩ = some v2 ∧ wb.drew.cell? ⟨w.heap.size, 3, none⟩ = some v3 ∧ wb.drew.cell? ⟨w.heap.size, 4, none⟩ = some v4 ∧ (∀ (a : Addr) (v : Value), w.cell? a = some v → wb.drew.cell? a = some v) := by
 have h := str_new w #[v0, v1, v2, v3, v4] 48 _ rfl
 exact ⟨_, rfl, (Below.refl _ _).alloc (Nat.le_refl _) _, by rw [cell_drew_own, cell_of h]; rfl, by rw [cell_drew_own, cell_of h]; rfl, by rw [cell_drew_own, cell_of h]; rfl, by rw [cell_drew_own, cell_of h]; rfl, by rw [cell_drew_own, cell_of h]; rfl, fun a v ha => by rw [cell_drew_own]; exact cell_alloc ha _⟩
theorem right_head (h : WSt W B a b c L p F M MP Wk w D ws xs rv wv pv gs A) (hB : B ≤ w.heap.size) (pt : Option Addr) (ct : Nat) (hn : ¬ y.head ws.length) (hl1 : y.tiles.length ≤ maxLen) (hl2 : ws.length ≤ 200) :
 Calls Try.prog 23 #[.pointer (some ⟨Wk, 0, none⟩), cval pt ct y] w (RightPost W B a b c L p F M MP Wk w D ws xs rv wv pv gs A y) := by
 have hno : ¬ CycOk W a b c ws gs y := fun e => hn e.1
 obtain ⟨Q, hQ⟩ : ∃ Q, Q = RightPost W B a b c L p F M MP Wk w D ws xs rv wv pv gs A y := ⟨_, rfl⟩
 rw [← hQ]
 have HP : Hid (∀ w', Below w.heap.size w w' → Q (.panicked (refusal 20)) w') := Hi (fun w' hb => by rw [hQ]; exact .inl ⟨hno, rfl, hb.mono hB⟩)
 clear hQ hno
 obtain ⟨ts, i, j, r, m⟩ := y
 unfold CycD.head isMir at hn
 simp only at hn hl1
 unfold cval
 simp only
 have NN := Hi (fun w => need_no 20 w)
 have hrv : ∃ pq cap, rv = .slice pq xs.length cap := by
  rcases h.lst.row.2 with ⟨h1, h2⟩ | ⟨g, cap, cur, hv, _⟩
  · exact ⟨none, 0, by rw [h1, h2]⟩
  · exact ⟨_, cap, hv⟩
 obtain ⟨pq, cap, rfl⟩ := hrv
 have k0 : w.cell? ⟨Wk, 0, none⟩ = some (.pointer (some ⟨L, 0, none⟩)) := by rw [cell_of h.head]; rfl
 have k1 : w.cell? ⟨L, 1, none⟩ = some (.slice pq xs.length cap) := by rw [cell_of h.lst.head]; rfl
 have hxl := h.lst.len
 have HLT := Hi (And.intro h.lt h.lst.Llt)
 clear h
 unfold maxLen at hl1
 have IT : ∀ i : Int, (0 ≤ i ∧ i ≤ 2) → Hid (∀ w, Calls Try.prog 30 #[.int .i64 i] w fun e w' => e = .returned (.bool true) ∧ w' = w) := fun i h => Hi (fun w => by
  have := isletter_any i w
  rw [decide_eq_true h] at this
  exact this)
 have IF : ∀ i : Int, ¬ (0 ≤ i ∧ i ≤ 2) → Hid (∀ w, Calls Try.prog 30 #[.int .i64 i] w fun e w' => e = .returned (.bool false) ∧ w' = w) := fun i h => Hi (fun w => by
  have := isletter_any i w
  rw [decide_eq_false h] at this
  exact this)
 have HC : Hid ((0 ≤ i ∧ i ≤ 2) ∧ (0 ≤ j ∧ j ≤ 2) ∧ i < j ∧ 0 < ts.length → ts.length ≤ ws.length → False) := Hi (fun h1 h2 => hn ⟨h1.1, h1.2.1, h1.2.2.1, h1.2.2.2, h2⟩)
 clear hn
 by_cases h1 : 0 ≤ i ∧ i ≤ 2
 case neg =>
  have II := IF i h1
  clear h1 IT IF
  go_enter Try.func23, Try.ntmps23
  go_upto_region 1 with fail
  obtain ⟨wb, hwb, hbb, c0, c1, c2, c3, c4, hold⟩ := cyc_box w [] _ _ _ _ _
  rw [hwb]
  have HBB := Lib.hid hbb
  have k2 := hold _ _ k0
  have k3 := hold _ _ k1
  clear hwb hbb hold
  refine region_quiet_tail 35 (by kernel_rfl) (by kernel_rfl) ?_
  simp only [List.take_succ_cons, List.take_zero, List.drop_succ_cons, List.drop_zero]
  intro wd hwd
  rw [← hwd] at c0 c1 c2 c3 c4 k2 k3
  have HWD := Lib.hid hwd
  clear hwd
  repeat (first | go_big_quiet_skip | (go_big_quiet_want; go_big_quiet_op; first | go_big_quiet_on | (apply Exists.intro; refine ⟨?_, ?_⟩; (exact II.out _); go_big_quiet_on)))
  refine wpQuiet_nil ?_
  go_wp2_with (go_at_call 24; refine (NN.out _).mono ?_; rintro e w2 ⟨rfl, rfl⟩)
  exact ⟨rfl, HP.out _ (by rw [HWD.out]; exact HBB.out.trans ((Below.refl _ _).drew.mono HBB.out.size))⟩
 case pos =>
 have II := IT i h1
 by_cases h2 : 0 ≤ j ∧ j ≤ 2
 case neg =>
  have IJ := IF j h2
  clear h1 h2 IT IF
  go_enter Try.func23, Try.ntmps23
  go_upto_region 1 with fail
  obtain ⟨wb, hwb, hbb, c0, c1, c2, c3, c4, hold⟩ := cyc_box w [] _ _ _ _ _
  rw [hwb]
  have HBB := Lib.hid hbb
  have k2 := hold _ _ k0
  have k3 := hold _ _ k1
  clear hwb hbb hold
  refine region_quiet_tail 35 (by kernel_rfl) (by kernel_rfl) ?_
  simp only [List.take_succ_cons, List.take_zero, List.drop_succ_cons, List.drop_zero]
  intro wd hwd
  rw [← hwd] at c0 c1 c2 c3 c4 k2 k3
  have HWD := Lib.hid hwd
  clear hwd
  repeat (first | go_big_quiet_skip | (go_big_quiet_want; go_big_quiet_op; first | go_big_quiet_on | (apply Exists.intro; refine ⟨?_, ?_⟩; (first | exact II.out _ | exact IJ.out _); go_big_quiet_on)))
  refine wpQuiet_nil ?_
  go_wp2_with (go_at_call 24; refine (NN.out _).mono ?_; rintro e w2 ⟨rfl, rfl⟩)
  exact ⟨rfl, HP.out _ (by rw [HWD.out]; exact HBB.out.trans ((Below.refl _ _).drew.mono HBB.out.size))⟩
 case pos =>
 have IJ := IT j h2
 by_cases h3 : i < j
 case neg =>
  clear h1 h2 IT IF
  go_enter Try.func23, Try.ntmps23
  go_upto_region 1 with fail
  obtain ⟨wb, hwb, hbb, c0, c1, c2, c3, c4, hold⟩ := cyc_box w [] _ _ _ _ _
  rw [hwb]
  have HBB := Lib.hid hbb
  have k2 := hold _ _ k0
  have k3 := hold _ _ k1
  clear hwb hbb hold
  refine region_quiet_tail 35 (by kernel_rfl) (by kernel_rfl) ?_
  simp only [List.take_succ_cons, List.take_zero, List.drop_succ_cons, List.drop_zero]
  intro wd hwd
  rw [← hwd] at c0 c1 c2 c3 c4 k2 k3
  have HWD := Lib.hid hwd
  clear hwd
  repeat (first | go_big_quiet_skip | (go_big_quiet_want; go_big_quiet_op; first | go_big_quiet_on | (apply Exists.intro; refine ⟨?_, ?_⟩; (first | exact II.out _ | exact IJ.out _); go_big_quiet_on)))
  refine wpQuiet_nil ?_
  go_wp2_with (go_at_call 24; refine (NN.out _).mono ?_; rintro e w2 ⟨rfl, rfl⟩)
  exact ⟨rfl, HP.out _ (by rw [HWD.out]; exact HBB.out.trans ((Below.refl _ _).drew.mono HBB.out.size))⟩
 case pos =>
 by_cases h4 : 0 < ts.length
 case neg =>
  have d4 : decide ((0 : Int) < (ts.length : Int)) = false := decide_eq_false (by omega)
  have d5 : ¬ (0 : Int) < (ts.length : Int) := by omega
  have d6 : ts.length = 0 := by omega
  clear h1 h2 IT IF h4
  go_enter Try.func23, Try.ntmps23
  go_upto_region 1 with fail
  obtain ⟨wb, hwb, hbb, c0, c1, c2, c3, c4, hold⟩ := cyc_box w [] _ _ _ _ _
  rw [hwb]
  have HBB := Lib.hid hbb
  have k2 := hold _ _ k0
  have k3 := hold _ _ k1
  clear hwb hbb hold
  refine region_quiet_tail 35 (by kernel_rfl) (by kernel_rfl) ?_
  simp only [List.take_succ_cons, List.take_zero, List.drop_succ_cons, List.drop_zero]
  intro wd hwd
  rw [← hwd] at c0 c1 c2 c3 c4 k2 k3
  have HWD := Lib.hid hwd
  clear hwd
  repeat (first | go_big_quiet_skip | (go_big_quiet_want; go_big_quiet_op; first | go_big_quiet_on | (apply Exists.intro; refine ⟨?_, ?_⟩; (first | exact II.out _ | exact IJ.out _); go_big_quiet_on)))
  refine wpQuiet_nil ?_
  go_wp2_with (go_at_call 24; refine (NN.out _).mono ?_; rintro e w2 ⟨rfl, rfl⟩)
  exact ⟨rfl, HP.out _ (by rw [HWD.out]; exact HBB.out.trans ((Below.refl _ _).drew.mono HBB.out.size))⟩
 case pos =>
  have hgt : ¬ ts.length ≤ ws.length := fun e => HC.out ⟨h1, h2, h3, h4⟩ e
  have d4 : (0 : Int) < (ts.length : Int) := by omega
  have d5 : decide (ts.length ≤ ws.length) = false := decide_eq_false (by omega)
  clear h1 h2 IT IF hgt
  go_enter Try.func23, Try.ntmps23
  go_upto_region 1 with fail
  obtain ⟨wb, hwb, hbb, c0, c1, c2, c3, c4, hold⟩ := cyc_box w [] _ _ _ _ _
  rw [hwb]
  have HBB := Lib.hid hbb
  have k2 := hold _ _ k0
  have k3 := hold _ _ k1
  clear hwb hbb hold
  refine region_quiet_tail 35 (by kernel_rfl) (by kernel_rfl) ?_
  simp only [List.take_succ_cons, List.take_zero, List.drop_succ_cons, List.drop_zero]
  intro wd hwd
  rw [← hwd] at c0 c1 c2 c3 c4 k2 k3
  have HWD := Lib.hid hwd
  clear hwd
  repeat (first | go_big_quiet_skip | (go_big_quiet_want; go_big_quiet_op; first | go_big_quiet_on | (apply Exists.intro; refine ⟨?_, ?_⟩; (first | exact II.out _ | exact IJ.out _); go_big_quiet_on)))
  refine wpQuiet_nil ?_
  go_wp2_with (go_at_call 24; refine (NN.out _).mono ?_; rintro e w2 ⟨rfl, rfl⟩)
  exact ⟨rfl, HP.out _ (by rw [HWD.out]; exact HBB.out.trans ((Below.refl _ _).drew.mono HBB.out.size))⟩
end
end Go.Proofs.Ytkndmibmmoikbaa
namespace Go.Proofs.Ytkndmibmmoikbaa
open Go.RowKit
open Cox (Tl)
section
variable {K : Type} [Cox.OR K] {W : Cox.Tri K}
variable {B : Nat} {a b c : Int} {L p F M MP Wk : Nat} {w : World} {D : Dict} {ws : List (List (Fin 3))} {xs : List Nat} {rv wv pv : Value} {gs : List (EdgeW × List (Fin 3))} {A : List (Fin 3) → Nat} {y : CycD} {o : Obj} {k : Nat} {D' : Dict} {tv : Value} {ys : List Nat} {wr : World} {g cap : Nat}
theorem tws_at {l : List ByteArray} {k : Nat} (hk : k < l.length) : (tws W l)[k]? = some (Cox.nf W (unw l[k])) := by
 unfold tws
 rw [List.getElem?_map, List.getElem?_eq_getElem hk]; rfl
theorem cyc_badword (hk : k < y.tiles.length) (h : cw y.tiles[k] ≠ 0) : ¬ CycOk W a b c ws gs y := fun e => h (e.2.1.1 _ (List.getElem_mem hk))
theorem cyc_out (hk : k < y.tiles.length) (h : Cox.nf W (unw y.tiles[k]) ∉ ws) : ¬ CycOk W a b c ws gs y := fun e => h (e.2.1.2.1 _ (List.mem_of_getElem? (tws_at hk)))
theorem cyc_met (hk : k < y.tiles.length) (h : Cox.nf W (unw y.tiles[k]) ∈ (tws W y.tiles).take k) : ¬ CycOk W a b c ws gs y := fun e => by
 have hn := e.2.1.2.2
 obtain ⟨i, hi, hie⟩ := List.getElem_of_mem h
 rw [List.length_take] at hi
 rw [List.getElem_take] at hie
 have h3 := List.nodup_iff_pairwise_ne.1 hn
 rw [List.pairwise_iff_getElem] at h3
 have hkl : k < (tws W y.tiles).length := by rw [tws_length]; exact hk
 have h4 := h3 i k (by omega) hkl (by omega)
 have h5 : (tws W y.tiles)[k] = Cox.nf W (unw y.tiles[k]) := by
  have := tws_at (W := W) hk
  rw [List.getElem?_eq_getElem hkl] at this
  simpa using this
 exact h4 (hie.trans h5.symm)
theorem RtSt.start2 (h : WSt W B a b c L p F M MP Wk w D ws xs rv wv pv gs A) (cs : Array Value) (T : TypeId) :
 RtSt W B a b c L p F M MP Wk w D ws xs rv wv pv gs A y (.cells cs T (0, 0)) 0 D (.slice none 0 0) [] ((w.alloc (.cells cs T)).drew.alloc (.map #[] 0)) := by
 have hb : Below w.heap.size w ((w.alloc (.cells cs T)).drew.alloc (.map #[] 0)) := (((Below.refl _ _).alloc (Nat.le_refl _) _).drew).alloc (by show _ ≤ (w.alloc (.cells cs T)).heap.size; simp) _
 have hdom : ∀ x, D.dom x → x < w.heap.size := fun x ⟨u, hu⟩ => h.lst.td.lt hu
 have hdr : (w.alloc (.cells cs T)).drew.heap[w.heap.size]? = some (.cells cs T (0, 0)) := str_new w cs T _ rfl
 refine ⟨h.below hb, (TExt.refl _ _).stay (Out.of_below hb), ⟨?_, ⟨rfl, .inl ⟨rfl, rfl⟩⟩, by simp, fun i hi => (by simp at hi), by simp, by omega, fun e => by have := hdom _ e; omega, fun g hg => (by cases hg)⟩, str_old _ _ hdr, ⟨fun e => by have := hdom _ e; omega, by simp [Value.ownBlock]⟩, by simp, by simp⟩
 have := MapOf.new (w.alloc (.cells cs T)).drew
 have e : (w.alloc (.cells cs T)).drew.heap.size = w.heap.size + 1 := by show (w.alloc (.cells cs T)).heap.size = _; simp
 rw [e] at this
 simpa using this
theorem RtSt.pushed (h : RtSt W B a b c L p F M MP Wk w D ws xs rv wv pv gs A y o k D' tv ys wr) (hW : Wk < w.heap.size) (hk : k < y.tiles.length) (hcw : cw y.tiles[k] = 0) {u : List (Fin 3)} (hu : Cox.nf W (unw y.tiles[k]) = u) {x : Nat} (hx : D' u x) (hin : u ∈ ws) (hm : u ∉ (tws W y.tiles).take k)
 {w1 : World} (h1 : MapOf w1 (w.heap.size + 1) ((ys ++ [x]).map fun y => (pval y, .bool true))) (h2 : Out (fun b => b = w.heap.size + 1) wr w1) {o' : Obj} {w3 : World}
 (hown : w3.ownsRow w.heap.size 69 1 (.slice (some ⟨g, 0, none⟩) (ys.length + 1) cap) (ys.length + 1) (ys.map pval ++ [pval x])) (hgr : (w1.alloc o').grownBy w3 tv.ownBlock) (hat : tv.ownBlock = some g ∨ g = (w1.alloc o').heap.size) :
 RtSt W B a b c L p F M MP Wk w D ws xs rv wv pv gs A y o (k + 1) D' (.slice (some ⟨g, 0, none⟩) (ys.length + 1) cap) (ys ++ [x]) w3 := by
 obtain ⟨q1, q2⟩ := h.q.push h.ws_.lst.td hx hm h1 h2 hown hgr hat
 have hS : ∀ b, (b = w.heap.size + 1 ∨ tv.ownBlock = some b) → w.heap.size ≤ b ∧ ¬ D'.dom b ∧ b ≠ w.heap.size := by
  rintro b (rfl | hb)
  · exact ⟨by omega, h.q.sepM, by omega⟩
  · exact ⟨(owns_lt h.q.row hb).2, (h.q.sepR b hb).1, fun e => h.boxs.2 (e ▸ hb)⟩
 have hkl : k < (tws W y.tiles).length := by rw [tws_length]; exact hk
 have h5 : (tws W y.tiles)[k] = u := by
  have := tws_at (W := W) hk
  rw [List.getElem?_eq_getElem hkl] at this
  rw [← hu]
  simpa using this
 have htk : (tws W y.tiles).take (k + 1) = (tws W y.tiles).take k ++ [u] := by
  rw [List.take_succ_eq_append_getElem hkl, h5]
 refine ⟨h.ws_.out q2 (fun x hx => ⟨by have := (hS x hx).1; omega, (hS x hx).2.1⟩), h.ext.own q2 (fun x hx => (hS x hx).1), by rw [htk]; exact q1, ?_, ⟨h.boxs.1, ?_⟩, ?_, ?_⟩
 · rw [q2.block _ (Array.getElem?_eq_some_iff.1 h.box).1 (fun e => (hS _ e).2.2 rfl)]; exact h.box
 · intro e
   have hg : g = w.heap.size := by simpa [Value.ownBlock] using e
   rcases hat with e1 | e1
   · exact h.boxs.2 (hg ▸ e1)
   · have := h2.size
     have h8 := (Array.getElem?_eq_some_iff.1 h.box).1
     rw [World.size_alloc] at e1
     omega
 · intro s hs
   rw [List.take_succ_eq_append_getElem hk] at hs
   rcases List.mem_append.1 hs with hs | hs
   · exact h.good s hs
   · simp at hs; rw [hs]; exact hcw
 · intro v hv
   rw [htk] at hv
   rcases List.mem_append.1 hv with hv | hv
   · exact h.inn v hv
   · simp at hv; rw [hv]; exact hin
theorem RtSt.elem (h : RtSt W B a b c L p F M MP Wk w D ws xs rv wv pv gs A y o y.tiles.length D' tv ys wr) {i : Nat} (hi : i < y.tiles.length) : ∃ x, ys[i]? = some x ∧ D' ((tws W y.tiles).getD i []) x := by
 have hyl := h.ylen (Nat.le_refl _)
 have hiy : i < ys.length := by omega
 have hiu : i < (tws W y.tiles).length := by rw [tws_length]; exact hi
 have htk : (tws W y.tiles).take y.tiles.length = tws W y.tiles := List.take_of_length_le (by rw [tws_length]; exact Nat.le_refl _)
 have hq := h.q
 rw [htk] at hq
 refine ⟨ys[i], List.getElem?_eq_getElem hiy, ?_⟩
 rw [List.getD_eq_getElem?_getD, List.getElem?_eq_getElem hiu]
 exact hq.at_ i hiu hiy
theorem RtSt.row_at (h : RtSt W B a b c L p F M MP Wk w D ws xs rv wv pv gs A y o y.tiles.length D' (.slice (some ⟨g, 0, none⟩) y.tiles.length cap) ys wr) {i : Nat} {x : Nat} (hx : ys[i]? = some x) : wr.cell? ⟨g, i, none⟩ = some (.pointer (some ⟨x, 0, none⟩)) := by
 obtain ⟨hi, hxe⟩ := List.getElem?_eq_some_iff.1 hx
 obtain ⟨g', cap', hv, hc⟩ := owns_at h.q.row (i := i) (by simpa using hi)
 have hgg : g = g' := by simp at hv; exact hv.1
 rw [hgg, hc, List.getElem_map, hxe]; rfl
theorem eqlw {a b c : Int} {p F : Nat} {w : World} {D : Dict} (td : TD W a b c p F w D) {u v : List (Fin 3)} {x y : Nat} (hx : D u x) (hy : D v y) :
 (binOp .eql 69 (.pointer (some ⟨x, 0, none⟩)) (.pointer (some ⟨y, 0, none⟩))).run Try.prog w = .ok (.bool (decide (u = v))) w := by
 obtain ⟨j, hj, _, hj1, _⟩ := info_parts info124
 have hjs : j.size ≠ 0 := by rw [hj1]; decide
 by_cases h : u = v
 · subst h
   have : x = y := td.addr_inj hx hy
   subst this
   rw [decide_eq_true rfl]
   simpa using run_eql_ptr_same (P := Try.prog) w (tp := 69) (te := 124) ⟨x, 0, none⟩ (by kernel_rfl) hj
 · obtain ⟨cx, hcx⟩ := td.cells hx
   obtain ⟨cy, hcy⟩ := td.cells hy
   rw [decide_eq_false h]
   refine run_eql_ptr_other (P := Try.prog) w (tp := 69) (te := 124) (by kernel_rfl) hj hjs (fun e => h ?_) hcx hcy
   have : x = y := by simpa using e
   subst this
   exact td.word_inj hx hy
theorem RtSt.stepc (ho : Ords W a b c) (h : RtSt W B a b c L p F M MP Wk w D ws xs rv wv pv gs A y o y.tiles.length D' tv ys wr) (hn : 0 < y.tiles.length) (hlen : ∀ i, ((tws W y.tiles).getD i []).length < 90000) {x : Nat} (hx : ys[0]? = some x) (i : Fin 3) :
 Calls Try.prog 51 #[.pointer (some ⟨Wk, 0, none⟩), .pointer (some ⟨x, 0, none⟩), .int .i64 (i.val : Int)] wr fun e w3 => ∃ D2 y2, e = .returned (.pointer (some ⟨y2, 0, none⟩)) ∧ RtSt W B a b c L p F M MP Wk w D ws xs rv wv pv gs A y o y.tiles.length D2 tv ys w3 ∧
  (binOp .eql 69 (.pointer (some ⟨y2, 0, none⟩)) (.pointer (some ⟨x, 0, none⟩))).run Try.prog w3 = .ok (.bool (decide (mv W gs ((tws W y.tiles).getD 0 []) i = (tws W y.tiles).getD 0 []))) w3 ∧ (mv W gs ((tws W y.tiles).getD 0 []) i = (tws W y.tiles).getD 0 [] → y2 = x) := by
 obtain ⟨x', hx', hd⟩ := h.elem hn
 have hxx : x' = x := by rw [hx] at hx'; simpa using hx'.symm
 subst hxx
 refine (step_any ho h.ws_ hd (hlen 0) i).mono ?_
 rintro e w3 ⟨D2, y2, rfl, g1, g2, g3⟩
 exact ⟨D2, y2, rfl, h.step g2 g3, eqlw g2.lst.td g1 (g3.more _ _ hd), fun e => g2.lst.td.addr_inj g1 (by rw [e]; exact g3.more _ _ hd)⟩
theorem eql_self (x : Nat) (w : World) : (binOp .eql 69 (.pointer (some ⟨x, 0, none⟩)) (.pointer (some ⟨x, 0, none⟩))).run Try.prog w = .ok (.bool true) w := by
 obtain ⟨j, hj, _, hj1, _⟩ := info_parts info124
 simpa using run_eql_ptr_same (P := Try.prog) w (tp := 69) (te := 124) ⟨x, 0, none⟩ (by kernel_rfl) hj
theorem RtSt.leads (ho : Ords W a b c) (h : RtSt W B a b c L p F M MP Wk w D ws xs rv wv pv gs A y o y.tiles.length D' (.slice (some ⟨g, 0, none⟩) y.tiles.length cap) ys wr) (hlen : ∀ i, ((tws W y.tiles).getD i []).length < 90000) (hn : y.tiles.length ≤ 1000) {i : Nat} (hi : i < y.tiles.length) {x : Nat} (hx : ys[i]? = some x) (s t : Fin 3) :
 Calls Try.prog 52 #[.pointer (some ⟨Wk, 0, none⟩), .slice (some ⟨g, 0, none⟩) y.tiles.length cap, .int .i64 (s.val : Int), .int .i64 (t.val : Int), .pointer (some ⟨x, 0, none⟩)] wr fun e w4 => ∃ (bb : Bool) (D3 : Dict), e = .returned (.bool bb) ∧ (bb = true ↔ leadsP W gs (tws W y.tiles) s t ((tws W y.tiles).getD i [])) ∧
  RtSt W B a b c L p F M MP Wk w D ws xs rv wv pv gs A y o y.tiles.length D3 (.slice (some ⟨g, 0, none⟩) y.tiles.length cap) ys w4 := by
 obtain ⟨x', hx', hd⟩ := h.elem hi
 have hxx : x' = x := by rw [hx] at hx'; simpa using hx'.symm
 subst hxx
 have hyl := h.ylen (Nat.le_refl _)
 have htl := tws_length W y.tiles
 have htk : (tws W y.tiles).take y.tiles.length = tws W y.tiles := List.take_of_length_le (by rw [htl]; exact Nat.le_refl _)
 have hq := h.q
 rw [htk] at hq
 have hgd := (h.q.sepR g rfl).1
 have hrow := h.q.row
 rw [hyl] at hrow
 have := leads_any (E := { W := W, B := B, a := a, b := b, c := c, L := L, p := p, F := F, M := M, MP := MP, Wk := Wk, ws := ws, xs := xs, rv := rv, wv := wv, pv := pv, gs := gs, A := A, us := tws W y.tiles, ys := ys, s := s, t := t, lastw := (tws W y.tiles).getD i [], lasty := x', g := g, cap := cap, w0 := wr, D0 := D', H := w.heap.size, X := wr.heap.size })
  { ords := ho, ws := h.ws_, row := by unfold LE.pathv; rw [htl]; exact hrow, own := hgd, len := by rw [hyl, htl], at_ := hq.at_, last := hd, short := fun j hj => by
      have := hlen j
      rwa [List.getD_eq_getElem?_getD, List.getElem?_eq_getElem hj] at this, big := rfl } (by simp only [htl]; exact hn)
 unfold LE.pathv at this
 simp only [htl] at this
 refine this.mono ?_
 rintro e w4 ⟨bb, rfl, h1, D3, h2, h3⟩
 exact ⟨bb, D3, rfl, h1, h.step h2 h3⟩
end
end Go.Proofs.Ytkndmibmmoikbaa
namespace Go.Proofs.Ytkndmibmmoikbaa
open Go.RowKit
open Cox (Tl)
def fromR (n : Nat) : Code → Option Code
 | .region i ops d => if i = n then some (.region i ops d) else none
 | .seq a b => match fromR n a with
  | some c => some (.seq c b)
  | none => fromR n b
 | .cond _ a b => match fromR n a with
  | some c => some c
  | none => fromR n b
 | .block _ c => fromR n c
 | .loop c => fromR n c
 | _ => none
noncomputable def right20 : Code := (Try.f23.body.bind (fromR 20)).getD .skip
theorem mf_val (i : Fin 3) : mf (i.val : Int) = i := by
 match i with
 | 0 => rfl
 | 1 => rfl
 | 2 => rfl
section
variable {K : Type} [Cox.OR K] {W : Cox.Tri K}
variable {B : Nat} {a b c : Int} {L p F M MP Wk : Nat} {w : World} {D : Dict} {ws : List (List (Fin 3))} {xs : List Nat} {rv wv pv : Value} {gs : List (EdgeW × List (Fin 3))} {A : List (Fin 3) → Nat} {y : CycD}
structure RtEnd (W : Cox.Tri K) (B : Nat) (a b c : Int) (L p F M MP Wk : Nat) (w : World) (D : Dict) (ws : List (List (Fin 3))) (xs : List Nat) (rv wv pv : Value) (gs : List (EdgeW × List (Fin 3))) (A : List (Fin 3) → Nat) (y : CycD) (Q : Ending → World → Prop) : Prop where
 no : ∀ w', ¬ CycOk W a b c ws gs y → Below B w w' → Q (.panicked (refusal 20)) w'
 yes : ∀ (D' : Dict) (ys : List Nat) (g cap : Nat) w', CycOk W a b c ws gs y → WSt W B a b c L p F M MP Wk w' D' ws xs rv wv pv gs A → TExt w D w' D' → w'.ownsRow w.heap.size 69 1 (.slice (some ⟨g, 0, none⟩) y.tiles.length cap) y.tiles.length (ys.map pval) → ys.length = y.tiles.length → ¬ D'.dom g → (∀ i (h : i < (tws W y.tiles).length) (h' : i < ys.length), D' (tws W y.tiles)[i] ys[i]) → Q (.returned (.slice (some ⟨g, 0, none⟩) y.tiles.length cap)) w'
theorem RtSt.words {oc : Obj} {D' : Dict} {tv : Value} {ys : List Nat} {wr : World} (h : RtSt W B a b c L p F M MP Wk w D ws xs rv wv pv gs A y oc y.tiles.length D' tv ys wr) : y.words W ws := by
 have e1 : y.tiles.take y.tiles.length = y.tiles := List.take_of_length_le (Nat.le_refl _)
 have e2 : (tws W y.tiles).take y.tiles.length = tws W y.tiles := List.take_of_length_le (by rw [tws_length]; exact Nat.le_refl _)
 have h1 := h.good
 have h2 := h.inn
 have h3 := h.q.nodup
 rw [e1] at h1
 rw [e2] at h2 h3
 exact ⟨h1, h2, h3⟩
theorem right_t20 {Q : Ending → World → Prop} (HE : Hid (RtEnd W B a b c L p F M MP Wk w D ws xs rv wv pv gs A y Q)) (hB : B ≤ w.heap.size) (hn : y.head ws.length) (hl2 : ws.length ≤ 200) {pt : Option Addr} {ct : Nat} {oc : Obj} (hoc : oc = .cells #[.slice pt y.tiles.length ct, .int .i64 y.i, .int .i64 y.j, .int .i64 y.rounds, .bool y.mir] 48 (0, 0))
 {D' : Dict} {g cap : Nat} {ys : List Nat} {wz : World} (hz : RtSt W B a b c L p F M MP Wk w D ws xs rv wv pv gs A y oc y.tiles.length D' (.slice (some ⟨g, 0, none⟩) y.tiles.length cap) ys wz) {mm : Int} (hmm : mm = ordz a b c y.i y.j * (if y.mir = true then 1 else 2)) (hm2 : mm ≤ 200)
 (hring : ringP W gs (tws W y.tiles) (mf y.i) (mf y.j) y.mir) {u1 u2 u4 u6 u7 u8 u9 u12 u13 u14 u15 u16 u17 u18 u19 u20 u21 u22 u23 u24 u25 u26 u27 u28 u29 u30 u31 u32 u33 u34 u35 u36 u37 u38 u39 u40 u41 u42 u43 u44 u45 u46 u47 u48 u49 u50 u51 u52 u53 u54 u55 u56 u57 u58 u59 u60 u61 u62 u63 u64 u65 u66 u67 u68 u69 u70 u71 u72 u73 u74 u75 u76 u77 u78 u79 u80 u81 u82 u83 u84 u85 u86 u87 u88 u89 u90 u91 u92 u93 u94 u95 u96 u97 u98 u99 u100 u101 u102 u103 u104 u105 u106 u107 u108 u109 u110 u111 u112 u113 u114 u115 u116 u117 u118 u119 u120 u121 u122 u123 u124 u125 u126 u127 u128 u129 u130 u131 u132 u133 u134 u135 u136 u137 u138 u139 u140 u141 u142 u143 u144 u145 u146 u147 u148 u149 u150 u151 u152 u153 u154 u155 u156 u157 u158 u159 u160 u161 u162 u163 u164 u165 u166 u167 u168 u169 u170 u171 u172 u173 u174 u175 u176 u177 u178 u179 u180 u181 u182 u183 u184 u185 u186 u187 u188 u189 u190 u191 u192 u193 u194 u195 u196 u197 u198 u199 u200 u201 u202 u203 u204 u205 u206 u207 u208 : Value} :
 Code.wp Try.prog right20 (bodyPost Try.prog Try.f23 Q) ⟨#[.pointer (some ⟨Wk, 0, none⟩), u1, u2, .pointer (some ⟨w.heap.size, 0, none⟩), u4, .slice (some ⟨g, 0, none⟩) y.tiles.length cap, u6, u7, u8, u9, .int .i64 (y.tiles.length : Int), .int .i64 mm, u12, u13, u14, u15, u16, u17, u18, u19, u20, u21, u22, u23, u24, u25, u26, u27, u28, u29, u30, u31, u32, u33, u34, u35, u36, u37, u38, u39, u40, u41, u42, u43, u44, u45, u46, u47, u48, u49, u50, u51, u52, u53, u54, u55, u56, u57, u58, u59, u60, u61, u62, u63, u64, u65, u66, u67, u68, u69, u70, u71, u72, u73, u74, u75, u76, u77, u78, u79, u80, u81, u82, u83, u84, u85, u86, u87, u88, u89, u90, u91, u92, u93, u94, u95, u96, u97, u98, u99, u100, u101, u102, u103, u104, u105, u106, u107, u108, u109, u110, u111, u112, u113, u114, u115, u116, u117, u118, u119, u120, u121, u122, u123, u124, u125, u126, u127, u128, u129, u130, u131, u132, u133, u134, u135, u136, u137, u138, u139, u140, u141, u142, u143, u144, u145, u146, u147, u148, u149, u150, u151, u152, u153, u154, u155, u156, u157, u158, u159, u160, u161, u162, u163, u164, u165, u166, u167, u168, u169, u170, u171, u172, u173, u174, u175, u176, u177, u178, u179, u180, u181, u182, u183, u184, u185, u186, u187, u188, u189, u190, u191, u192, u193, u194, u195, u196, u197, u198, u199, u200, u201, u202, u203, u204, u205, u206, u207, u208], []⟩ wz := by
 have HZ := Lib.hid hz
 have HN := Lib.hid hn
 have HR := Lib.hid hring
 have HM := Lib.hid hmm
 have HB := Lib.hid hB
 have NN := Hi (fun w => need_no 20 w)
 have NY := Hi (fun w => need_yes 20 w)
 have hbox := hz.box
 rw [hoc] at hbox
 have c3 : wz.cell? ⟨w.heap.size, 3, none⟩ = some (.int .i64 y.rounds) := by rw [cell_of hbox]; rfl
 obtain ⟨_, _, _, hl0, hln⟩ := hn
 have hno : Hid (¬ timesP y.tiles.length mm y.rounds → Q (.panicked (refusal 20)) wz) := Hi (fun h => HE.out.no _ (fun hc => h (HM.out ▸ hc.2.2.2)) (HZ.out.all HB.out))
 have hyes : Hid (timesP y.tiles.length mm y.rounds → Q (.returned (.slice (some ⟨g, 0, none⟩) y.tiles.length cap)) wz) := Hi (fun h => by
  have e2 : (tws W y.tiles).take y.tiles.length = tws W y.tiles := List.take_of_length_le (by rw [tws_length]; exact Nat.le_refl _)
  have hyl := HZ.out.ylen (Nat.le_refl _)
  have hrow := HZ.out.q.row
  have hat := HZ.out.q.at_
  rw [hyl] at hrow
  rw [e2] at hat
  exact HE.out.yes D' ys g cap wz ⟨HN.out, HZ.out.words, HR.out, HM.out ▸ h⟩ HZ.out.ws_ HZ.out.ext hrow hyl (HZ.out.q.sepR g rfl).1 hat)
 clear hz hring hmm hB hbox HE HZ HM HB HN HR hoc
 generalize y.rounds = r at *
 generalize hlen : y.tiles.length = n at *
 clear hlen
 conv => arg 2; whnf
 by_cases h0 : 0 ≤ r
 case neg =>
  have H := Hi (hno.out (fun h => h0 h.1))
  have d0 : decide (r ≥ 0) = false := decide_eq_false h0
  clear hno hyes
  go_wp2_with (go_at_call 24; refine (NN.out _).mono ?_; rintro e w2 ⟨rfl, rfl⟩)
  exact ⟨rfl, H.out⟩
 case pos =>
  have d0 : decide (r ≥ 0) = true := decide_eq_true h0
  by_cases h1 : r ≤ mm
  case neg =>
   have H := Hi (hno.out (fun h => h1 h.2.1))
   have d1 : decide (r ≤ mm) = false := decide_eq_false h1
   clear hno hyes
   go_wp2_with (go_at_call 24; refine (NN.out _).mono ?_; rintro e w2 ⟨rfl, rfl⟩)
   exact ⟨rfl, H.out⟩
  case pos =>
   have d1 : decide (r ≤ mm) = true := decide_eq_true h1
   have hb : r * (n : Int) ≤ 200 * 200 := Int.mul_le_mul (by omega) (by omega) (by omega) (by omega)
   have hb0 : 0 ≤ r * (n : Int) := Int.mul_nonneg h0 (by omega)
   have hw : IntKind.i64.wrap (r * (n : Int)) = r * (n : Int) := by rw [IntKind.wrap_i64]; omega
   by_cases h2 : r * (n : Int) = mm
   case neg =>
    have H := Hi (hno.out (fun h => h2 h.2.2))
    have d2 : (r * (n : Int) == mm) = false := by simpa using h2
    clear hno hyes hb hb0
    go_wp2_with (go_at_call 24; refine (NN.out _).mono ?_; rintro e w2 ⟨rfl, rfl⟩)
    exact ⟨rfl, H.out⟩
   case pos =>
    have H := Hi (hyes.out ⟨h0, h1, h2⟩)
    have d2 : (r * (n : Int) == mm) = true := by simpa using h2
    clear hno hyes hb hb0
    go_wp2_with (go_at_call 24; refine (NY.out _).mono ?_; rintro e w2 ⟨rfl, rfl⟩)
    exact H.out
end
end Go.Proofs.Ytkndmibmmoikbaa
