/- Chapter 10: La5. -/
import Derived.Test.YtkndmibmmoikbaaD38
import Derived.Test.YtkndmibmmoikbaaD39
import Derived.Carry
import Derived.Deep.Strs
set_option linter.all false
set_option maxRecDepth 100000
set_option maxHeartbeats 16000000
namespace Go.Proofs.Ytkndmibmmoikbaa
open Go.ChangeShapes Go.WideShapes Go.ChangeAt Go.RowKit Go.ChangeMaps Go.Joins Go.Deep
theorem Try.cells3 : Try.prog.cellsOf 3 = 1 := by kernel_rfl
theorem Try.cells4 : Try.prog.cellsOf 4 = 1 := by kernel_rfl
theorem Try.cells9 : Try.prog.cellsOf 9 = 1 := by kernel_rfl
theorem Try.cells24 : Try.prog.cellsOf 24 = 1 := by kernel_rfl
theorem Try.cells40 : Try.prog.cellsOf 40 = 2 := by kernel_rfl
theorem Try.cells41 : Try.prog.cellsOf 41 = 4 := by kernel_rfl
theorem Try.cells43 : Try.prog.cellsOf 43 = 4 := by kernel_rfl
theorem Try.cells48 : Try.prog.cellsOf 48 = 5 := by kernel_rfl
theorem Try.laidAll : laidOutB Try.prog = true := by kernel_rfl
theorem choose_list {α : Type} {n : Nat} {P : Nat → α → Prop} (h : ∀ i, i < n → ∃ x, P i x) : ∃ l : List α, l.length = n ∧ ∀ i (hi : i < l.length), P i l[i] := by
 induction n with
 | zero => exact ⟨[], rfl, fun i hi => by simp at hi⟩
 | succ n ih =>
  obtain ⟨l, hl, hp⟩ := ih fun i hi => h i (by omega)
  obtain ⟨x, hx⟩ := h n (by omega)
  refine ⟨l ++ [x], by simp [hl], fun i hi => ?_⟩
  by_cases hin : i < l.length
  · rw [List.getElem_append_left hin]; exact hp i hin
  · have : i = n := by simp at hi; omega
    subst this
    rw [List.getElem_append_right (by omega)]
    simp [hl]
    exact hx
section
variable {H : Type} {enc : TypeId × Value → H} {W : World}
theorem open_rows {t e : TypeId} {sz : Nat} (ht : Try.prog.underlying t = some (.slice e)) (hC : Try.prog.cellsOf e = sz) (h0 : 0 < sz) {fuel : Nat} {p : Option Addr} {n cap : Nat} {x : DataW H × List MemPlace}
 (h : DataW.trod enc Try.prog W 0 (fun _ => true) true fuel t [.slice p n cap] = some x) :
 n ≤ maxLen ∧ (n ≠ 0 → ∃ bk o, p = some ⟨bk, o, none⟩ ∧ ∀ i, i < n → ∃ (cs : List Value) (m : Nat) (y : DataW H × List MemPlace), cs.length = sz ∧ (∀ j, j < sz → W.cell? ⟨bk, o + i * sz + j, none⟩ = cs[j]?) ∧ DataW.trod enc Try.prog W 0 (fun _ => true) true m e cs = some y) := by
 rcases open_slice ht h with ⟨hc, _⟩ | ⟨a, len', cap', m, k, D, Pl, hc, _, hl, hm, hmm, hx, hall⟩
 · have hn : n = 0 := by
    simp at hc
    exact hc.2.1
   subst hn
   exact ⟨by unfold maxLen; omega, fun h => absurd rfl h⟩
 · have hc' : p = some a ∧ n = len' ∧ cap = cap' := by simpa using hc
   obtain ⟨rfl, rfl, rfl⟩ := hc'
   refine ⟨by omega, fun hne => ?_⟩
   have hmc : m = cap := by simpa using hmm
   have hsp : ∀ {q : Addr} {u : Value}, W.cell? q = some u → q.spot = none := by
    intro q u hq
    unfold World.cell? at hq
    cases hb : W.heap[q.block]? with
    | none => rw [hb] at hq; cases hq
    | some ob =>
     rw [hb] at hq
     cases ob with
     | cells c e z =>
      simp only at hq
      cases hs : q.spot with
      | none => rfl
      | some z => rw [hs] at hq; simp at hq
     | _ => cases hq
   obtain ⟨cs0, hcs0, _⟩ := hall 0 (by omega)
   rw [hC] at hcs0
   obtain ⟨_, hcl0, hat0⟩ := World.cells?_some hcs0
   obtain ⟨bk, o, sp⟩ := a
   have h00 := hat0 0 h0
   rw [Nat.zero_mul] at h00
   have e00 : ((Addr.mk bk o sp).add 0).add 0 = ⟨bk, o, sp⟩ := rfl
   rw [e00, List.getElem?_eq_getElem (by omega)] at h00
   have hs1 := hsp h00
   simp only at hs1
   subst hs1
   refine ⟨bk, o, rfl, fun i hi => ?_⟩
   obtain ⟨cs', hcs, htr⟩ := hall i (by omega)
   rw [hC] at hcs
   obtain ⟨_, hcl, hat⟩ := World.cells?_some hcs
   refine ⟨cs', k, _, hcl, fun j hj => ?_, htr⟩
   have hadd : (Addr.add (Addr.add ⟨bk, o, none⟩ (i * sz)) j) = ⟨bk, o + i * sz + j, none⟩ := by
    unfold Addr.add
    split <;> split <;> simp_all
   rw [← hadd]
   exact hat j hj
theorem open_strs9 {fuel : Nat} {p : Option Addr} {n cap : Nat} {x : DataW H × List MemPlace} (h : DataW.trod enc Try.prog W 0 (fun _ => true) true fuel 24 [.slice p n cap] = some x) :
 ∃ ts : List ByteArray, ts.length = n ∧ n ≤ maxLen ∧ StrsAt W p ts ∧ ∀ s, s ∈ ts → s.size ≤ maxLen := by
 obtain ⟨hn, hr⟩ := open_rows Try.underlying24 Try.cells9 (by decide) h
 by_cases h0 : n = 0
 · subst h0
   exact ⟨[], rfl, hn, fun h => absurd rfl h, fun s hs => by cases hs⟩
 obtain ⟨bk, o, rfl, hi⟩ := hr h0
 obtain ⟨l, hl, hp⟩ := choose_list (n := n) (P := fun i (s : ByteArray) => W.cell? ⟨bk, o + i, none⟩ = some (.string s) ∧ s.size ≤ maxLen) (fun i hin => by
  obtain ⟨cs, m, y, hcl, hc, ht⟩ := hi i hin
  obtain ⟨s, rfl, _, hs⟩ := DataW.trod_string Try.underlying9 ht
  have h1 := hc 0 (by decide)
  simp only [Nat.mul_one, Nat.add_zero] at h1
  exact ⟨s, h1, hs⟩)
 refine ⟨l, hl, hn, fun _ => ⟨bk, o, rfl, fun i hi => (hp i hi).1⟩, fun s hs => ?_⟩
 obtain ⟨i, hi, rfl⟩ := List.getElem_of_mem hs
 exact (hp i hi).2
theorem open_edge {m : Nat} {c0 c1 : Value} {y : DataW H × List MemPlace} (h : DataW.trod enc Try.prog W 0 (fun _ => true) true m 40 [c0, c1] = some y) : ∃ (s : ByteArray) (k : Int), c0 = .string s ∧ c1 = .int .i64 k ∧ s.size ≤ maxLen := by
 obtain ⟨y0, y1, n, _, _, h0, h1⟩ := trod_struct2 Try.underlying40 h
 simp only [Try.cells9, Try.cells3, List.drop_zero, List.drop_succ_cons, List.take_succ_cons, List.take_zero] at h0 h1
 obtain ⟨s, e0, _, hs⟩ := DataW.trod_string Try.underlying9 h0
 obtain ⟨k, e1, _⟩ := DataW.trod_int Try.underlying3 h1
 simp only [List.cons.injEq, and_true] at e0 e1
 exact ⟨s, k, e0, e1, hs⟩
theorem open_pair {m : Nat} {cs : List Value} {y : DataW H × List MemPlace} (hl : cs.length = 4) (h : DataW.trod enc Try.prog W 0 (fun _ => true) true m 41 cs = some y) : ∃ q : PairD, cs = [.string q.1.tile, .int .i64 q.1.mir, .string q.2.tile, .int .i64 q.2.mir] ∧ q.1.tile.size ≤ maxLen ∧ q.2.tile.size ≤ maxLen := by
 match cs, hl with
 | [c0, c1, c2, c3], _ =>
 cases m with
 | zero => simp [DataW.trod] at h
 | succ n =>
  unfold DataW.trod at h
  rw [Try.underlying41] at h
  have r2 : List.range 2 = [0, 1] := rfl
  simp [r2, Try.cells40, Try.cells41] at h
  cases h0 : DataW.trod enc Try.prog W 0 (fun _ => true) true n 40 [c0, c1] with
  | none => simp [h0] at h
  | some y0 =>
   cases h1 : DataW.trod enc Try.prog W 0 (fun _ => true) true n 40 [c2, c3] with
   | none => simp [h0, h1] at h
   | some y1 =>
    obtain ⟨s, k, rfl, rfl, hs⟩ := open_edge h0
    obtain ⟨s2, k2, rfl, rfl, hs2⟩ := open_edge h1
    exact ⟨(⟨s, k⟩, ⟨s2, k2⟩), rfl, hs, hs2⟩
theorem open_pairs {fuel : Nat} {p : Option Addr} {n cap : Nat} {x : DataW H × List MemPlace} (h : DataW.trod enc Try.prog W 0 (fun _ => true) true fuel 25 [.slice p n cap] = some x) :
 ∃ ps : List PairD, ps.length = n ∧ n ≤ maxLen ∧ PairsAt W p ps ∧ ∀ q, q ∈ ps → q.1.tile.size ≤ maxLen ∧ q.2.tile.size ≤ maxLen := by
 obtain ⟨hn, hr⟩ := open_rows Try.underlying25 Try.cells41 (by decide) h
 by_cases h0 : n = 0
 · subst h0
   exact ⟨[], rfl, hn, fun h => absurd rfl h, fun s hs => by cases hs⟩
 obtain ⟨bk, o, rfl, hi⟩ := hr h0
 obtain ⟨l, hl, hp⟩ := choose_list (n := n) (P := fun i (q : PairD) => (W.cell? ⟨bk, o + i * 4, none⟩ = some (.string q.1.tile) ∧ W.cell? ⟨bk, o + i * 4 + 1, none⟩ = some (.int .i64 q.1.mir) ∧ W.cell? ⟨bk, o + i * 4 + 2, none⟩ = some (.string q.2.tile) ∧ W.cell? ⟨bk, o + i * 4 + 3, none⟩ = some (.int .i64 q.2.mir)) ∧ q.1.tile.size ≤ maxLen ∧ q.2.tile.size ≤ maxLen) (fun i hin => by
  obtain ⟨cs, m, y, hcl, hc, ht⟩ := hi i hin
  obtain ⟨q, rfl, hs⟩ := open_pair hcl ht
  exact ⟨q, ⟨hc 0 (by decide), hc 1 (by decide), hc 2 (by decide), hc 3 (by decide)⟩, hs⟩)
 refine ⟨l, hl, hn, fun _ => ⟨bk, o, rfl, fun i hi => (hp i hi).1⟩, fun s hs => ?_⟩
 obtain ⟨i, hi, rfl⟩ := List.getElem_of_mem hs
 exact (hp i hi).2
theorem law_post_mem {f : Func} {s : ChangeSpec} {W W' : World} {args : Array Value} {ds : List (DataW H)} {ps : List MemPlace}
 (hW : DataW.Whole enc Try.prog f.params.toList s.vars false W args.toList ds [] ps) (hv : s.vars = [])
 (hft : f.resultTypes = #[4]) (hrs : (s.fn H (ds ++ [])).results = [.lit (.bool true)])
 (hargs : DataW.TrodAll enc Try.prog W' 0 (fun b => decide (b < W.heap.size)) true f.params.toList args.toList (s.fn H (ds ++ [])).args ps)
 (hvars : (s.fn H (ds ++ [])).vars = []) (hb : Below W.heap.size W W') : s.post enc Try.prog f false true false false W args (.bool true) W' := by
 have hres : ∀ (b : Nat) (sp : Nat → Bool) (hd : Bool), DataW.TrodAll enc Try.prog W' b sp hd f.resultTypes.toList ((Value.bool true).resultList f.resultTypes.size) (s.fn H (ds ++ [])).results [] := by
  intro b sp hd
  rw [hft, hrs]
  exact trodAll_mk1 (shut_bool Try.underlying4 _)
 have hvs : ∀ sp : Nat → Bool, DataW.TrodVars enc Try.prog W' sp s.vars (s.fn H (ds ++ [])).vars [] := by
  intro sp
  rw [hv, hvars]
  rfl
 exact ⟨ds, [], _, _, _, _, hW, hres _ _ _, hargs, hvs _, hb.frame _, fun h => by cases h⟩
end
end Go.Proofs.Ytkndmibmmoikbaa
