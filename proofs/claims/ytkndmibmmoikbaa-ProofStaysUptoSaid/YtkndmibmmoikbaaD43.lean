/- Chapter 10: Sy8. -/
import Derived.Test.YtkndmibmmoikbaaD40
import Derived.Test.YtkndmibmmoikbaaD42
set_option linter.all false
set_option maxRecDepth 100000
set_option maxHeartbeats 16000000
namespace Go.Proofs.Ytkndmibmmoikbaa
open Go.ChangeShapes Go.WideShapes Go.ChangeAt Go.RowKit Go.ChangeMaps Go.Joins Go.Deep
section
variable {H : Type} {enc : TypeId × Value → H} {W : World}
theorem nil_ok {t e : TypeId} (ht : Try.prog.underlying t = some (.slice e)) {fuel : Nat} {p : Option Addr} {n cap : Nat} {x : DataW H × List MemPlace}
 (h : DataW.trod enc Try.prog W 0 (fun _ => true) true fuel t [.slice p n cap] = some x) : NilOk p n cap := by
 rcases open_slice ht h with ⟨hc, _⟩ | ⟨a, len', cap', m, k, D, Pl, hc, _⟩
 · simp at hc
   exact fun _ => ⟨hc.2.1, hc.2.2⟩
 · simp at hc
   intro h0
   rw [h0] at hc
   exact absurd hc.1 (by simp)
theorem bulk_one (d : DataW H) : 1 ≤ Rows.uptoBulk d := by
 cases d with
 | lit l => cases l <;> simp [Rows.uptoBulk]
 | _ => simp [Rows.uptoBulk]
theorem bulk_all (l : List (DataW H)) : l.length ≤ Rows.uptoBulkAll l := by
 induction l with
 | nil => simp
 | cons d l ih =>
  have := bulk_one d
  simp only [Rows.uptoBulkAll, List.length_cons]
  omega
theorem bulk_mem {d : DataW H} {l : List (DataW H)} (h : d ∈ l) : Rows.uptoBulk d ≤ Rows.uptoBulkAll l := by
 induction l with
 | nil => cases h
 | cons x l ih =>
  simp only [Rows.uptoBulkAll]
  rcases List.mem_cons.1 h with rfl | h
  · omega
  · have := ih h
    omega
theorem bulk_slice {t e : TypeId} (ht : Try.prog.underlying t = some (.slice e)) {fuel : Nat} {p : Option Addr} {n cap : Nat} {x : DataW H × List MemPlace}
 (h : DataW.trod enc Try.prog W 0 (fun _ => true) true fuel t [.slice p n cap] = some x) : n ≤ Rows.uptoBulk x.1 := by
 rcases open_slice ht h with ⟨hc, _⟩ | ⟨a, len', cap', m, k, D, Pl, hc, _, _, _, _, hx, _⟩
 · simp at hc
   omega
 · have hn : n = len' := by simp at hc; exact hc.2.1
   rw [hx]
   simp only [Rows.uptoBulk]
   have := bulk_all ((List.range len').map D)
   simp at this
   omega
theorem slice_at2 {b0 : Nat} {r : Reach} {t e : TypeId} (ht : Try.prog.underlying t = some (.slice e)) {v : Value} {d : DataW H} {p : List MemPlace} (hv : Value.okWide Try.prog W r b0 t v) (h : DataW.Trod enc Try.prog W 0 (fun _ => true) true t v d p) :
 ∃ (q : Option Addr) (n cap fuel : Nat), v = .slice q n cap ∧ DataW.trod enc Try.prog W 0 (fun _ => true) true fuel t [.slice q n cap] = some (d, p) := by
 obtain ⟨a0, len, cap, rfl⟩ := okWide_slice ht hv
 obtain ⟨fuel, hf⟩ := h
 exact ⟨a0, len, cap, fuel, rfl, hf⟩
theorem open_ints3 {fuel : Nat} {p : Option Addr} {n cap : Nat} {x : DataW H × List MemPlace} (h : DataW.trod enc Try.prog W 0 (fun _ => true) true fuel 33 [.slice p n cap] = some x) :
 ∃ rs : List Int, rs.length = n ∧ n ≤ maxLen ∧ IntsAt W p rs := by
 obtain ⟨hn, hr⟩ := open_rows Try.underlying33 Try.cells3 (by decide) h
 by_cases h0 : n = 0
 · subst h0
   exact ⟨[], rfl, hn, fun h => absurd rfl h⟩
 obtain ⟨bk, o, rfl, hi⟩ := hr h0
 obtain ⟨l, hl, hp⟩ := choose_list (n := n) (P := fun i (s : Int) => W.cell? ⟨bk, o + i, none⟩ = some (.int .i64 s)) (fun i hin => by
  obtain ⟨cs, m, y, hcl, hc, ht⟩ := hi i hin
  obtain ⟨s, rfl, _⟩ := DataW.trod_int Try.underlying3 ht
  have h1 := hc 0 (by decide)
  simp only [Nat.mul_one, Nat.add_zero] at h1
  exact ⟨s, h1⟩)
 exact ⟨l, hl, hn, fun _ => ⟨bk, o, rfl, fun i hi => hp i hi⟩⟩
theorem open_steps43 {fuel : Nat} {p : Option Addr} {n cap : Nat} {x : DataW H × List MemPlace} (h : DataW.trod enc Try.prog W 0 (fun _ => true) true fuel 34 [.slice p n cap] = some x) :
 ∃ ss : List StepD, ss.length = n ∧ n ≤ maxLen ∧ StepsAt W p ss := by
 obtain ⟨hn, hr⟩ := open_rows Try.underlying34 Try.cells43 (by decide) h
 by_cases h0 : n = 0
 · subst h0
   exact ⟨[], rfl, hn, fun h => absurd rfl h⟩
 obtain ⟨bk, o, rfl, hi⟩ := hr h0
 obtain ⟨l, hl, hp⟩ := choose_list (n := n) (P := fun i (s : StepD) => W.cell? ⟨bk, o + i * 4, none⟩ = some (.int .i64 s.kind) ∧ W.cell? ⟨bk, o + i * 4 + 1, none⟩ = some (.int .i64 s.at_) ∧ W.cell? ⟨bk, o + i * 4 + 2, none⟩ = some (.int .i64 s.i) ∧ W.cell? ⟨bk, o + i * 4 + 3, none⟩ = some (.int .i64 s.j)) (fun i hin => by
  obtain ⟨cs, m, y, hcl, hc, ht⟩ := hi i hin
  match cs, hcl with
  | [c0, c1, c2, c3], _ =>
   obtain ⟨xs, n', _, _, _, hlen, hf⟩ := DataW.trod_struct Try.underlying43 ht
   have h0 : DataW.trod enc Try.prog W 0 (fun _ => true) true n' 3 (List.take (Try.prog.cellsOf 3) [c0, c1, c2, c3]) = xs[0]? := hf 0 _ rfl
   have h1 : DataW.trod enc Try.prog W 0 (fun _ => true) true n' 3 (List.take (Try.prog.cellsOf 3) [c1, c2, c3]) = xs[1]? := hf 1 _ rfl
   have h2 : DataW.trod enc Try.prog W 0 (fun _ => true) true n' 3 (List.take (Try.prog.cellsOf 3) [c2, c3]) = xs[2]? := hf 2 _ rfl
   have h3 : DataW.trod enc Try.prog W 0 (fun _ => true) true n' 3 (List.take (Try.prog.cellsOf 3) [c3]) = xs[3]? := hf 3 _ rfl
   have hl4 : xs.length = 4 := hlen
   rw [List.getElem?_eq_getElem (by omega)] at h0 h1 h2 h3
   simp only [Try.cells3, List.take_succ_cons, List.take_zero] at h0 h1 h2 h3
   obtain ⟨a0, e0, _⟩ := DataW.trod_int Try.underlying3 h0
   obtain ⟨a1, e1, _⟩ := DataW.trod_int Try.underlying3 h1
   obtain ⟨a2, e2, _⟩ := DataW.trod_int Try.underlying3 h2
   obtain ⟨a3, e3, _⟩ := DataW.trod_int Try.underlying3 h3
   simp only [List.cons.injEq, and_true] at e0 e1 e2 e3
   subst e0 e1 e2 e3
   exact ⟨⟨a0, a1, a2, a3⟩, hc 0 (by decide), hc 1 (by decide), hc 2 (by decide), hc 3 (by decide)⟩)
 exact ⟨l, hl, hn, fun _ => ⟨bk, o, rfl, fun i hi => hp i hi⟩⟩
theorem open_cyc2 {m : Nat} {cs : List Value} {y : DataW H × List MemPlace} (hl : cs.length = 5) (h : DataW.trod enc Try.prog W 0 (fun _ => true) true m 48 cs = some y) :
 ∃ c : CycA, cs = [.slice c.pt c.y.tiles.length c.ct, .int .i64 c.y.i, .int .i64 c.y.j, .int .i64 c.y.rounds, .bool c.y.mir] ∧ StrsAt W c.pt c.y.tiles ∧ c.y.tiles.length ≤ maxLen ∧ (∀ s, s ∈ c.y.tiles → s.size ≤ maxLen) ∧ NilOk c.pt c.y.tiles.length c.ct := by
 match cs, hl with
 | [c0, c1, c2, c3, c4], _ =>
 obtain ⟨xs, n, _, _, _, hlen, hf⟩ := DataW.trod_struct Try.underlying48 h
 have h0 : DataW.trod enc Try.prog W 0 (fun _ => true) true n 24 (List.take (Try.prog.cellsOf 24) [c0, c1, c2, c3, c4]) = xs[0]? := hf 0 _ rfl
 have h1 : DataW.trod enc Try.prog W 0 (fun _ => true) true n 3 (List.take (Try.prog.cellsOf 3) [c1, c2, c3, c4]) = xs[1]? := hf 1 _ rfl
 have h2 : DataW.trod enc Try.prog W 0 (fun _ => true) true n 3 (List.take (Try.prog.cellsOf 3) [c2, c3, c4]) = xs[2]? := hf 2 _ rfl
 have h3 : DataW.trod enc Try.prog W 0 (fun _ => true) true n 3 (List.take (Try.prog.cellsOf 3) [c3, c4]) = xs[3]? := hf 3 _ rfl
 have h4 : DataW.trod enc Try.prog W 0 (fun _ => true) true n 4 (List.take (Try.prog.cellsOf 4) [c4]) = xs[4]? := hf 4 _ rfl
 have hl5 : xs.length = 5 := hlen
 rw [List.getElem?_eq_getElem (by omega)] at h0 h1 h2 h3 h4
 simp only [Try.cells24, Try.cells3, Try.cells4, List.drop_zero, List.drop_succ_cons, List.take_succ_cons, List.take_zero] at h0 h1 h2 h3 h4
 obtain ⟨p, ln, cap, e0⟩ : ∃ p ln cap, c0 = .slice p ln cap := by
  rcases open_slice Try.underlying24 h0 with ⟨hc, _⟩ | ⟨a, len', cap', _, _, _, _, hc, _⟩
  · simp at hc; exact ⟨_, _, _, hc⟩
  · simp at hc; exact ⟨_, _, _, hc⟩
 subst e0
 have hnil := nil_ok Try.underlying24 h0
 obtain ⟨ts, hts, htl, hta, hsz⟩ := open_strs9 h0
 subst hts
 obtain ⟨i, e1, _⟩ := DataW.trod_int Try.underlying3 h1
 obtain ⟨j, e2, _⟩ := DataW.trod_int Try.underlying3 h2
 obtain ⟨r, e3, _⟩ := DataW.trod_int Try.underlying3 h3
 obtain ⟨mr, e4, _⟩ := DataW.trod_bool Try.underlying4 h4
 simp only [List.cons.injEq, and_true] at e1 e2 e3 e4
 subst e1 e2 e3 e4
 exact ⟨⟨p, cap, ⟨ts, i, j, r, mr⟩⟩, rfl, hta, htl, hsz, hnil⟩
theorem open_cycs2 {fuel : Nat} {p : Option Addr} {n cap : Nat} {x : DataW H × List MemPlace} (h : DataW.trod enc Try.prog W 0 (fun _ => true) true fuel 26 [.slice p n cap] = some x) :
 ∃ cys : List CycA, cys.length = n ∧ n ≤ maxLen ∧ CycsAt W p cys ∧ ∀ y, y ∈ cys → (y.y.tiles.length ≤ maxLen ∧ ∀ s, s ∈ y.y.tiles → s.size ≤ maxLen) ∧ NilOk y.pt y.y.tiles.length y.ct := by
 obtain ⟨hn, hr⟩ := open_rows Try.underlying26 Try.cells48 (by decide) h
 by_cases h0 : n = 0
 · subst h0
   exact ⟨[], rfl, hn, fun h => absurd rfl h, fun s hs => by cases hs⟩
 obtain ⟨bk, o, rfl, hi⟩ := hr h0
 obtain ⟨l, hl, hp⟩ := choose_list (n := n) (P := fun i (q : CycA) => (W.cell? ⟨bk, o + i * 5, none⟩ = some (.slice q.pt q.y.tiles.length q.ct) ∧ W.cell? ⟨bk, o + i * 5 + 1, none⟩ = some (.int .i64 q.y.i) ∧
  W.cell? ⟨bk, o + i * 5 + 2, none⟩ = some (.int .i64 q.y.j) ∧ W.cell? ⟨bk, o + i * 5 + 3, none⟩ = some (.int .i64 q.y.rounds) ∧ W.cell? ⟨bk, o + i * 5 + 4, none⟩ = some (.bool q.y.mir) ∧ StrsAt W q.pt q.y.tiles) ∧ (q.y.tiles.length ≤ maxLen ∧ ∀ s, s ∈ q.y.tiles → s.size ≤ maxLen) ∧ NilOk q.pt q.y.tiles.length q.ct) (fun i hin => by
  obtain ⟨cs, m, y, hcl, hc, ht⟩ := hi i hin
  obtain ⟨q, rfl, h1, h2, h3, h4⟩ := open_cyc2 hcl ht
  exact ⟨q, ⟨hc 0 (by decide), hc 1 (by decide), hc 2 (by decide), hc 3 (by decide), hc 4 (by decide), h1⟩, ⟨h2, h3⟩, h4⟩)
 refine ⟨l, hl, hn, fun _ => ⟨bk, o, rfl, fun i hi => (hp i hi).1⟩, fun s hs => ?_⟩
 obtain ⟨i, hi, rfl⟩ := List.getElem_of_mem hs
 exact (hp i hi).2
end
end Go.Proofs.Ytkndmibmmoikbaa
