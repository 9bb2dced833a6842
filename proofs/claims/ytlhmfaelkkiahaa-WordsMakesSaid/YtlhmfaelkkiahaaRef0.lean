/- The specification's graph in memory: tiles in a slice. -/
import Derived.Test.YtlhmfaelkkiahaaSt2
import Derived.Test.YtlhmfaelkkiahaaCoxG
import Derived.Deep.AppendLies
namespace Go.Proofs.Ytlhmfaelkkiahaa
open Go.RowKit
open Cox (Tl)

def gi : Option Nat → Value
  | none => .int .i64 (-1)
  | some k => .int .i64 k
def gcells (nd : Tl) : Array Value := #[.int .i64 nd.lev, gi (nd.to 0), gi (nd.to 1), gi (nd.to 2), .bool (nd.down 0), .bool (nd.down 1), .bool (nd.down 2), .string (wb nd.word)]
theorem gcells_size (nd : Tl) : (gcells nd).size = 8 := rfl

/-- the graph lies in memory: its head in block G, its tiles in block R -/
structure GRep (a b c : Int) (B G R cap : Nat) (cur : Array Value) (w : World) (st : List Tl) : Prop where
  head : w.heap[G]? = some (.cells #[.int .i64 a, .int .i64 b, .int .i64 c, .slice (some ⟨R, 0, none⟩) st.length cap] 84 (0, 0))
  row : w.heap[R]? = some (.cells cur 81 (0, 0))
  ne : R ≠ G
  gB : B ≤ G
  rB : B ≤ R
  le : st.length ≤ cap
  capm : cap ≤ maxLen
  size : cur.size = cap * 8
  cells : ∀ (k : Nat) (nd : Tl), st[k]? = some nd → ∀ j, j < 8 → cur[k * 8 + j]? = (gcells nd)[j]?
  closed : ∀ (k : Nat) (nd : Tl) (i : Fin 3) (x : Nat), st[k]? = some nd → nd.to i = some x → x < st.length
  lev : ∀ (k : Nat) (nd : Tl), st[k]? = some nd → nd.lev ≤ k

/-- the graph lies somewhere -/
def GS (a b c : Int) (B G : Nat) (w : World) (st : List Tl) : Prop := ∃ R cap cur, GRep a b c B G R cap cur w st

section
variable {a b c : Int} {B G R cap : Nat} {cur : Array Value} {w : World} {st : List Tl}

theorem GRep.at (h : GRep a b c B G R cap cur w st) {k : Nat} {nd : Tl} (hk : st[k]? = some nd) (j : Nat) (hj : j < 8) : w.cell? ⟨R, k * 8 + j, none⟩ = (gcells nd)[j]? := by
  rw [cell_of h.row, h.cells k nd hk j hj]
theorem GRep.len (h : GRep a b c B G R cap cur w st) {k : Nat} {nd : Tl} (hk : st[k]? = some nd) : w.cell? ⟨R, k * 8, none⟩ = some (.int .i64 nd.lev) := h.at hk 0 (by omega)
theorem GRep.to (h : GRep a b c B G R cap cur w st) {k : Nat} {nd : Tl} (hk : st[k]? = some nd) (s : Fin 3) : w.cell? ⟨R, k * 8 + 1 + s.val, none⟩ = some (gi (nd.to s)) := by
  have := h.at hk (1 + s.val) (by omega)
  rw [← Nat.add_assoc] at this
  rw [this]
  match s with
  | 0 => rfl
  | 1 => rfl
  | 2 => rfl
theorem GRep.down (h : GRep a b c B G R cap cur w st) {k : Nat} {nd : Tl} (hk : st[k]? = some nd) (s : Fin 3) : w.cell? ⟨R, k * 8 + 4 + s.val, none⟩ = some (.bool (nd.down s)) := by
  have := h.at hk (4 + s.val) (by omega)
  rw [← Nat.add_assoc] at this
  rw [this]
  match s with
  | 0 => rfl
  | 1 => rfl
  | 2 => rfl
theorem GRep.word (h : GRep a b c B G R cap cur w st) {k : Nat} {nd : Tl} (hk : st[k]? = some nd) : w.cell? ⟨R, k * 8 + 7, none⟩ = some (.string (wb nd.word)) := h.at hk 7 (by omega)
theorem GRep.free (h : GRep a b c B G R cap cur w st) (o : Nat) : w.frozen? ⟨R, o, none⟩ = false := free_of h.row o
theorem GRep.o0 (h : GRep a b c B G R cap cur w st) : w.cell? ⟨G, 0, none⟩ = some (.int .i64 a) := by rw [cell_of h.head]; rfl
theorem GRep.o1 (h : GRep a b c B G R cap cur w st) : w.cell? ⟨G, 1, none⟩ = some (.int .i64 b) := by rw [cell_of h.head]; rfl
theorem GRep.o2 (h : GRep a b c B G R cap cur w st) : w.cell? ⟨G, 2, none⟩ = some (.int .i64 c) := by rw [cell_of h.head]; rfl
theorem GRep.slice (h : GRep a b c B G R cap cur w st) : w.cell? ⟨G, 3, none⟩ = some (.slice (some ⟨R, 0, none⟩) st.length cap) := by rw [cell_of h.head]; rfl
theorem GRep.gfree (h : GRep a b c B G R cap cur w st) (o : Nat) : w.frozen? ⟨G, o, none⟩ = false := free_of h.head o
theorem GRep.glt (h : GRep a b c B G R cap cur w st) : G < w.heap.size := (Array.getElem?_eq_some_iff.1 h.head).1
theorem GRep.rlt (h : GRep a b c B G R cap cur w st) : R < w.heap.size := (Array.getElem?_eq_some_iff.1 h.row).1

/-- the graph stays, where its two blocks stay -/
theorem GRep.stay (h : GRep a b c B G R cap cur w st) {w' : World} (hg : w'.heap[G]? = w.heap[G]?) (hr : w'.heap[R]? = w.heap[R]?) : GRep a b c B G R cap cur w' st :=
  ⟨hg.trans h.head, hr.trans h.row, h.ne, h.gB, h.rB, h.le, h.capm, h.size, h.cells, h.closed, h.lev⟩
theorem GRep.below (h : GRep a b c B G R cap cur w st) {w' : World} (hb : Below w.heap.size w w') : GRep a b c B G R cap cur w' st :=
  h.stay (hb.block _ h.glt) (hb.block _ h.rlt)

/-- a store into a tile -/
theorem GRep.store (h : GRep a b c B G R cap cur w st) {k j : Nat} {v : Value} (f : Tl → Tl) (hj : j < 8) (hk : k < st.length) (hf : ∀ nd, gcells (f nd) = (gcells nd).setIfInBounds j v)
    (hc : ∀ (nd : Tl) (i : Fin 3) (x : Nat), (f nd).to i = some x → nd.to i = some x ∨ x < st.length) (hl : ∀ nd : Tl, (f nd).lev = nd.lev) : GRep a b c B G R cap (cur.setIfInBounds (k * 8 + j) v) (w.setCell ⟨R, k * 8 + j, none⟩ v) (st.modify k f) := by
  have hh := fun q => heap_setCell w R (k * 8 + j) v q h.row
  refine ⟨?_, ?_, h.ne, h.gB, h.rB, by simpa using h.le, h.capm, by simpa using h.size, ?_, ?_, ?_⟩
  · rw [hh, if_neg (fun e => h.ne e.symm), h.head, List.length_modify]
  · rw [hh, if_pos rfl]
  · intro q nd hq i hi
    rw [Cox.modify_eq] at hq
    by_cases e : q = k
    · subst e
      rw [if_pos rfl] at hq
      cases hn : st[q]? with
      | none => rw [hn] at hq; cases hq
      | some nd0 =>
        rw [hn] at hq
        cases hq
        rw [hf, Array.getElem?_setIfInBounds, Array.getElem?_setIfInBounds]
        by_cases e2 : j = i
        · subst e2
          have hlt : q * 8 + j < cur.size := by rw [h.size]; have := h.le; omega
          rw [if_pos rfl, if_pos rfl, if_pos hlt, if_pos (by rw [gcells_size]; exact hj)]
        · rw [if_neg (by omega), if_neg e2]
          exact h.cells q nd0 hn i hi
    · rw [if_neg e] at hq
      rw [Array.getElem?_setIfInBounds, if_neg (by omega)]
      exact h.cells q nd hq i hi
  · intro q nd i x hq hx
    rw [List.length_modify]
    rw [Cox.modify_eq] at hq
    by_cases e : q = k
    · subst e
      rw [if_pos rfl] at hq
      cases hn : st[q]? with
      | none => rw [hn] at hq; cases hq
      | some nd0 =>
        rw [hn] at hq
        cases hq
        rcases hc nd0 i x hx with h1 | h1
        · exact h.closed q nd0 i x hn h1
        · exact h1
    · rw [if_neg e] at hq
      exact h.closed q nd i x hq hx
  · intro q nd hq
    rw [Cox.modify_eq] at hq
    by_cases e : q = k
    · subst e
      rw [if_pos rfl] at hq
      cases hn : st[q]? with
      | none => rw [hn] at hq; cases hq
      | some nd0 =>
        rw [hn] at hq
        cases hq
        rw [hl]; exact h.lev q nd0 hn
    · rw [if_neg e] at hq
      exact h.lev q nd hq

theorem GRep.setTo (h : GRep a b c B G R cap cur w st) {k y : Nat} (s : Fin 3) (hk : k < st.length) (hy : y < st.length) :
    GRep a b c B G R cap (cur.setIfInBounds (k * 8 + (1 + s.val)) (.int .i64 y)) (w.setCell ⟨R, k * 8 + 1 + s.val, none⟩ (.int .i64 y)) (st.modify k fun n => { n with to := Cox.upd n.to s (some y) }) := by
  have := h.store (k := k) (j := 1 + s.val) (v := .int .i64 y) (fun n => { n with to := Cox.upd n.to s (some y) }) (by omega) hk
    (fun nd => by match s with | 0 => rfl | 1 => rfl | 2 => rfl)
    (fun nd i x hx => by
      simp only [Cox.upd] at hx
      split at hx
      · cases hx; exact .inr hy
      · exact .inl hx) (fun _ => rfl)
  rw [Nat.add_assoc]; exact this
theorem GRep.setDown (h : GRep a b c B G R cap cur w st) {k : Nat} (s : Fin 3) (hk : k < st.length) :
    GRep a b c B G R cap (cur.setIfInBounds (k * 8 + (4 + s.val)) (.bool true)) (w.setCell ⟨R, k * 8 + 4 + s.val, none⟩ (.bool true)) (st.modify k fun n => { n with down := Cox.upd n.down s true }) := by
  have := h.store (k := k) (j := 4 + s.val) (v := .bool true) (fun n => { n with down := Cox.upd n.down s true }) (by omega) hk
    (fun nd => by match s with | 0 => rfl | 1 => rfl | 2 => rfl)
    (fun nd i x hx => .inl hx) (fun _ => rfl)
  rw [Nat.add_assoc]; exact this
theorem GRep.setWord (h : GRep a b c B G R cap cur w st) {k : Nat} (l : List (Fin 3)) (hk : k < st.length) :
    GRep a b c B G R cap (cur.setIfInBounds (k * 8 + 7) (.string (wb l))) (w.setCell ⟨R, k * 8 + 7, none⟩ (.string (wb l))) (st.modify k fun n => { n with word := l }) :=
  h.store (k := k) (j := 7) (v := .string (wb l)) (fun n => { n with word := l }) (by omega) hk (fun nd => rfl) (fun nd i x hx => .inl hx) (fun _ => rfl)

/-- the two stores to the sides, and the third one: a link -/
theorem link_eq (st : List Tl) (x y : Nat) (s : Fin 3) : ((st.modify x fun n => { n with to := Cox.upd n.to s (some y) }).modify y fun n => { n with to := Cox.upd n.to s (some x) }).modify y (fun n => { n with down := Cox.upd n.down s true }) = Cox.link st x y s := by
  unfold Cox.link
  refine List.ext_getElem? fun k => ?_
  simp only [Cox.modify_eq]
  by_cases e : k = y
  · subst e
    by_cases e2 : k = x
    · subst e2
      cases st[k]? <;> simp
    · simp only [if_neg e2]
      cases st[k]? <;> simp
  · simp only [if_neg e]

/-- the row, as the law on append wants it -/
theorem GRep.owns (h : GRep a b c B G R cap cur w st) : w.ownsRow B 81 8 (.slice (some ⟨R, 0, none⟩) st.length cap) st.length (cur.toList.take (st.length * 8)) := by
  refine ⟨?_, .inr ⟨R, cap, cur, rfl, h.rB, h.row, h.le, h.capm, h.size, rfl⟩⟩
  have := h.le
  have := h.size
  simp; omega

/-- behind the law on append, where the head has been written -/
theorem GRep.append (h : GRep a b c B G R cap cur w st) {w' : World} {g cap' : Nat} {n : Tl} (hn : ∀ i, n.to i = none ∨ ∃ k, n.to i = some k ∧ k < st.length + 1) (hnl : n.lev ≤ st.length)
    (ho : w'.ownsRow B 81 8 (.slice (some ⟨g, 0, none⟩) (st.length + 1) cap') (st.length + 1) (cur.toList.take (st.length * 8) ++ (gcells n).toList)) (hg : g ≠ G)
    (hh : w'.heap[G]? = some (.cells #[.int .i64 a, .int .i64 b, .int .i64 c, .slice (some ⟨g, 0, none⟩) ((st.length + 1 : Nat)) cap'] 84 (0, 0))) : GS a b c B G w' (st ++ [n]) := by
  obtain ⟨hl, hr⟩ := ho
  rcases hr with ⟨hr, _⟩ | ⟨g', cap2, cur', hv, hb, hrow, hle, hm, hsz, htk⟩
  · cases hr
  · simp only [Value.slice.injEq, Option.some.injEq, Addr.mk.injEq, and_true, true_and] at hv
    obtain ⟨rfl, hv2⟩ := hv
    have hv3 : cap' = cap2 := by simpa using hv2
    subst hv3
    have hlen : (st ++ [n]).length = st.length + 1 := by simp
    have hxl : (cur.toList.take (st.length * 8)).length = st.length * 8 := by
      have := h.le
      have := h.size
      simp; omega
    have hget : ∀ o, o < (st.length + 1) * 8 → cur'[o]? = (cur.toList.take (st.length * 8) ++ (gcells n).toList)[o]? := by
      intro o ho
      rw [← htk, List.getElem?_take, if_pos ho]
      simp
    refine ⟨g, cap', cur', ⟨?_, hrow, hg, h.gB, hb, by rw [hlen]; exact hle, hm, hsz, ?_, ?_, ?_⟩⟩
    · rw [hlen]; exact hh
    · intro k nd hk j hj
      have hkl : k < st.length + 1 := by have := (List.getElem?_eq_some_iff.1 hk).1; rwa [hlen] at this
      rw [hget _ (by omega)]
      rcases Nat.lt_or_ge k st.length with h1 | h1
      · rw [List.getElem?_append_left h1] at hk
        rw [List.getElem?_append_left (by rw [hxl]; omega), List.getElem?_take, if_pos (by omega)]
        rw [← h.cells k nd hk j hj]
        simp
      · have e : k = st.length := by omega
        subst e
        simp at hk
        subst hk
        rw [List.getElem?_append_right (by rw [hxl]; omega), hxl, Nat.add_sub_cancel_left]
        simp
    · intro k nd i x hk hx
      rw [hlen]
      rcases Nat.lt_or_ge k st.length with h1 | h1
      · rw [List.getElem?_append_left h1] at hk
        have := h.closed k nd i x hk hx
        omega
      · have e : k = st.length := by
          have := (List.getElem?_eq_some_iff.1 hk).1
          rw [hlen] at this; omega
        subst e
        simp at hk
        subst hk
        rcases hn i with h2 | ⟨k, h2, h3⟩
        · rw [h2] at hx; cases hx
        · rw [h2] at hx; cases hx; exact h3
    · intro k nd hk
      rcases Nat.lt_or_ge k st.length with h1 | h1
      · rw [List.getElem?_append_left h1] at hk
        exact h.lev k nd hk
      · have e : k = st.length := by
          have := (List.getElem?_eq_some_iff.1 hk).1
          rw [hlen] at this; omega
        subst e
        simp at hk
        subst hk
        exact hnl
end
end Go.Proofs.Ytlhmfaelkkiahaa
