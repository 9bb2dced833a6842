/- Chapter 10: Ref0 Ref1 Ref1b. -/
import Derived.Test.YtkndmibmmoikbaaD07
import Derived.Test.YtkndmibmmoikbaaD02
import Derived.Deep.AppendLies
set_option linter.all false
set_option maxRecDepth 100000
set_option maxHeartbeats 16000000
namespace Go.Proofs.Ytkndmibmmoikbaa
open Go.RowKit
open Cox (Tl)
def gi : Option Nat → Value
 | none => .int .i64 (-1)
 | some k => .int .i64 k
def gcells (nd : Tl) : Array Value := #[.int .i64 nd.lev, gi (nd.to 0), gi (nd.to 1), gi (nd.to 2), .bool (nd.down 0), .bool (nd.down 1), .bool (nd.down 2), .string (wb nd.word)]
theorem gcells_size (nd : Tl) : (gcells nd).size = 8 := rfl
structure GRep (a b c : Int) (B G R cap : Nat) (cur : Array Value) (w : World) (st : List Tl) : Prop where
 head : w.heap[G]? = some (.cells #[.int .i64 a, .int .i64 b, .int .i64 c, .slice (some ⟨R, 0, none⟩) st.length cap] 134 (0, 0))
 row : w.heap[R]? = some (.cells cur 131 (0, 0))
 ne : R ≠ G
 gB : B ≤ G
 rB : B ≤ R
 le : st.length ≤ cap
 capm : cap ≤ maxLen
 size : cur.size = cap * 8
 cells : ∀ (k : Nat) (nd : Tl), st[k]? = some nd → ∀ j, j < 8 → cur[k * 8 + j]? = (gcells nd)[j]?
 closed : ∀ (k : Nat) (nd : Tl) (i : Fin 3) (x : Nat), st[k]? = some nd → nd.to i = some x → x < st.length
 lev : ∀ (k : Nat) (nd : Tl), st[k]? = some nd → nd.lev ≤ k
def GS (a b c : Int) (B G : Nat) (w : World) (st : List Tl) : Prop := ∃ R cap cur, GRep a b c B G R cap cur w st
section
variable {a b c : Int} {B G R cap : Nat} {cur : Array Value} {w : World} {st : List Tl}
theorem GRep.at (h : GRep a b c B G R cap cur w st) {k : Nat} {nd : Tl} (hk : st[k]? = some nd) (j : Nat) (hj : j < 8) : w.cell? ⟨R, k * 8 + j, none⟩ = (gcells nd)[j]? := by
 rw [cell_of h.row, h.cells k nd hk j hj]
theorem GRep.len (h : GRep a b c B G R cap cur w st) {k : Nat} {nd : Tl} (hk : st[k]? = some nd) : w.cell? ⟨R, k * 8, none⟩ = some (.int .i64 nd.lev) := h.at hk 0 (by omega)
theorem GRep.to (h : GRep a b c B G R cap cur w st) {k : Nat} {nd : Tl} (hk : st[k]? = some nd) (s : Fin 3) : w.cell? ⟨R, k * 8 + 1 + s.val, none⟩ = some (gi (nd.to s)) := by
 have := h.at hk (1 + s.val) (by omega)
 rw [← Nat.add_assoc] at this
 rw [this]
 match s with
 | 0 => rfl
 | 1 => rfl
 | 2 => rfl
theorem GRep.down (h : GRep a b c B G R cap cur w st) {k : Nat} {nd : Tl} (hk : st[k]? = some nd) (s : Fin 3) : w.cell? ⟨R, k * 8 + 4 + s.val, none⟩ = some (.bool (nd.down s)) := by
 have := h.at hk (4 + s.val) (by omega)
 rw [← Nat.add_assoc] at this
 rw [this]
 match s with
 | 0 => rfl
 | 1 => rfl
 | 2 => rfl
theorem GRep.word (h : GRep a b c B G R cap cur w st) {k : Nat} {nd : Tl} (hk : st[k]? = some nd) : w.cell? ⟨R, k * 8 + 7, none⟩ = some (.string (wb nd.word)) := h.at hk 7 (by omega)
theorem GRep.free (h : GRep a b c B G R cap cur w st) (o : Nat) : w.frozen? ⟨R, o, none⟩ = false := free_of h.row o
theorem GRep.o0 (h : GRep a b c B G R cap cur w st) : w.cell? ⟨G, 0, none⟩ = some (.int .i64 a) := by rw [cell_of h.head]; rfl
theorem GRep.o1 (h : GRep a b c B G R cap cur w st) : w.cell? ⟨G, 1, none⟩ = some (.int .i64 b) := by rw [cell_of h.head]; rfl
theorem GRep.o2 (h : GRep a b c B G R cap cur w st) : w.cell? ⟨G, 2, none⟩ = some (.int .i64 c) := by rw [cell_of h.head]; rfl
theorem GRep.slice (h : GRep a b c B G R cap cur w st) : w.cell? ⟨G, 3, none⟩ = some (.slice (some ⟨R, 0, none⟩) st.length cap) := by rw [cell_of h.head]; rfl
theorem GRep.glt (h : GRep a b c B G R cap cur w st) : G < w.heap.size := (Array.getElem?_eq_some_iff.1 h.head).1
theorem GRep.rlt (h : GRep a b c B G R cap cur w st) : R < w.heap.size := (Array.getElem?_eq_some_iff.1 h.row).1
theorem GRep.stay (h : GRep a b c B G R cap cur w st) {w' : World} (hg : w'.heap[G]? = w.heap[G]?) (hr : w'.heap[R]? = w.heap[R]?) : GRep a b c B G R cap cur w' st :=
 ⟨hg.trans h.head, hr.trans h.row, h.ne, h.gB, h.rB, h.le, h.capm, h.size, h.cells, h.closed, h.lev⟩
theorem GRep.below (h : GRep a b c B G R cap cur w st) {w' : World} (hb : Below w.heap.size w w') : GRep a b c B G R cap cur w' st :=
 h.stay (hb.block _ h.glt) (hb.block _ h.rlt)
theorem GRep.store (h : GRep a b c B G R cap cur w st) {k j : Nat} {v : Value} (f : Tl → Tl) (hj : j < 8) (hk : k < st.length) (hf : ∀ nd, gcells (f nd) = (gcells nd).setIfInBounds j v)
 (hc : ∀ (nd : Tl) (i : Fin 3) (x : Nat), (f nd).to i = some x → nd.to i = some x ∨ x < st.length) (hl : ∀ nd : Tl, (f nd).lev = nd.lev) : GRep a b c B G R cap (cur.setIfInBounds (k * 8 + j) v) (w.setCell ⟨R, k * 8 + j, none⟩ v) (st.modify k f) := by
 have hh := fun q => heap_setCell w R (k * 8 + j) v q h.row
 refine ⟨?_, ?_, h.ne, h.gB, h.rB, by simpa using h.le, h.capm, by simpa using h.size, ?_, ?_, ?_⟩
 · rw [hh, if_neg (fun e => h.ne e.symm), h.head, List.length_modify]
 · rw [hh, if_pos rfl]
 · intro q nd hq i hi
   rw [Cox.modify_eq] at hq
   by_cases e : q = k
   · subst e
     rw [if_pos rfl] at hq
     cases hn : st[q]? with
     | none => rw [hn] at hq; cases hq
     | some nd0 =>
      rw [hn] at hq
      cases hq
      rw [hf, Array.getElem?_setIfInBounds, Array.getElem?_setIfInBounds]
      by_cases e2 : j = i
      · subst e2
        have hlt : q * 8 + j < cur.size := by rw [h.size]; have := h.le; omega
        rw [if_pos rfl, if_pos rfl, if_pos hlt, if_pos (by rw [gcells_size]; exact hj)]
      · rw [if_neg (by omega), if_neg e2]
        exact h.cells q nd0 hn i hi
   · rw [if_neg e] at hq
     rw [Array.getElem?_setIfInBounds, if_neg (by omega)]
     exact h.cells q nd hq i hi
 · intro q nd i x hq hx
   rw [List.length_modify]
   rw [Cox.modify_eq] at hq
   by_cases e : q = k
   · subst e
     rw [if_pos rfl] at hq
     cases hn : st[q]? with
     | none => rw [hn] at hq; cases hq
     | some nd0 =>
      rw [hn] at hq
      cases hq
      rcases hc nd0 i x hx with h1 | h1
      · exact h.closed q nd0 i x hn h1
      · exact h1
   · rw [if_neg e] at hq
     exact h.closed q nd i x hq hx
 · intro q nd hq
   rw [Cox.modify_eq] at hq
   by_cases e : q = k
   · subst e
     rw [if_pos rfl] at hq
     cases hn : st[q]? with
     | none => rw [hn] at hq; cases hq
     | some nd0 =>
      rw [hn] at hq
      cases hq
      rw [hl]; exact h.lev q nd0 hn
   · rw [if_neg e] at hq
     exact h.lev q nd hq
theorem GRep.setTo (h : GRep a b c B G R cap cur w st) {k y : Nat} (s : Fin 3) (hk : k < st.length) (hy : y < st.length) :
 GRep a b c B G R cap (cur.setIfInBounds (k * 8 + (1 + s.val)) (.int .i64 y)) (w.setCell ⟨R, k * 8 + 1 + s.val, none⟩ (.int .i64 y)) (st.modify k fun n => { n with to := Cox.upd n.to s (some y) }) := by
 have := h.store (k := k) (j := 1 + s.val) (v := .int .i64 y) (fun n => { n with to := Cox.upd n.to s (some y) }) (by omega) hk
  (fun nd => by match s with | 0 => rfl | 1 => rfl | 2 => rfl)
  (fun nd i x hx => by
    simp only [Cox.upd] at hx
    split at hx
    · cases hx; exact .inr hy
    · exact .inl hx) (fun _ => rfl)
 rw [Nat.add_assoc]; exact this
theorem GRep.setDown (h : GRep a b c B G R cap cur w st) {k : Nat} (s : Fin 3) (hk : k < st.length) :
 GRep a b c B G R cap (cur.setIfInBounds (k * 8 + (4 + s.val)) (.bool true)) (w.setCell ⟨R, k * 8 + 4 + s.val, none⟩ (.bool true)) (st.modify k fun n => { n with down := Cox.upd n.down s true }) := by
 have := h.store (k := k) (j := 4 + s.val) (v := .bool true) (fun n => { n with down := Cox.upd n.down s true }) (by omega) hk
  (fun nd => by match s with | 0 => rfl | 1 => rfl | 2 => rfl)
  (fun nd i x hx => .inl hx) (fun _ => rfl)
 rw [Nat.add_assoc]; exact this
theorem GRep.setWord (h : GRep a b c B G R cap cur w st) {k : Nat} (l : List (Fin 3)) (hk : k < st.length) :
 GRep a b c B G R cap (cur.setIfInBounds (k * 8 + 7) (.string (wb l))) (w.setCell ⟨R, k * 8 + 7, none⟩ (.string (wb l))) (st.modify k fun n => { n with word := l }) :=
 h.store (k := k) (j := 7) (v := .string (wb l)) (fun n => { n with word := l }) (by omega) hk (fun nd => rfl) (fun nd i x hx => .inl hx) (fun _ => rfl)
theorem link_eq (st : List Tl) (x y : Nat) (s : Fin 3) : ((st.modify x fun n => { n with to := Cox.upd n.to s (some y) }).modify y fun n => { n with to := Cox.upd n.to s (some x) }).modify y (fun n => { n with down := Cox.upd n.down s true }) = Cox.link st x y s := by
 unfold Cox.link
 refine List.ext_getElem? fun k => ?_
 simp only [Cox.modify_eq]
 by_cases e : k = y
 · subst e
   by_cases e2 : k = x
   · subst e2
     cases st[k]? <;> simp
   · simp only [if_neg e2]
     cases st[k]? <;> simp
 · simp only [if_neg e]
theorem GRep.owns (h : GRep a b c B G R cap cur w st) : w.ownsRow B 131 8 (.slice (some ⟨R, 0, none⟩) st.length cap) st.length (cur.toList.take (st.length * 8)) := by
 refine ⟨?_, .inr ⟨R, cap, cur, rfl, h.rB, h.row, h.le, h.capm, h.size, rfl⟩⟩
 have := h.le
 have := h.size
 simp; omega
theorem GRep.append (h : GRep a b c B G R cap cur w st) {w' : World} {g cap' : Nat} {n : Tl} (hn : ∀ i, n.to i = none ∨ ∃ k, n.to i = some k ∧ k < st.length + 1) (hnl : n.lev ≤ st.length)
 (ho : w'.ownsRow B 131 8 (.slice (some ⟨g, 0, none⟩) (st.length + 1) cap') (st.length + 1) (cur.toList.take (st.length * 8) ++ (gcells n).toList)) (hg : g ≠ G)
 (hh : w'.heap[G]? = some (.cells #[.int .i64 a, .int .i64 b, .int .i64 c, .slice (some ⟨g, 0, none⟩) ((st.length + 1 : Nat)) cap'] 134 (0, 0))) : GS a b c B G w' (st ++ [n]) := by
 obtain ⟨hl, hr⟩ := ho
 rcases hr with ⟨hr, _⟩ | ⟨g', cap2, cur', hv, hb, hrow, hle, hm, hsz, htk⟩
 · cases hr
 · simp only [Value.slice.injEq, Option.some.injEq, Addr.mk.injEq, and_true, true_and] at hv
   obtain ⟨rfl, hv2⟩ := hv
   have hv3 : cap' = cap2 := by simpa using hv2
   subst hv3
   have hlen : (st ++ [n]).length = st.length + 1 := by simp
   have hxl : (cur.toList.take (st.length * 8)).length = st.length * 8 := by
    have := h.le
    have := h.size
    simp; omega
   have hget : ∀ o, o < (st.length + 1) * 8 → cur'[o]? = (cur.toList.take (st.length * 8) ++ (gcells n).toList)[o]? := by
    intro o ho
    rw [← htk, List.getElem?_take, if_pos ho]
    simp
   refine ⟨g, cap', cur', ⟨?_, hrow, hg, h.gB, hb, by rw [hlen]; exact hle, hm, hsz, ?_, ?_, ?_⟩⟩
   · rw [hlen]; exact hh
   · intro k nd hk j hj
     have hkl : k < st.length + 1 := by have := (List.getElem?_eq_some_iff.1 hk).1; rwa [hlen] at this
     rw [hget _ (by omega)]
     rcases Nat.lt_or_ge k st.length with h1 | h1
     · rw [List.getElem?_append_left h1] at hk
       rw [List.getElem?_append_left (by rw [hxl]; omega), List.getElem?_take, if_pos (by omega)]
       rw [← h.cells k nd hk j hj]
       simp
     · have e : k = st.length := by omega
       subst e
       simp at hk
       subst hk
       rw [List.getElem?_append_right (by rw [hxl]; omega), hxl, Nat.add_sub_cancel_left]
       simp
   · intro k nd i x hk hx
     rw [hlen]
     rcases Nat.lt_or_ge k st.length with h1 | h1
     · rw [List.getElem?_append_left h1] at hk
       have := h.closed k nd i x hk hx
       omega
     · have e : k = st.length := by
        have := (List.getElem?_eq_some_iff.1 hk).1
        rw [hlen] at this; omega
       subst e
       simp at hk
       subst hk
       rcases hn i with h2 | ⟨k, h2, h3⟩
       · rw [h2] at hx; cases hx
       · rw [h2] at hx; cases hx; exact h3
   · intro k nd hk
     rcases Nat.lt_or_ge k st.length with h1 | h1
     · rw [List.getElem?_append_left h1] at hk
       exact h.lev k nd hk
     · have e : k = st.length := by
        have := (List.getElem?_eq_some_iff.1 hk).1
        rw [hlen] at this; omega
       subst e
       simp at hk
       subst hk
       exact hnl
end
end Go.Proofs.Ytkndmibmmoikbaa
namespace Go.Proofs.Ytkndmibmmoikbaa
open Go.RowKit
open Cox (Tl)
theorem other_any (a b : Int) (n : Nat) (w : World) : Calls Try.prog 83 #[.int .i64 a, .int .i64 b, .int .i64 n] w fun e w' => e = .returned (.int .i64 (if n % 2 = 0 then a else b)) ∧ w' = w := by
 rcases Nat.mod_two_eq_zero_or_one n with h | h
 · have h1 : (n : Int).tmod 2 = 0 := by rw [Int.tmod_eq_emod_of_nonneg (by omega)]; omega
   rw [if_pos h]
   go_enter Try.func83, Try.ntmps83
   go_wp2
   go_ret
   exact ⟨rfl, rfl⟩
 · have h1 : (n : Int).tmod 2 = 1 := by rw [Int.tmod_eq_emod_of_nonneg (by omega)]; omega
   rw [if_neg (by omega)]
   go_enter Try.func83, Try.ntmps83
   go_wp2
   go_ret
   exact ⟨rfl, rfl⟩
theorem gstep_known (a b c : Int) (B G : Nat) (w : World) (st : List Tl) (hg : GS a b c B G w st) (x : Nat) (s : Fin 3) (nd : Tl) (hx : st[x]? = some nd) (y : Nat) (hy : nd.to s = some y) :
 Calls Try.prog 75 #[.pointer (some ⟨G, 0, none⟩), .int .i64 x, .int .i64 (s.val : Int)] w fun e w' => e = .returned (.int .i64 y) ∧ w' = w := by
 obtain ⟨R, cap, cur, h⟩ := hg
 have c0 := h.slice
 have c1 := h.to hx s
 rw [hy] at c1
 simp only [gi] at c1
 have hxl : x < st.length := (List.getElem?_eq_some_iff.1 hx).1
 have hs := s.isLt
 have i1 : (x : Int) < (st.length : Int) := by omega
 have i2 : (0 : Int) ≤ (x : Int) := by omega
 have i3 : (s.val : Int) < 3 := by omega
 have i4 : (0 : Int) ≤ (s.val : Int) := by omega
 have i5 : (0 : Int) ≤ (y : Int) := by omega
 clear h hx hs
 go_enter Try.func75, Try.ntmps75
 go_wp2
 go_ret
 exact ⟨rfl, rfl⟩
end Go.Proofs.Ytkndmibmmoikbaa
namespace Go.Proofs.Ytkndmibmmoikbaa
open Go.RowKit
open Cox (Tl)
theorem info81 : Option.map (fun i => (i.zero, i.size, i.bytes)) (Try.prog.info? 131) = some (some (.agg #[.int .i64 0, .int .i64 0, .int .i64 0, .int .i64 0, .bool false, .bool false, .bool false, .string ⟨#[]⟩]), 8, 56) := by kernel_rfl
theorem letter_all (i : Fin 3) (w : World) : Calls Try.prog 82 #[.int .i64 (i.val : Int)] w fun e w' => e = .returned (.string (wb [i])) ∧ w' = w.alloc (.cells #[.int .u8 (i.val : Int)] 5) := by
 have hcv := fun W b o => conv_byte i W ⟨b, o, none⟩ rfl
 match i with
 | 0 =>
  go_enter Try.func82, Try.ntmps82
  go_wp2
  go_ret
  exact ⟨rfl, rfl⟩
 | 1 =>
  go_enter Try.func82, Try.ntmps82
  go_wp2
  go_ret
  exact ⟨rfl, rfl⟩
 | 2 =>
  go_enter Try.func82, Try.ntmps82
  go_wp2
  go_ret
  exact ⟨rfl, rfl⟩
theorem cell_lt {w : World} {p : Addr} {v : Value} (h : w.cell? p = some v) : p.block < w.heap.size := by
 unfold World.cell? at h
 cases hb : w.heap[p.block]? with
 | none => rw [hb] at h; cases h
 | some ob => exact (Array.getElem?_eq_some_iff.1 hb).1
theorem cell_below {w w' : World} {p : Addr} {v : Value} (h : w.cell? p = some v) (hb : Below w.heap.size w w') : w'.cell? p = some v := by
 rw [Below.cell hb (cell_lt h)]; exact h
theorem cell_alloc {w : World} {p : Addr} {v : Value} (h : w.cell? p = some v) (o : Obj) : (w.alloc o).cell? p = some v := cell_below h ((Below.refl _ _).alloc (Nat.le_refl _) o)
/-! ### the plain function makes the list longer -/
theorem link_len (st : List Tl) (x y : Nat) (s : Fin 3) : (Cox.link st x y s).length = st.length := Cox.length_link st x y s
theorem climb_len {step : List Tl → Nat → Fin 3 → Option (List Tl × Nat)} (hs : ∀ st x s st' y, step st x s = some (st', y) → st.length ≤ st'.length) (n : Nat) : ∀ (st : List Tl) (x : Nat) (p q : Fin 3) (r : List Tl × Nat), Cox.climb step n st x p q = some r → st.length ≤ r.1.length := by
 induction n with
 | zero => intro st x p q r h; simp only [Cox.climb, Option.some.injEq] at h; subst h; exact Nat.le_refl _
 | succ n ih =>
  intro st x p q r h
  obtain ⟨st1, x1, h1, h2⟩ := Cox.climb_succ h
  exact Nat.le_trans (hs _ _ _ _ _ h1) (ih _ _ _ _ _ h2)
theorem round_len {m : Fin 3 → Fin 3 → Nat} {f : Nat} {step : List Tl → Nat → Fin 3 → Option (List Tl × Nat)} (hs : ∀ st x s st' y, step st x s = some (st', y) → st.length ≤ st'.length) {st : List Tl} {x y : Nat} {s t : Fin 3} {st' : List Tl} (h : Cox.round m f step st x y s t = some st') : st.length ≤ st'.length := by
 rcases Cox.round_cases h with ⟨_, rfl⟩ | ⟨_, _, rfl⟩ | ⟨_, q, _, h2⟩
 · exact Nat.le_refl _
 · exact Nat.le_refl _
 · rcases h2 with ⟨_, rfl⟩ | ⟨v, st2, z, nz, ny, _, hc, _, _, _, _, h7⟩
   · exact Nat.le_refl _
   · have := climb_len hs _ _ _ _ _ _ hc
     rcases h7 with ⟨_, rfl⟩ | ⟨_, rfl⟩
     · rw [List.length_modify, link_len]; exact this
     · rw [link_len]; exact this
theorem step_len (m : Fin 3 → Fin 3 → Nat) (f : Nat) : ∀ (st : List Tl) (x : Nat) (s : Fin 3) (st' : List Tl) (y : Nat), Cox.step m f st x s = some (st', y) → st.length ≤ st'.length := by
 induction f with
 | zero => intro st x s st' y h; simp [Cox.step] at h
 | succ f ih =>
  intro st x s st' y h
  cases hn : st[x]? with
  | none => simp [Cox.step, hn] at h
  | some nd =>
   cases ht : nd.to s with
   | some y0 =>
    simp only [Cox.step, hn, Option.bind_some, ht] at h
    split at h
    · cases h
    · simp only [Option.some.injEq, Prod.mk.injEq] at h
      obtain ⟨rfl, _⟩ := h
      exact Nat.le_refl _
   | none =>
    obtain ⟨_, _, sa, sb, ra, rb, rc⟩ := step_none h hn ht
    have h1 := round_len ih ra
    have h2 := round_len ih rb
    have h3 := round_len ih rc
    rw [link_len, List.length_append] at h1
    simp only [List.length_cons, List.length_nil] at h1
    omega
section
variable {a b c : Int} {B G R cap : Nat} {cur : Array Value} {w : World} {st : List Tl}
theorem GRep.owns_alloc (h : GRep a b c B G R cap cur w st) (o : Obj) : (w.alloc o).ownsRow B 131 8 (.slice (some ⟨R, 0, none⟩) st.length cap) st.length (cur.toList.take (st.length * 8)) :=
 (h.below ((Below.refl _ _).alloc (Nat.le_refl _) o)).owns
theorem GRep.app_cell (h : GRep a b c B G R cap cur w st) {o : Obj} {w1 : World} (hgrow : (w.alloc o).grownBy w1 (some R)) : w1.heap[G]? = some (.cells #[.int .i64 a, .int .i64 b, .int .i64 c, .slice (some ⟨R, 0, none⟩) st.length cap] 134 (0, 0)) := by
 rw [hgrow.block G (by have := h.glt; simp; omega) (fun e => h.ne (by simpa using e.symm))]
 exact (h.below ((Below.refl _ _).alloc (Nat.le_refl _) o)).head
theorem GRep.app_done (h : GRep a b c B G R cap cur w st) {o : Obj} {w1 : World} {g cap' : Nat} {n : Tl} (hn : ∀ i, n.to i = none ∨ ∃ k, n.to i = some k ∧ k < st.length + 1) (hnl : n.lev ≤ st.length)
 (hown : w1.ownsRow B 131 8 (.slice (some ⟨g, 0, none⟩) (st.length + 1) cap') (st.length + 1) (cur.toList.take (st.length * 8) ++ (gcells n).toList)) (hgrow : (w.alloc o).grownBy w1 (some R)) (hat : some R = some g ∨ g = (w.alloc o).heap.size) :
 GS a b c B G (w1.setCell ⟨G, 3, none⟩ (.slice (some ⟨g, 0, none⟩) (st.length + 1) cap')) (st ++ [n]) ∧ Below B w (w1.setCell ⟨G, 3, none⟩ (.slice (some ⟨g, 0, none⟩) (st.length + 1) cap')) := by
 have hG := h.app_cell hgrow
 have hgG : g ≠ G := by
  rcases hat with e | e
  · simp only [Option.some.injEq] at e; rw [← e]; exact h.ne
  · rw [e, World.size_alloc]; have := h.glt; omega
 have hh := fun q => heap_setCell w1 G 3 (.slice (some ⟨g, 0, none⟩) (st.length + 1) cap') q hG
 constructor
 · refine h.append (w' := w1.setCell ⟨G, 3, none⟩ (.slice (some ⟨g, 0, none⟩) (st.length + 1) cap')) (g := g) (cap' := cap') hn hnl ?_ hgG ?_
   · obtain ⟨h1, h2⟩ := hown
     refine ⟨h1, ?_⟩
     rcases h2 with h2 | ⟨g', c2, cur2, e1, e2, e3, e4⟩
     · exact .inl h2
     · refine .inr ⟨g', c2, cur2, e1, e2, ?_, e4⟩
       have : g = g' := by
        simp only [Value.slice.injEq, Option.some.injEq, Addr.mk.injEq] at e1
        exact e1.1.1
       subst this
       rw [hh, if_neg hgG]; exact e3
   · rw [hh, if_pos rfl]; rfl
 · have b1 : Below B w (w.alloc o) := (Below.refl _ _).alloc (by have := h.gB; have := h.glt; omega) o
   refine b1.trans ⟨hgrow.os, hgrow.tape, hgrow.output, ?_, ?_⟩
   · have := hgrow.size; simpa [World.setCell] using this
   · intro k hk
     have hGB := h.gB
     have hRB := h.rB
     have hgl := h.glt
     rw [hh, if_neg (by omega)]
     exact hgrow.block k (by simp; omega) (fun e => by
      have : k = R := by simpa using e
      omega)
end
def newTl (nd : Tl) (s : Fin 3) (x : Nat) : Tl := { Cox.fresh nd s with to := Cox.upd (Cox.fresh nd s).to s (some x), down := Cox.upd (Cox.fresh nd s).down s true }
theorem link_new {st : List Tl} {x : Nat} {s : Fin 3} {nd : Tl} (hx : x < st.length) : ((st ++ [newTl nd s x]).modify x fun n => { n with to := Cox.upd n.to s (some st.length) }) = Cox.link (st ++ [Cox.fresh nd s]) x st.length s := by
 have hxy : x ≠ st.length := by omega
 refine List.ext_getElem? fun k => ?_
 rw [Cox.getElem?_link hxy, Cox.modify_eq]
 rcases Nat.lt_or_ge k st.length with h | h
 · rw [List.getElem?_append_left h, List.getElem?_append_left h]
   by_cases e : k = x
   · rw [if_pos e, if_pos e]
   · rw [if_neg e, if_neg e, if_neg (by omega)]
 · by_cases e : k = st.length
   · subst e
     rw [if_neg (by omega), if_neg (by omega), if_pos rfl]
     simp [newTl]
   · rw [if_neg (by omega), if_neg (by omega), if_neg e]
     rw [List.getElem?_append_right h, List.getElem?_append_right h]
     have : k - st.length ≠ 0 := by omega
     obtain ⟨j, hj⟩ : ∃ j, k - st.length = j + 1 := ⟨k - st.length - 1, by omega⟩
     rw [hj]; rfl
theorem gcells_new (nd : Tl) (s : Fin 3) (x : Nat) : gcells (newTl nd s x) = ((#[.int .i64 ((nd.lev : Int) + 1), .int .i64 (-1), .int .i64 (-1), .int .i64 (-1), .bool false, .bool false, .bool false, .string (wb (nd.word ++ [s]))] : Array Value).setIfInBounds (1 + s.val) (.int .i64 x)).setIfInBounds (4 + s.val) (.bool true) := by
 match s with
 | 0 => rfl
 | 1 => rfl
 | 2 => rfl
end Go.Proofs.Ytkndmibmmoikbaa
