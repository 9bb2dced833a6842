import Derived.Test.YtlhmfaelkkiahaaRef1
namespace Go.Proofs.Ytlhmfaelkkiahaa
open Go.RowKit
open Cox (Tl)

theorem info81 : Option.map (fun i => (i.zero, i.size, i.bytes)) (Try.prog.info? 81) = some (some (.agg #[.int .i64 0, .int .i64 0, .int .i64 0, .int .i64 0, .bool false, .bool false, .bool false, .string ⟨#[]⟩]), 8, 56) := by kernel_rfl

theorem letter_all (i : Fin 3) (w : World) : Calls Try.prog 28 #[.int .i64 (i.val : Int)] w fun e w' => e = .returned (.string (wb [i])) ∧ w' = w.alloc (.cells #[.int .u8 (i.val : Int)] 5) := by
  have hcv := fun W b o => conv_byte i W ⟨b, o, none⟩ rfl
  match i with
  | 0 =>
    go_enter Try.func28, Try.ntmps28
    go_wp2
    go_ret
    exact ⟨rfl, rfl⟩
  | 1 =>
    go_enter Try.func28, Try.ntmps28
    go_wp2
    go_ret
    exact ⟨rfl, rfl⟩
  | 2 =>
    go_enter Try.func28, Try.ntmps28
    go_wp2
    go_ret
    exact ⟨rfl, rfl⟩
theorem cell_lt {w : World} {p : Addr} {v : Value} (h : w.cell? p = some v) : p.block < w.heap.size := by
  unfold World.cell? at h
  cases hb : w.heap[p.block]? with
  | none => rw [hb] at h; cases h
  | some ob => exact (Array.getElem?_eq_some_iff.1 hb).1
theorem cell_below {w w' : World} {p : Addr} {v : Value} (h : w.cell? p = some v) (hb : Below w.heap.size w w') : w'.cell? p = some v := by
  rw [Below.cell hb (cell_lt h)]; exact h
theorem cell_alloc {w : World} {p : Addr} {v : Value} (h : w.cell? p = some v) (o : Obj) : (w.alloc o).cell? p = some v := cell_below h ((Below.refl _ _).alloc (Nat.le_refl _) o)

/-! ### the plain function makes the list longer -/
theorem link_len (st : List Tl) (x y : Nat) (s : Fin 3) : (Cox.link st x y s).length = st.length := Cox.length_link st x y s
theorem climb_len {step : List Tl → Nat → Fin 3 → Option (List Tl × Nat)} (hs : ∀ st x s st' y, step st x s = some (st', y) → st.length ≤ st'.length) (n : Nat) : ∀ (st : List Tl) (x : Nat) (p q : Fin 3) (r : List Tl × Nat), Cox.climb step n st x p q = some r → st.length ≤ r.1.length := by
  induction n with
  | zero => intro st x p q r h; simp only [Cox.climb, Option.some.injEq] at h; subst h; exact Nat.le_refl _
  | succ n ih =>
    intro st x p q r h
    obtain ⟨st1, x1, h1, h2⟩ := Cox.climb_succ h
    exact Nat.le_trans (hs _ _ _ _ _ h1) (ih _ _ _ _ _ h2)
theorem round_len {m : Fin 3 → Fin 3 → Nat} {f : Nat} {step : List Tl → Nat → Fin 3 → Option (List Tl × Nat)} (hs : ∀ st x s st' y, step st x s = some (st', y) → st.length ≤ st'.length) {st : List Tl} {x y : Nat} {s t : Fin 3} {st' : List Tl} (h : Cox.round m f step st x y s t = some st') : st.length ≤ st'.length := by
  rcases Cox.round_cases h with ⟨_, rfl⟩ | ⟨_, _, rfl⟩ | ⟨_, q, _, h2⟩
  · exact Nat.le_refl _
  · exact Nat.le_refl _
  · rcases h2 with ⟨_, rfl⟩ | ⟨v, st2, z, nz, ny, _, hc, _, _, _, _, h7⟩
    · exact Nat.le_refl _
    · have := climb_len hs _ _ _ _ _ _ hc
      rcases h7 with ⟨_, rfl⟩ | ⟨_, rfl⟩
      · rw [List.length_modify, link_len]; exact this
      · rw [link_len]; exact this
theorem step_len (m : Fin 3 → Fin 3 → Nat) (f : Nat) : ∀ (st : List Tl) (x : Nat) (s : Fin 3) (st' : List Tl) (y : Nat), Cox.step m f st x s = some (st', y) → st.length ≤ st'.length := by
  induction f with
  | zero => intro st x s st' y h; simp [Cox.step] at h
  | succ f ih =>
    intro st x s st' y h
    cases hn : st[x]? with
    | none => simp [Cox.step, hn] at h
    | some nd =>
      cases ht : nd.to s with
      | some y0 =>
        simp only [Cox.step, hn, Option.bind_some, ht] at h
        split at h
        · cases h
        · simp only [Option.some.injEq, Prod.mk.injEq] at h
          obtain ⟨rfl, _⟩ := h
          exact Nat.le_refl _
      | none =>
        obtain ⟨_, _, sa, sb, ra, rb, rc⟩ := step_none h hn ht
        have h1 := round_len ih ra
        have h2 := round_len ih rb
        have h3 := round_len ih rc
        rw [link_len, List.length_append] at h1
        simp only [List.length_cons, List.length_nil] at h1
        omega

section
variable {a b c : Int} {B G R cap : Nat} {cur : Array Value} {w : World} {st : List Tl}
theorem GRep.owns_alloc (h : GRep a b c B G R cap cur w st) (o : Obj) : (w.alloc o).ownsRow B 81 8 (.slice (some ⟨R, 0, none⟩) st.length cap) st.length (cur.toList.take (st.length * 8)) :=
  (h.below ((Below.refl _ _).alloc (Nat.le_refl _) o)).owns
theorem GRep.app_cell (h : GRep a b c B G R cap cur w st) {o : Obj} {w1 : World} (hgrow : (w.alloc o).grownBy w1 (some R)) : w1.heap[G]? = some (.cells #[.int .i64 a, .int .i64 b, .int .i64 c, .slice (some ⟨R, 0, none⟩) st.length cap] 84 (0, 0)) := by
  rw [hgrow.block G (by have := h.glt; simp; omega) (fun e => h.ne (by simpa using e.symm))]
  exact (h.below ((Below.refl _ _).alloc (Nat.le_refl _) o)).head
theorem GRep.app_done (h : GRep a b c B G R cap cur w st) {o : Obj} {w1 : World} {g cap' : Nat} {n : Tl} (hn : ∀ i, n.to i = none ∨ ∃ k, n.to i = some k ∧ k < st.length + 1) (hnl : n.lev ≤ st.length)
    (hown : w1.ownsRow B 81 8 (.slice (some ⟨g, 0, none⟩) (st.length + 1) cap') (st.length + 1) (cur.toList.take (st.length * 8) ++ (gcells n).toList)) (hgrow : (w.alloc o).grownBy w1 (some R)) (hat : some R = some g ∨ g = (w.alloc o).heap.size) :
    GS a b c B G (w1.setCell ⟨G, 3, none⟩ (.slice (some ⟨g, 0, none⟩) (st.length + 1) cap')) (st ++ [n]) ∧ Below B w (w1.setCell ⟨G, 3, none⟩ (.slice (some ⟨g, 0, none⟩) (st.length + 1) cap')) := by
  have hG := h.app_cell hgrow
  have hgG : g ≠ G := by
    rcases hat with e | e
    · simp only [Option.some.injEq] at e; rw [← e]; exact h.ne
    · rw [e, World.size_alloc]; have := h.glt; omega
  have hh := fun q => heap_setCell w1 G 3 (.slice (some ⟨g, 0, none⟩) (st.length + 1) cap') q hG
  constructor
  · refine h.append (w' := w1.setCell ⟨G, 3, none⟩ (.slice (some ⟨g, 0, none⟩) (st.length + 1) cap')) (g := g) (cap' := cap') hn hnl ?_ hgG ?_
    · obtain ⟨h1, h2⟩ := hown
      refine ⟨h1, ?_⟩
      rcases h2 with h2 | ⟨g', c2, cur2, e1, e2, e3, e4⟩
      · exact .inl h2
      · refine .inr ⟨g', c2, cur2, e1, e2, ?_, e4⟩
        have : g = g' := by
          simp only [Value.slice.injEq, Option.some.injEq, Addr.mk.injEq] at e1
          exact e1.1.1
        subst this
        rw [hh, if_neg hgG]; exact e3
    · rw [hh, if_pos rfl]; rfl
  · have b1 : Below B w (w.alloc o) := (Below.refl _ _).alloc (by have := h.gB; have := h.glt; omega) o
    refine b1.trans ⟨hgrow.os, hgrow.tape, hgrow.output, ?_, ?_⟩
    · have := hgrow.size; simpa [World.setCell] using this
    · intro k hk
      have hGB := h.gB
      have hRB := h.rB
      have hgl := h.glt
      rw [hh, if_neg (by omega)]
      exact hgrow.block k (by simp; omega) (fun e => by
        have : k = R := by simpa using e
        omega)
end

/-- the new tile -/
def newTl (nd : Tl) (s : Fin 3) (x : Nat) : Tl := { Cox.fresh nd s with to := Cox.upd (Cox.fresh nd s).to s (some x), down := Cox.upd (Cox.fresh nd s).down s true }
theorem link_new {st : List Tl} {x : Nat} {s : Fin 3} {nd : Tl} (hx : x < st.length) : ((st ++ [newTl nd s x]).modify x fun n => { n with to := Cox.upd n.to s (some st.length) }) = Cox.link (st ++ [Cox.fresh nd s]) x st.length s := by
  have hxy : x ≠ st.length := by omega
  refine List.ext_getElem? fun k => ?_
  rw [Cox.getElem?_link hxy, Cox.modify_eq]
  rcases Nat.lt_or_ge k st.length with h | h
  · rw [List.getElem?_append_left h, List.getElem?_append_left h]
    by_cases e : k = x
    · rw [if_pos e, if_pos e]
    · rw [if_neg e, if_neg e, if_neg (by omega)]
  · by_cases e : k = st.length
    · subst e
      rw [if_neg (by omega), if_neg (by omega), if_pos rfl]
      simp [newTl]
    · rw [if_neg (by omega), if_neg (by omega), if_neg e]
      rw [List.getElem?_append_right h, List.getElem?_append_right h]
      have : k - st.length ≠ 0 := by omega
      obtain ⟨j, hj⟩ : ∃ j, k - st.length = j + 1 := ⟨k - st.length - 1, by omega⟩
      rw [hj]; rfl
theorem gcells_new (nd : Tl) (s : Fin 3) (x : Nat) : gcells (newTl nd s x) = ((#[.int .i64 ((nd.lev : Int) + 1), .int .i64 (-1), .int .i64 (-1), .int .i64 (-1), .bool false, .bool false, .bool false, .string (wb (nd.word ++ [s]))] : Array Value).setIfInBounds (1 + s.val) (.int .i64 x)).setIfInBounds (4 + s.val) (.bool true) := by
  match s with
  | 0 => rfl
  | 1 => rfl
  | 2 => rfl
end Go.Proofs.Ytlhmfaelkkiahaa
