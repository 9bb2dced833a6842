import Derived.Test.YtlhmfaelkkiahaaWords3
import Derived.Deep.RegionHeld3
import Derived.StillTactics
namespace Go.Proofs.Ytlhmfaelkkiahaa
open Go.RowKit
open Cox (Tl)

/-- all blocks but tiles stay -/
def Keep (w w' : World) : Prop := ∀ (b : Nat) (cs : Array Value) (T : TypeId), T ≠ 75 → w.heap[b]? = some (.cells cs T (0, 0)) → w'.heap[b]? = some (.cells cs T (0, 0))
theorem Keep.get {w w' : World} (h : Keep w w') {b : Nat} {cs : Array Value} {T : TypeId} (hT : T ≠ 75) (hb : w.heap[b]? = some (.cells cs T (0, 0))) : w'.heap[b]? = some (.cells cs T (0, 0)) := h b cs T hT hb
theorem Keep.of_out {A : Nat → Nat} {st : List Tl} {w w' : World} (hr : Rep w A st) (h : Out (In A st.length) w w') : Keep w w' := by
  intro b cs T hT hb
  rw [h.block b (Array.getElem?_eq_some_iff.1 hb).1 ?_]
  · exact hb
  · rintro ⟨k, hk, rfl⟩
    have := hr.cells k st[k] (List.getElem?_eq_getElem hk)
    rw [hb] at this
    simp only [Option.some.injEq, Obj.cells.injEq] at this
    exact hT this.2.1

theorem str_new (W : World) (cs : Array Value) (T : TypeId) (n : Nat) (hn : n = W.heap.size) : (W.alloc (.cells cs T)).heap[n]? = some (.cells cs T (0, 0)) := by
  subst hn
  show (W.heap.push _)[W.heap.size]? = _
  simp
theorem str_old (W : World) (o' : Obj) {b : Nat} {o : Obj} (h : W.heap[b]? = some o) : (W.alloc o').heap[b]? = some o := by
  have := (Array.getElem?_eq_some_iff.1 h).1
  show (W.heap.push _)[b]? = _
  rw [Array.getElem?_push, if_neg (by omega)]; exact h
theorem str_drew (W : World) {b : Nat} {o : Obj} (h : W.heap[b]? = some o) : W.drew.heap[b]? = some o := h

theorem str_set (W : World) {b : Nat} {x : Value} (v : Value) {T : TypeId} (h : W.heap[b]? = some (.cells #[x] T (0, 0))) : (W.setCell ⟨b, 0, none⟩ v).heap[b]? = some (.cells #[v] T (0, 0)) := by
  rw [heap_setCell _ _ _ _ _ h, if_pos rfl]; rfl
theorem str_set_far (W : World) {b b' : Nat} (v : Value) {o : Obj} (h : W.heap[b']? = some o) (hn : b' ≠ b) : (W.setCell ⟨b, 0, none⟩ v).heap[b']? = some o := by
  rw [Below.heap_setCell _ _ _ _ hn]; exact h

section
variable {K : Type} [Cox.OR K]

/-- a plane's state -/
def Held (w0 : World) (T : Cox.Tri K) (a b c p F : Nat) (w : World) : Prop := ∃ A st P, PState w0 T a b c p F A st P w
theorem Held.alloc {w0 : World} {T : Cox.Tri K} {a b c p F : Nat} {w : World} (h : Held w0 T a b c p F w) (o : Obj) : Held w0 T a b c p F (w.alloc o) := by
  obtain ⟨A, st, P, h⟩ := h
  exact ⟨A, st, P, h.mono ((Below.refl _ _).alloc (Nat.le_refl _) _)⟩
theorem Held.drew {w0 : World} {T : Cox.Tri K} {a b c p F : Nat} {w : World} (h : Held w0 T a b c p F w) : Held w0 T a b c p F w.drew := by
  obtain ⟨A, st, P, h⟩ := h
  exact ⟨A, st, P, h.mono (Below.refl _ _).drew⟩
theorem Held.below {w0 : World} {T : Cox.Tri K} {a b c p F : Nat} {w : World} (h : Held w0 T a b c p F w) : Below w0.heap.size w0 w := by
  obtain ⟨A, st, P, h⟩ := h
  exact h.below

theorem normal_held {w0 : World} {T : Cox.Tri K} {a b c p F : Nat} {w : World} (h : Held w0 T a b c p F w) (l : List (Fin 3)) (hl : l.length < 1000) (bl : Nat) (hs : w.heap[bl]? = some (.cells #[.string (wb l)] 9 (0, 0))) :
    Calls Try.prog 27 #[.agg #[.pointer (some ⟨p, 0, none⟩)], .slice (some ⟨bl, 0, none⟩) 1 1] w fun e w' => e = .returned (.string (wb (Cox.nf T l))) ∧ Held w0 T a b c p F w' ∧ Keep w w' := by
  obtain ⟨A, st, P, h⟩ := h
  have hbl := (Array.getElem?_eq_some_iff.1 hs).1
  have hnb : ¬ In A st.length bl := by
    rintro ⟨k, hk, rfl⟩
    have := h.rep.cells k st[k] (List.getElem?_eq_getElem hk)
    rw [hs] at this
    simp at this
  have hst : Strs w bl ([l].map wb) := by
    intro i hi
    have hi0 : i = 0 := by simpa using hi
    subst hi0
    rw [cell_of hs]; rfl
  have := normal_st h [l] (by simp) (by intro x hx; have hx' : x = l := by simpa using hx
                                        subst hx'; exact hl) bl 1 (by simp; omega) hbl hnb hst
  have e : [l].flatten = l := by simp
  rw [e] at this
  refine this.mono ?_
  rintro e w' ⟨A', st', P', rfl, h2, ho⟩
  exact ⟨rfl, ⟨A', st', P', h2⟩, Keep.of_out h.rep ho⟩

theorem same_s {W : World} {B7 B8 : Nat} {x y : Value} (h7 : W.heap[B7]? = some (.cells #[x] 26 (0, 0))) (h8 : W.heap[B8]? = some (.cells #[y] 52 (0, 0))) :
    W.cell? ⟨B8, 0, none⟩ = some y ∧ W.cell? ⟨B7, 0, none⟩ = some x ∧ W.frozen? ⟨B7, 0, none⟩ = false := ⟨cell_of h8 0, cell_of h7 0, free_of h7 0⟩

theorem same_yes (T : Cox.Tri K) (a b c : Nat) (hT : T.m = ords a b c) (u v : List (Fin 3)) (he : errs a b c [wb u, wb v] = 0) (w : World) :
    Calls Try.prog 11 #[oval a b c, .string (wb u), .string (wb v)] w fun e w' => e = .returned (.tuple #[.bool ((wb (Cox.nf T u)).toList == (wb (Cox.nf T v)).toList), .int .i64 0]) ∧ Below w.heap.size w w' := by
  obtain ⟨_, h60⟩ := errs_ok (ws := [u, v]) he
  have hu := h60 u (by simp)
  have hv := h60 v (by simp)
  have HB := Lib.hid (fun (bl C : Nat) (w : World) (hbl : bl < w.heap.size) (hl : Strs w bl ([u, v].map wb)) => begun_st T a b c hT [u, v] bl C (by simp) w hbl hl he)
  clear he h60
  unfold oval at *
  go_enter_defers Try.func11, Try.ntmps11
  go_wp2_with fail
  go_at_call 26
  refine (HB.out _ _ _ (by simp) (strs_two _ _ _ _ _ (by simp))).mono ?_
  rintro e wa ⟨p, F, rfl, hst⟩
  have hH : Held (((w.alloc (.cells #[.int .i64 a, .int .i64 b, .int .i64 c] 23)).alloc (.cells #[.int .i64 0] 26)).alloc (.cells #[.string (wb u), .string (wb v)] 9)) T a b c p F wa := ⟨_, _, _, hst⟩
  have h7 : wa.heap[w.heap.size + 1]? = some (.cells #[.int .i64 0] 26 (0, 0)) := by
    rw [hst.below.block _ (by simp)]
    exact str_old _ _ (str_new _ _ _ _ (by simp))
  have h7' := str_old wa (.cells #[.pointer (some ⟨p, 0, none⟩)] 52) h7
  have h8 := str_new wa #[.pointer (some ⟨p, 0, none⟩)] 52 _ rfl
  have hH' := hH.alloc (.cells #[.pointer (some ⟨p, 0, none⟩)] 52)
  have hsz : w.heap.size + 2 < wa.heap.size := by have := hst.below.size; simp at this; omega
  have HSZ := Lib.hid hsz
  clear hsz
  generalize hw0 : ((w.alloc (.cells #[.int .i64 a, .int .i64 b, .int .i64 c] 23)).alloc (.cells #[.int .i64 0] 26)).alloc (.cells #[.string (wb u), .string (wb v)] 9) = w0 at *
  have NHu := fun (W : World) bl (h : Held w0 T a b c p F W) hs => normal_held h u (by omega) bl hs
  have NHv := fun (W : World) bl (h : Held w0 T a b c p F W) hs => normal_held h v (by omega) bl hs
  have NU := Lib.hid NHu
  have NV := Lib.hid NHv
  clear NHu NHv h7 hH
  have hbel : ∀ W, Held w0 T a b c p F W → Below w.heap.size w (W.setCell ⟨w.heap.size + 1, 0, none⟩ (.int .i64 0)) := by
    intro W hW
    have h0 : Below w.heap.size w w0 := by rw [← hw0]; exact (((Below.refl _ _).alloc (Nat.le_refl _) _).alloc (by simp) _).alloc (by simp; omega) _
    exact (h0.trans (hW.below.mono h0.size)).setCell (by simp) _
  have HBEL := Lib.hid hbel
  clear hbel
  have HW0 := Lib.hid hw0
  clear hw0
  go_wp2_with fail
  have hne : wa.heap.size ≠ w.heap.size + 1 := by have := HSZ.out; omega
  generalize wa.alloc (.cells #[.pointer (some ⟨p, 0, none⟩)] 52) = w8 at *
  generalize w.heap.size + 1 = B7 at *
  generalize wa.heap.size = B8 at *
  go_region_held3 (fun w' => w'.cell? ⟨B8, 0, none⟩ = some (.pointer (some ⟨p, 0, none⟩)) ∧ w'.cell? ⟨B7, 0, none⟩ = some (.int .i64 0) ∧ w'.frozen? ⟨B7, 0, none⟩ = false)
    ((refine same_s ?_ ?_ <;> (repeat (with_reducible first | assumption | (refine str_drew _ ?_) | (refine str_new _ _ _ _ ?_; simp; done) | (refine str_old _ _ ?_) | (refine str_set (x := .int .i64 0) _ _ ?_) | (refine str_set_far _ _ ?_ hne) | (refine Keep.get (by with_reducible assumption) (by decide) ?_)))))
    (first
      | (go_at_call 27; refine (NU.out _ _ ?_ ?_).mono ?_; (focus ((repeat (with_reducible first | assumption | (refine Held.alloc ?_ _) | (refine Held.drew ?_))); done)); (focus ((repeat (with_reducible first | assumption | (refine str_drew _ ?_) | (refine str_new _ _ _ _ ?_; simp; done) | (refine str_old _ _ ?_) | (refine Keep.get (by with_reducible assumption) (by decide) ?_))); done)); rintro e w3 ⟨rfl, hh3, hk3⟩)
      | (go_at_call 27; refine (NV.out _ _ ?_ ?_).mono ?_; (focus ((repeat (with_reducible first | assumption | (refine Held.alloc ?_ _) | (refine Held.drew ?_))); done)); (focus ((repeat (with_reducible first | assumption | (refine str_drew _ ?_) | (refine str_new _ _ _ _ ?_; simp; done) | (refine str_old _ _ ?_) | (refine Keep.get (by with_reducible assumption) (by decide) ?_))); done)); rintro e w3 ⟨rfl, hh3, hk3⟩))
  all_goals
    go_wp2
    refine leaves_cons (f := 25) (args := #[.pointer (some ⟨B7, 0, none⟩)]) (by simp) (by simp [go_sem]) ?_
    refine (caught_idle ⟨B7, 0, none⟩ _).mono ?_
    rintro e u' w'' ⟨rfl, rfl, rfl⟩
    have hb4 := HBEL.out w3 hh3
    rename_i hheld
    have q7 := hheld.2.1
    simp [Leaves, settle, results, Try.results11, go_sem, hb4, q7]

theorem same_no (a b c : Int) (s t : ByteArray) (hs : s.size ≤ maxLen) (ht : t.size ≤ maxLen) (he : errs a b c [s, t] ≠ 0) (w : World) :
    Calls Try.prog 11 #[oval a b c, .string s, .string t] w fun e w' => e = .returned (.tuple #[.bool false, .int .i64 (errs a b c [s, t])]) ∧ Below w.heap.size w w' := by
  have hst : ∀ x, x ∈ [s, t] → x.size ≤ maxLen := by
    intro x hx
    rcases List.mem_cons.1 hx with rfl | hx
    · exact hs
    · have : x = t := by simpa using hx
      subst this; exact ht
  have BN := fun (bl C : Nat) (w : World) (hbl : bl < w.heap.size) (hl : Strs w bl [s, t]) => begun_no a b c [s, t] bl C (by simp) hst w hbl hl he
  have HB := Lib.hid BN
  clear BN he hst
  generalize errs a b c [s, t] = r at *
  unfold oval at *
  go_enter_defers Try.func11, Try.ntmps11
  go_wp2_with fail
  go_at_call 26
  refine (HB.out _ _ _ (by simp) (strs_two _ _ _ _ _ (by simp))).mono ?_
  rintro e w2 ⟨rfl, hb2⟩
  have q4 : w2.cell? ⟨w.heap.size + 1, 0, none⟩ = some (.int .i64 0) := by rw [Below.cell (p := ⟨w.heap.size + 1, 0, none⟩) hb2 (by simp), World.cell?_alloc_past _ _ _ (by simp), World.cell?_alloc_at _ _ _ _ (by simp)]; rfl
  have q5 : w2.frozen? ⟨w.heap.size + 1, 0, none⟩ = false := by rw [Below.frozen (p := ⟨w.heap.size + 1, 0, none⟩) hb2 (by simp), World.frozen?_alloc_past _ _ _ (by simp), World.frozen?_alloc_at _ _ _ _ (by simp)]
  have hb3 : Below w.heap.size w w2 := ((((Below.refl _ _).alloc (Nat.le_refl _) _).alloc (by simp) _).alloc (by simp; omega) _).trans (hb2.mono (by simp; omega))
  refine leaves_cons (f := 25) (args := #[.pointer (some ⟨w.heap.size + 1, 0, none⟩)]) (by simp) (by simp [go_sem]) ?_
  refine (caught_panicking ⟨w.heap.size + 1, 0, none⟩ 0 r [] _ q4 q5).mono ?_
  rintro e u' w'' ⟨rfl, rfl, rfl⟩
  have hb4 := hb3.setCell (p := ⟨w.heap.size + 1, 0, none⟩) (by simp) (.int .i64 r)
  simp [Leaves, settle, results, Try.results11, go_sem, q4, hb4]
end
end Go.Proofs.Ytlhmfaelkkiahaa
