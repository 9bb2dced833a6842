import Derived.Test.YtlhmfaelkkiahaaWords6
import Derived.Test.YtlhmfaelkkiahaaIter0
namespace Go.Proofs.Ytlhmfaelkkiahaa
open Go.RowKit
open Cox (Tl)
attribute [local go_sem] Oper.semAt_some

/-- a word, so many times -/
def lpow (l : List (Fin 3)) : Nat → List (Fin 3)
  | 0 => []
  | k + 1 => lpow l k ++ l
theorem lpow_len (l : List (Fin 3)) (k : Nat) : (lpow l k).length = k * l.length := by
  induction k with
  | zero => simp [lpow]
  | succ k ih => simp [lpow, ih, Nat.add_mul]

theorem Keep.others {A : Nat → Nat} {st : List Tl} {w w' : World} (hr : Rep w A st) (h : Out (In A st.length) w w') : KeepsOthers w w' := by
  refine ⟨h.size, fun b o hb ho => ?_⟩
  rw [h.block b (Array.getElem?_eq_some_iff.1 hb).1 ?_]
  · exact hb
  · rintro ⟨k, hk, rfl⟩
    have := hr.cells k st[k] (List.getElem?_eq_getElem hk)
    rw [hb] at this
    cases this
    cases ho

section
variable {K : Type} [Cox.OR K]

theorem PState.put {w0 : World} {T : Cox.Tri K} {a b c p F : Nat} {A : Nat → Nat} {st : List Tl} {P : Nat → Prop} {w : World} (h : PState w0 T a b c p F A st P w) {l : Nat} {r : Loop} (hl : w.heap[l]? = some (.loop r)) (hB : w0.heap.size ≤ l) (o' : Obj) : PState w0 T a b c p F A st P (w.putObj l o') := by
  have ne : ∀ b' cs T' fr, w.heap[b']? = some (.cells cs T' fr) → b' ≠ l := by
    rintro b' cs T' fr hb rfl
    rw [hl] at hb; cases hb
  refine ⟨h.orders, by rw [World.putObj_heap_other (ne _ _ _ _ h.plane)]; exact h.plane, h.new, h.notin, ⟨fun k nk hk => ?_, h.rep.inj, h.rep.closed⟩, h.first, h.ok, h.bound, h.root, h.low, ?_⟩
  · rw [World.putObj_heap_other (ne _ _ _ _ (h.rep.cells k nk hk))]; exact h.rep.cells k nk hk
  · refine h.below.trans ⟨rfl, rfl, rfl, by simp, fun k hk => ?_⟩
    rw [World.putObj_heap_other (by omega)]

/-- the boxes of Order and of powers -/
structure Boxes (B4 B5 BP B52 B9 p : Nat) (l : List (Fin 3)) (x4 : Int) (w : World) : Prop where
  n : w.heap[B4]? = some (.cells #[.int .i64 x4] 3 (0, 0))
  err : w.heap[B5]? = some (.cells #[.int .i64 0] 26 (0, 0))
  bp : w.heap[BP]? = some (.cells #[.pointer (some ⟨p, 0, none⟩)] 52 (0, 0))
  b52 : w.heap[B52]? = some (.cells #[.pointer (some ⟨p, 0, none⟩)] 52 (0, 0))
  b9 : w.heap[B9]? = some (.cells #[.string (wb l)] 9 (0, 0))

theorem Boxes.keep {B4 B5 BP B52 B9 p : Nat} {l : List (Fin 3)} {x4 : Int} {w w' : World} (h : Boxes B4 B5 BP B52 B9 p l x4 w) (hk : Keep w w') : Boxes B4 B5 BP B52 B9 p l x4 w' :=
  ⟨hk.get (by decide) h.n, hk.get (by decide) h.err, hk.get (by decide) h.bp, hk.get (by decide) h.b52, hk.get (by decide) h.b9⟩
theorem Boxes.put {B4 B5 BP B52 B9 p : Nat} {l : List (Fin 3)} {x4 : Int} {w : World} (h : Boxes B4 B5 BP B52 B9 p l x4 w) {m : Nat} {r : Loop} (hl : w.heap[m]? = some (.loop r)) (o' : Obj) : Boxes B4 B5 BP B52 B9 p l x4 (w.putObj m o') := by
  have ne : ∀ b' cs T' fr, w.heap[b']? = some (.cells cs T' fr) → b' ≠ m := by
    rintro b' cs T' fr hb rfl
    rw [hl] at hb; cases hb
  exact ⟨by rw [World.putObj_heap_other (ne _ _ _ _ h.n)]; exact h.n, by rw [World.putObj_heap_other (ne _ _ _ _ h.err)]; exact h.err, by rw [World.putObj_heap_other (ne _ _ _ _ h.bp)]; exact h.bp,
    by rw [World.putObj_heap_other (ne _ _ _ _ h.b52)]; exact h.b52, by rw [World.putObj_heap_other (ne _ _ _ _ h.b9)]; exact h.b9⟩

/-- behind k steps of powers: the tile lies in block b; none of the steps 1 .. m has led back -/
def AtPow (w0 : World) (T : Cox.Tri K) (a b c p F : Nat) (B4 B5 BP B52 B9 : Nat) (l : List (Fin 3)) (k m : Nat) (bt : Nat) (w : World) : Prop :=
  k ≤ 12 ∧ Boxes B4 B5 BP B52 B9 p l 0 w ∧ (∃ A st P y, PState w0 T a b c p F A st P w ∧ Cox.At st P y (Cox.nf T (lpow l k)) ∧ bt = A y) ∧ ∀ j, 1 ≤ j → j ≤ m → Cox.nf T (lpow l j) ≠ []

theorem AtPow.put {w0 : World} {T : Cox.Tri K} {a b c p F B4 B5 BP B52 B9 : Nat} {l : List (Fin 3)} {k m bt : Nat} {w : World} (h : AtPow w0 T a b c p F B4 B5 BP B52 B9 l k m bt w) {q : Nat} {r : Loop} (hl : w.heap[q]? = some (.loop r)) (hB : w0.heap.size ≤ q) (o' : Obj) :
    AtPow w0 T a b c p F B4 B5 BP B52 B9 l k m bt (w.putObj q o') := by
  obtain ⟨h1, h2, ⟨A, st, P, y, h3, h4, h5⟩, h6⟩ := h
  exact ⟨h1, h2.put hl o', ⟨A, st, P, y, h3.put hl hB o', h4, h5⟩, h6⟩

/-- one step of powers -/
theorem AtPow.step {w0 : World} {T : Cox.Tri K} {a b c p F B4 B5 BP B52 B9 : Nat} {l : List (Fin 3)} {k m bt : Nat} {w : World} (h : AtPow w0 T a b c p F B4 B5 BP B52 B9 l k m bt w) (hk : k < 12) (hl : l.length ≤ 60) :
    Calls Try.prog 37 #[.pointer (some ⟨p, 0, none⟩), .pointer (some ⟨bt, 0, none⟩), .string (wb l)] w fun e w' => ∃ bt', e = .returned (.pointer (some ⟨bt', 0, none⟩)) ∧ AtPow w0 T a b c p F B4 B5 BP B52 B9 l (k + 1) m bt' w' ∧ KeepsOthers w w' := by
  obtain ⟨h1, h2, ⟨A, st, P, y, h3, h4, h5⟩, h6⟩ := h
  subst h5
  have hlen := lpow_len l k
  have hlk : k * l.length ≤ 12 * 60 := Nat.mul_le_mul (by omega) hl
  refine (walk_st h3 h4 l (by omega)).mono ?_
  rintro e w' ⟨A', st', P', y', rfl, g1, g2, g3⟩
  exact ⟨A' y', rfl, ⟨by omega, h2.keep (Keep.of_out h3.rep g3), ⟨A', st', P', y', g2, g1, rfl⟩, h6⟩, Keep.others h3.rep g3⟩

/-- what the iterator ends in -/
def Ran (w0 : World) (T : Cox.Tri K) (a b c p F : Nat) (B4 B5 BP B52 B9 : Nat) (l : List (Fin 3)) (w : World) : Prop := ∃ bt, AtPow w0 T a b c p F B4 B5 BP B52 B9 l 12 12 bt w

def encp (x : Nat × Nat) : Array Value := #[.int .i64 (x.1 : Int), .pointer (some ⟨x.2, 0, none⟩)]

theorem powers_in (w0 : World) (T : Cox.Tri K) (a b c p F : Nat) (B4 B5 BP B52 B9 : Nat) (l : List (Fin 3)) (hl : l.length ≤ 60) (n : Nat) (hn : 1 ≤ n) (q : Nat) (W : World) (RR RX Ix : World → Prop)
    (hRR : ∀ A B, KeepsOthers A B → RR A → RR B) (h0 : AtPow w0 T a b c p F B4 B5 BP B52 B9 l 0 0 F W) (hr : RR W)
    (hY : ∀ (x : Nat × Nat) W1, (1 ≤ x.1 ∧ AtPow w0 T a b c p F B4 B5 BP B52 B9 l x.1 (x.1 - 1) x.2 W1) → RR W1 → YieldAt Fence.wide (n - 1) Try.prog q (encp x) W1 fun e W' =>
      (e = .returned (.bool true) ∧ AtPow w0 T a b c p F B4 B5 BP B52 B9 l x.1 x.1 x.2 W' ∧ RR W') ∨ (e = .returned (.bool false) ∧ Ix W' ∧ RX W')) :
    CallsIn Fence.wide n Try.prog 40 (#[.func (.yield q) #[] #[]] ++ #[.pointer (some ⟨B52, 0, none⟩), .pointer (some ⟨B9, 0, none⟩)]) W fun e W' =>
      (∃ v, e = .returned v) ∧ ((Ran w0 T a b c p F B4 B5 BP B52 B9 l W' ∧ RR W') ∨ (Ix W' ∧ RX W')) := by
  refine callsIn_of_wp Try.func40 rfl trivial ?_ rfl
  simp only [Try.ntmps40, List.size_toArray, List.length_cons, List.length_nil, Nat.reduceAdd, Nat.reduceSub, Array.replicate_succ, Array.replicate_zero, List.push_toArray, List.append_toArray, List.nil_append, List.cons_append]
  have c52 := cell_of h0.2.1.b52 0
  obtain ⟨A0, st0, P0, y0, hs0, hh1, hh2⟩ := h0.2.2.1
  clear hh1 hh2
  have cp := cell_of hs0.plane 9
  simp [pcells] at c52 cp
  have H0 := Lib.hid h0
  have HR := Lib.hid hr
  have HY := Lib.hid hY
  clear h0 hr hY hs0
  gi_wp2
  gi_loopw [4, 5] (fun t kk wr => ∃ (k bt : Nat), t = .pointer (some ⟨bt, 0, none⟩) ∧ kk = .int .i64 ((k : Int) + 1) ∧ Hid (AtPow w0 T a b c p F B4 B5 BP B52 B9 l k k bt wr ∧ RR wr) ∧ k ≤ 12) (fun _ kk _ => 13 - (intOf kk).toNat)
  case atStart => exact ⟨0, F, rfl, rfl, Lib.hid ⟨H0.out, HR.out⟩, by omega⟩
  case round =>
    obtain ⟨k, bt, rfl, rfl, HK, hk⟩ := hrel
    have c52 := cell_of HK.out.1.2.1.b52 0
    have c9 := cell_of HK.out.1.2.1.b9 0
    simp at c52 c9
    by_cases hlt : k < 12
    · have CS := HK.out.1.step hlt hl
      gi_wp2_with fail
      refine ⟨trivial, ?_⟩
      gi_at_call 37
      refine (callsIn_wide.2 CS).mono ?_
      rintro e w2 ⟨bt', rfl, hst, hko⟩
      obtain ⟨fn, tmps, assign, body, hy, hR⟩ := HY.out (k + 1, bt') w2 ⟨by simp, hst⟩ (hRR _ _ hko HK.out.2)
      have hk1 : ((k + 1 : Nat) : Int) = (k : Int) + 1 := by omega
      dsimp only [encp] at hy
      rw [hk1] at hy
      have HST := Lib.hid hst
      clear hst hko CS
      gi_wp2_with fail
      refine hR.mono ?_
      rintro e w3 (⟨rfl, hst3, hr3⟩ | ⟨rfl, hix, hrx⟩)
      · have HS3 := Lib.hid hst3
        have HR3 := Lib.hid hr3
        clear hst3 hr3 hy hR
        gi_wp2
        go_roundw
        case rel => exact ⟨k + 1, bt', rfl, by simp, Lib.hid ⟨HS3.out, HR3.out⟩, by omega⟩
        case measure => simp [intOf]; omega
      · have HI := Lib.hid hix
        have HX := Lib.hid hrx
        clear hix hrx hy hR
        gi_wp2
        exact bodyPost_ret (results_none rfl _ _ _) rfl ⟨⟨_, rfl⟩, .inr ⟨HI.out, HX.out⟩⟩
    · have : k = 12 := by omega
      subst this
      gi_wp2
      exact bodyPost_end (results_none rfl _ _ _) rfl ⟨⟨_, rfl⟩, .inl ⟨⟨_, HK.out.1⟩, HK.out.2⟩⟩
end
end Go.Proofs.Ytlhmfaelkkiahaa
