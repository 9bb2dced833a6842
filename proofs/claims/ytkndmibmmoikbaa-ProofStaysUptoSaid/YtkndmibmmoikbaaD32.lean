/- Chapter 10: Mk4 Sp0 Ov3 Ov4. -/
import Derived.Test.YtkndmibmmoikbaaD31
import Derived.Test.YtkndmibmmoikbaaD30
import Derived.Laws.EntriesVeiled
set_option linter.all false
set_option maxRecDepth 100000
set_option maxHeartbeats 16000000
namespace Go.Proofs.Ytkndmibmmoikbaa
open Go.RowKit
open Cox (Tl)
theorem makers_any (w : World) : Calls Try.prog 31 #[] w fun e w' => e = .returned (.agg #[.nilFunc, .func (.func 55) #[] #[], .func (.func 58) #[] #[], .func (.func 59) #[] #[]]) ∧ Below w.heap.size w w' := by
 go_enter Try.func31, Try.ntmps31
 go_wp2_with fail
 have hb := (Below.refl w.heap.size w).alloc (Nat.le_refl _) (.cells #[.nilFunc, .func (.func 55) #[] #[], .func (.func 58) #[] #[], .func (.func 59) #[] #[]] 90)
 have hc := str_new w #[.nilFunc, .func (.func 55) #[] #[], .func (.func 58) #[] #[], .func (.func 59) #[] #[]] 90 _ rfl
 generalize w.alloc (.cells #[.nilFunc, .func (.func 55) #[] #[], .func (.func 58) #[] #[], .func (.func 59) #[] #[]] 90) = wa at *
 have k0 : wa.cell? ⟨w.heap.size, 0, none⟩ = some .nilFunc := by rw [cell_of hc]; rfl
 have k1 : wa.cell? ⟨w.heap.size, 1, none⟩ = some (.func (.func 55) #[] #[]) := by rw [cell_of hc]; rfl
 have k2 : wa.cell? ⟨w.heap.size, 2, none⟩ = some (.func (.func 58) #[] #[]) := by rw [cell_of hc]; rfl
 have k3 : wa.cell? ⟨w.heap.size, 3, none⟩ = some (.func (.func 59) #[] #[]) := by rw [cell_of hc]; rfl
 refine bodyPost_ret (v := .agg #[.nilFunc, .func (.func 55) #[] #[], .func (.func 58) #[] #[], .func (.func 59) #[] #[]]) ?_ rfl ⟨rfl, hb⟩
 simp [results, Try.results31, go_sem, k0, k1, k2, k3]
end Go.Proofs.Ytkndmibmmoikbaa
namespace Go.Proofs.Ytkndmibmmoikbaa
open Go.RowKit
open Cox (Tl)
theorem steps1_panicking (p : Nat) (x y : Int) (older : List PanicEntry) (w : World) (hc : w.heap[p]? = some (.cells #[.int .i64 x] 30 (0, 0))) :
 CallsD Try.prog 25 #[.pointer (some ⟨p, 0, none⟩)] (.panicking ({ v := .iface 99 (.agg #[.int .i64 y]), recovered := false } :: older)) w fun e u' w' =>
  e = .returned (.tuple #[]) ∧ u' = .panicking ({ v := .iface 99 (.agg #[.int .i64 y]), recovered := true } :: older) ∧ ∃ w1, Below w.heap.size w w1 ∧ w' = w1.setCell ⟨p, 0, none⟩ (.int .i64 y) := by
 refine callsD_of_wpS Try.func25 rfl fun c₀ cs hu => ?_
 apply wpS_region
 simp [wpOpsS, go_sem, recoverD, hu, Try.ntmps25, Exit.thenS]
 refine (caught_err y w).mono ?_
 rintro e w1 ⟨rfl, hb⟩
 have hpl := (Array.getElem?_eq_some_iff.1 hc).1
 have h1 := (hb.block p hpl).trans hc
 have h2 := cell_of h1 0
 have h3 := free_of h1 0
 simp at h2
 simp [go_sem, h2, h3, bodyPostS, results, Try.results25]
 exact ⟨w1, hb, rfl⟩
theorem steps1_idle (p : Nat) (x : Int) (w : World) (hc : w.heap[p]? = some (.cells #[.int .i64 x] 30 (0, 0))) :
 CallsD Try.prog 25 #[.pointer (some ⟨p, 0, none⟩)] .returning w fun e u' w' => e = .returned (.tuple #[]) ∧ u' = .returning ∧ w' = w.setCell ⟨p, 0, none⟩ (.int .i64 0) := by
 have h2 := cell_of hc 0
 have h3 := free_of hc 0
 simp at h2
 refine callsD_of_wpS Try.func25 rfl fun c₀ cs hu => ?_
 apply wpS_region
 simp [wpOpsS, go_sem, recoverD, hu, Try.ntmps25, Exit.thenS]
 refine (caught_nil w).mono ?_
 rintro e w1 ⟨rfl, rfl⟩
 cases c₀
 simp_all [go_sem, bodyPostS, results, Try.results25]
theorem steps_door_no {Q : Ending → World → Prop} {tmps : Array Value} {p : Nat} {x y : Int} {w' : World} (ht : tmps[8]? = some (.pointer (some ⟨p, 0, none⟩))) (hc : w'.heap[p]? = some (.cells #[.int .i64 x] 30 (0, 0)))
 (hQ : ∀ w1, Below w'.heap.size w' w1 → Q (.returned (.int .i64 y)) (w1.setCell ⟨p, 0, none⟩ (.int .i64 y))) :
 bodyPostD Try.prog Try.f11 Q (.panic (refusal y)) ⟨tmps, [{ target := .fn (.func 25) #[.pointer (some ⟨p, 0, none⟩)], args := #[] }]⟩ w' := by
 refine leaves_cons (f := 25) (args := #[.pointer (some ⟨p, 0, none⟩)]) (by simp) (by simp [go_sem]) ?_
 refine (steps1_panicking p x y [] w' hc).mono ?_
 rintro e u' w'' ⟨rfl, rfl, w1, hb, rfl⟩
 have hpl := (Array.getElem?_eq_some_iff.1 hc).1
 have h1 := (hb.block p hpl).trans hc
 have h2 := cell_of h1 0
 simp at h2
 have h3 : (w1.setCell ⟨p, 0, none⟩ (.int .i64 y)).cell? ⟨p, 0, none⟩ = some (.int .i64 y) := World.cell?_setCell_same _ _ _ h2
 have ht2 : tmps.getD 8 undef = .pointer (some ⟨p, 0, none⟩) := by rw [Array.getD_eq_getD_getElem?, ht]; rfl
 simp [Leaves, settle, results, Try.results11, go_sem, ht, h3]
 exact hQ w1 hb
theorem steps_door_yes {Q : Ending → World → Prop} {tmps : Array Value} {p : Nat} {x : Int} {w' : World} (ht : tmps[8]? = some (.pointer (some ⟨p, 0, none⟩))) (hc : w'.heap[p]? = some (.cells #[.int .i64 x] 30 (0, 0)))
 (hQ : Q (.returned (.int .i64 0)) (w'.setCell ⟨p, 0, none⟩ (.int .i64 0))) :
 bodyPostD Try.prog Try.f11 Q .ret ⟨tmps, [{ target := .fn (.func 25) #[.pointer (some ⟨p, 0, none⟩)], args := #[] }]⟩ w' := by
 refine leaves_cons (f := 25) (args := #[.pointer (some ⟨p, 0, none⟩)]) (by simp) (by simp [go_sem]) ?_
 refine (steps1_idle p x w' hc).mono ?_
 rintro e u' w'' ⟨rfl, rfl, rfl⟩
 have h2 := cell_of hc 0
 simp at h2
 have h3 : (w'.setCell ⟨p, 0, none⟩ (.int .i64 0)).cell? ⟨p, 0, none⟩ = some (.int .i64 0) := World.cell?_setCell_same _ _ _ h2
 have ht2 : tmps.getD 8 undef = .pointer (some ⟨p, 0, none⟩) := by rw [Array.getD_eq_getD_getElem?, ht]; rfl
 simp [Leaves, settle, results, Try.results11, go_sem, ht, h3]
 exact hQ
theorem region_calm {P : Program} {id : Nat} {ops : Array Oper} {b : Bool} {Q : Exit → Act → World → Prop} {a : Act} {w : World} (h : (Code.region id ops b).wp P (fun e a w => e = .normal ∧ Q .normal a w) a w) : (Code.region id ops b).wp P Q a w :=
 Code.wp_mono (fun e a w h => by obtain ⟨rfl, h2⟩ := h; exact h2) h
structure StepD where
 kind : Int
 at_ : Int
 i : Int
 j : Int
def SRow (w : World) (b o : Nat) (l : List StepD) : Prop := ∀ k (h : k < l.length), w.cell? ⟨b, o + k * 4, none⟩ = some (.int .i64 l[k].kind) ∧ w.cell? ⟨b, o + k * 4 + 1, none⟩ = some (.int .i64 l[k].at_) ∧
 w.cell? ⟨b, o + k * 4 + 2, none⟩ = some (.int .i64 l[k].i) ∧ w.cell? ⟨b, o + k * 4 + 3, none⟩ = some (.int .i64 l[k].j)
def StepsAt (w : World) (p : Option Addr) (l : List StepD) : Prop := l ≠ [] → ∃ b o, p = some ⟨b, o, none⟩ ∧ SRow w b o l
theorem StepsAt.below {w w' : World} {p : Option Addr} {l : List StepD} (h : StepsAt w p l) (hb : Below w.heap.size w w') : StepsAt w' p l := by
 intro hne
 obtain ⟨b, o, rfl, hr⟩ := h hne
 refine ⟨b, o, rfl, fun i hi => ?_⟩
 obtain ⟨h0, h1, h2, h3⟩ := hr i hi
 exact ⟨cell_stays hb h0, cell_stays hb h1, cell_stays hb h2, cell_stays hb h3⟩
def StepD.ok (s : StepD) : Prop := 1 ≤ s.kind ∧ s.kind ≤ 3 ∧ isMir s.i ∧ (s.j = 0 ∨ s.kind = 3)
noncomputable def stepL (a b c : Int) (l : List (Fin 3)) (s : StepD) : Option (List (Fin 3)) :=
 @ite _ s.ok (Classical.propDecidable _) ((if s.kind = 1 then repl l s.at_ (rowl (mf s.i) (mf s.i) 2) [] else if s.kind = 2 then repl l s.at_ [] (rowl (mf s.i) (mf s.i) 2) else turnR a b c l s.at_ (mf s.i) s.j).filter fun l' => decide (l'.length ≤ 200)) none
noncomputable def runL (a b c : Int) (l : List (Fin 3)) : List StepD → Option (List (Fin 3))
 | [] => some l
 | s :: t => (stepL a b c l s).bind fun l' => runL a b c l' t
theorem runL_none {a b c : Int} {ss : List StepD} {l l' : List (Fin 3)} {k : Nat} (h : runL a b c l (ss.take k) = some l') (hk : k < ss.length) (h2 : stepL a b c l' ss[k] = none) : runL a b c l ss = none := by
 induction ss generalizing l k with
 | nil => simp at hk
 | cons s t ih =>
  cases k with
  | zero =>
   simp [runL] at h
   subst h
   simp at h2
   simp [runL, h2]
  | succ k =>
   rw [List.take_succ_cons] at h
   unfold runL at h ⊢
   cases hs : stepL a b c l s with
   | none => rfl
   | some l1 =>
    rw [hs] at h
    exact ih (by simpa using h) (by simpa using hk) (by simpa using h2)
theorem runL_snoc {a b c : Int} {ss : List StepD} {l l' : List (Fin 3)} {k : Nat} (h : runL a b c l (ss.take k) = some l') (hk : k < ss.length) : runL a b c l (ss.take (k + 1)) = stepL a b c l' ss[k] := by
 induction ss generalizing l k with
 | nil => simp at hk
 | cons s t ih =>
  cases k with
  | zero =>
   simp [runL] at h
   subst h
   simp [runL]
  | succ k =>
   rw [List.take_succ_cons] at h ⊢
   unfold runL at h ⊢
   cases hs : stepL a b c l s with
   | none => rw [hs] at h; simp at h
   | some l1 =>
    rw [hs] at h
    exact ih (by simpa using h) (by simpa using hk)
def endErr : Option (List (Fin 3)) → ByteArray → Int
 | some l, v => if wb l = v then 0 else 20
 | none, _ => 20
noncomputable def stepsErr (a b c : Int) (u v : ByteArray) (ss : List StepD) : Int :=
 if chk a b c ≠ 0 then chk a b c else if 2000 < ss.length then 4 else if cw u ≠ 0 then cw u else if cw v ≠ 0 then cw v else endErr (runL a b c (unw u) ss) v
end Go.Proofs.Ytkndmibmmoikbaa
namespace Go.Proofs.Ytkndmibmmoikbaa
open Go.RowKit
open Cox (Tl)
theorem caught_int (y : Int) (hy : y ≠ 0) : (y == 0) = false := by simpa using hy
theorem over1_panicking (p q r : Nat) (x y : Int) (hy : y ≠ 0) (f t : Value) (hpq : p ≠ q) (hpr : p ≠ r) (hqr : q ≠ r) (older : List PanicEntry) (w : World) (hc : w.heap[p]? = some (.cells #[.int .i64 x] 30 (0, 0)))
 (hq : w.heap[q]? = some (.cells #[f] 9 (0, 0))) (hr : w.heap[r]? = some (.cells #[t] 9 (0, 0))) :
 CallsD Try.prog 32 #[.pointer (some ⟨p, 0, none⟩), .pointer (some ⟨q, 0, none⟩), .pointer (some ⟨r, 0, none⟩)] (.panicking ({ v := .iface 99 (.agg #[.int .i64 y]), recovered := false } :: older)) w fun e u' w' =>
  e = .returned (.tuple #[]) ∧ u' = .panicking ({ v := .iface 99 (.agg #[.int .i64 y]), recovered := true } :: older) ∧ ∃ w1, Below w.heap.size w w1 ∧ w' = ((w1.setCell ⟨p, 0, none⟩ (.int .i64 y)).setCell ⟨q, 0, none⟩ (.string ⟨#[]⟩)).setCell ⟨r, 0, none⟩ (.string ⟨#[]⟩) := by
 have hy0 : (y == 0) = false := caught_int y hy
 refine callsD_of_wpS Try.func32 rfl fun c₀ cs hu => ?_
 refine wpS_seq ?_
 apply wpS_region
 simp [wpOpsS, go_sem, recoverD, hu, Try.ntmps32, Exit.thenS]
 refine (caught_err y w).mono ?_
 rintro e w1 ⟨rfl, hb⟩
 have hpl := (Array.getElem?_eq_some_iff.1 hc).1
 have hql := (Array.getElem?_eq_some_iff.1 hq).1
 have hrl := (Array.getElem?_eq_some_iff.1 hr).1
 have h1 := (hb.block p hpl).trans hc
 have q1 := (hb.block q hql).trans hq
 have r1 := (hb.block r hrl).trans hr
 have h2 : w1.cell? ⟨p, 0, none⟩ = some (.int .i64 x) := by rw [cell_of h1]; rfl
 have h3 := free_of h1 0
 simp [go_sem, h2, h3, Exit.thenS]
 have k1 : (w1.setCell ⟨p, 0, none⟩ (.int .i64 y)).cell? ⟨p, 0, none⟩ = some (.int .i64 y) := World.cell?_setCell_same _ _ _ h2
 have k2 : (w1.setCell ⟨p, 0, none⟩ (.int .i64 y)).cell? ⟨q, 0, none⟩ = some f := by
  rw [World.cell?_setCell_far _ _ _ _ (by simpa using hpq), cell_of q1]; rfl
 have k3 : (w1.setCell ⟨p, 0, none⟩ (.int .i64 y)).cell? ⟨r, 0, none⟩ = some t := by
  rw [World.cell?_setCell_far _ _ _ _ (by simpa using hpr), cell_of r1]; rfl
 have f2 : (w1.setCell ⟨p, 0, none⟩ (.int .i64 y)).frozen? ⟨q, 0, none⟩ = false := by rw [World.frozen?_setCell]; exact free_of q1 0
 have f3 : (w1.setCell ⟨p, 0, none⟩ (.int .i64 y)).frozen? ⟨r, 0, none⟩ = false := by rw [World.frozen?_setCell]; exact free_of r1 0
 generalize hw2 : w1.setCell ⟨p, 0, none⟩ (.int .i64 y) = w2 at *
 have k4 : (w2.setCell ⟨q, 0, none⟩ (.string ⟨#[]⟩)).cell? ⟨r, 0, none⟩ = some t := by
  rw [World.cell?_setCell_far _ _ _ _ (by simpa using hqr)]; exact k3
 have f4 : (w2.setCell ⟨q, 0, none⟩ (.string ⟨#[]⟩)).frozen? ⟨r, 0, none⟩ = false := by rw [World.frozen?_setCell]; exact f3
 refine wpS_seq ?_
 apply wpS_region
 simp [wpOpsS, go_sem, k1, hy0, Exit.thenS]
 refine wpS_cond (t := true) (by simp [go_sem, hy]) ?_
 simp only [if_true]
 apply wpS_region
 simp [wpOpsS, go_sem, k2, f2, k4, f4, Exit.thenS]
 simp [go_sem, bodyPostS, results, Try.results32]
 exact ⟨w1, hb, by rw [hw2]⟩
theorem over1_idle (p q r : Nat) (x : Int) (w : World) (hc : w.heap[p]? = some (.cells #[.int .i64 x] 30 (0, 0))) :
 CallsD Try.prog 32 #[.pointer (some ⟨p, 0, none⟩), .pointer (some ⟨q, 0, none⟩), .pointer (some ⟨r, 0, none⟩)] .returning w fun e u' w' => e = .returned (.tuple #[]) ∧ u' = .returning ∧ w' = w.setCell ⟨p, 0, none⟩ (.int .i64 0) := by
 have h2 : w.cell? ⟨p, 0, none⟩ = some (.int .i64 x) := by rw [cell_of hc]; rfl
 have h3 := free_of hc 0
 refine callsD_of_wpS Try.func32 rfl fun c₀ cs hu => ?_
 refine wpS_seq ?_
 apply wpS_region
 simp [wpOpsS, go_sem, recoverD, hu, Try.ntmps32, Exit.thenS]
 refine (caught_nil w).mono ?_
 rintro e w1 ⟨rfl, rfl⟩
 cases c₀
 simp at hu
 subst hu
 simp [go_sem, h2, h3, Exit.thenS]
 have k1 : (w1.setCell ⟨p, 0, none⟩ (.int .i64 0)).cell? ⟨p, 0, none⟩ = some (.int .i64 0) := World.cell?_setCell_same _ _ _ h2
 refine wpS_seq ?_
 apply wpS_region
 simp [wpOpsS, go_sem, k1, Exit.thenS]
 refine wpS_cond (t := false) (by simp [go_sem]) ?_
 refine wpS_of_wp ?_
 refine wp_skip ?_
 simp [go_sem, bodyPostS, results, Try.results32]
theorem over_door_no {Q : Ending → World → Prop} {tmps : Array Value} {p q r : Nat} {x y : Int} {f t : Value} {w' : World} (hy : y ≠ 0) (hpq : p ≠ q) (hpr : p ≠ r) (hqr : q ≠ r) (hq8 : tmps[8]? = some (.pointer (some ⟨q, 0, none⟩))) (hr9 : tmps[9]? = some (.pointer (some ⟨r, 0, none⟩))) (ht : tmps[10]? = some (.pointer (some ⟨p, 0, none⟩))) (hc : w'.heap[p]? = some (.cells #[.int .i64 x] 30 (0, 0)))
 (hq : w'.heap[q]? = some (.cells #[f] 9 (0, 0))) (hr : w'.heap[r]? = some (.cells #[t] 9 (0, 0)))
 (hQ : ∀ w1, Below w'.heap.size w' w1 → Q (.returned (.tuple #[.string ⟨#[]⟩, .string ⟨#[]⟩, .int .i64 y])) (((w1.setCell ⟨p, 0, none⟩ (.int .i64 y)).setCell ⟨q, 0, none⟩ (.string ⟨#[]⟩)).setCell ⟨r, 0, none⟩ (.string ⟨#[]⟩))) :
 bodyPostD Try.prog Try.f12 Q (.panic (refusal y)) ⟨tmps, [{ target := .fn (.func 32) #[.pointer (some ⟨p, 0, none⟩), .pointer (some ⟨q, 0, none⟩), .pointer (some ⟨r, 0, none⟩)], args := #[] }]⟩ w' := by
 refine leaves_cons (f := 32) (args := #[.pointer (some ⟨p, 0, none⟩), .pointer (some ⟨q, 0, none⟩), .pointer (some ⟨r, 0, none⟩)]) (by simp) (by simp [go_sem]) ?_
 refine (over1_panicking p q r x y hy f t hpq hpr hqr [] w' hc hq hr).mono ?_
 rintro e u' w'' ⟨rfl, rfl, w1, hb, rfl⟩
 have h1 := (hb.block p (Array.getElem?_eq_some_iff.1 hc).1).trans hc
 have q1 := (hb.block q (Array.getElem?_eq_some_iff.1 hq).1).trans hq
 have r1 := (hb.block r (Array.getElem?_eq_some_iff.1 hr).1).trans hr
 have e1 : (((w1.setCell ⟨p, 0, none⟩ (.int .i64 y)).setCell ⟨q, 0, none⟩ (.string ⟨#[]⟩)).setCell ⟨r, 0, none⟩ (.string ⟨#[]⟩)).cell? ⟨p, 0, none⟩ = some (.int .i64 y) := by
  rw [World.cell?_setCell_far _ _ _ _ (by simpa using Ne.symm hpr), World.cell?_setCell_far _ _ _ _ (by simpa using Ne.symm hpq)]
  exact World.cell?_setCell_same (u := .int .i64 x) _ _ _ (by rw [cell_of h1]; rfl)
 have e2 : (((w1.setCell ⟨p, 0, none⟩ (.int .i64 y)).setCell ⟨q, 0, none⟩ (.string ⟨#[]⟩)).setCell ⟨r, 0, none⟩ (.string ⟨#[]⟩)).cell? ⟨q, 0, none⟩ = some (.string ⟨#[]⟩) := by
  rw [World.cell?_setCell_far _ _ _ _ (by simpa using Ne.symm hqr)]
  exact World.cell?_setCell_same (u := f) _ _ _ (by rw [World.cell?_setCell_far _ _ _ _ (by simpa using hpq), cell_of q1]; rfl)
 have e3 : (((w1.setCell ⟨p, 0, none⟩ (.int .i64 y)).setCell ⟨q, 0, none⟩ (.string ⟨#[]⟩)).setCell ⟨r, 0, none⟩ (.string ⟨#[]⟩)).cell? ⟨r, 0, none⟩ = some (.string ⟨#[]⟩) := by
  exact World.cell?_setCell_same (u := t) _ _ _ (by rw [World.cell?_setCell_far _ _ _ _ (by simpa using hqr), World.cell?_setCell_far _ _ _ _ (by simpa using hpr), cell_of r1]; rfl)
 simp [Leaves, settle, results, Try.results12, go_sem, ht, hq8, hr9, e1, e2, e3]
 exact hQ w1 hb
theorem over_door_yes {Q : Ending → World → Prop} {tmps : Array Value} {p q r : Nat} {x : Int} {f t : Value} {w' : World} (hpq : p ≠ q) (hpr : p ≠ r) (hq8 : tmps[8]? = some (.pointer (some ⟨q, 0, none⟩))) (hr9 : tmps[9]? = some (.pointer (some ⟨r, 0, none⟩))) (ht : tmps[10]? = some (.pointer (some ⟨p, 0, none⟩))) (hc : w'.heap[p]? = some (.cells #[.int .i64 x] 30 (0, 0)))
 (hq : w'.heap[q]? = some (.cells #[f] 9 (0, 0))) (hr : w'.heap[r]? = some (.cells #[t] 9 (0, 0)))
 (hQ : Q (.returned (.tuple #[f, t, .int .i64 0])) (w'.setCell ⟨p, 0, none⟩ (.int .i64 0))) :
 bodyPostD Try.prog Try.f12 Q .ret ⟨tmps, [{ target := .fn (.func 32) #[.pointer (some ⟨p, 0, none⟩), .pointer (some ⟨q, 0, none⟩), .pointer (some ⟨r, 0, none⟩)], args := #[] }]⟩ w' := by
 refine leaves_cons (f := 32) (args := #[.pointer (some ⟨p, 0, none⟩), .pointer (some ⟨q, 0, none⟩), .pointer (some ⟨r, 0, none⟩)]) (by simp) (by simp [go_sem]) ?_
 refine (over1_idle p q r x w' hc).mono ?_
 rintro e u' w'' ⟨rfl, rfl, rfl⟩
 have e1 : (w'.setCell ⟨p, 0, none⟩ (.int .i64 0)).cell? ⟨p, 0, none⟩ = some (.int .i64 0) := World.cell?_setCell_same (u := .int .i64 x) _ _ _ (by rw [cell_of hc]; rfl)
 have e2 : (w'.setCell ⟨p, 0, none⟩ (.int .i64 0)).cell? ⟨q, 0, none⟩ = some f := by
  rw [World.cell?_setCell_far _ _ _ _ (by simpa using hpq), cell_of hq]; rfl
 have e3 : (w'.setCell ⟨p, 0, none⟩ (.int .i64 0)).cell? ⟨r, 0, none⟩ = some t := by
  rw [World.cell?_setCell_far _ _ _ _ (by simpa using hpr), cell_of hr]; rfl
 simp [Leaves, settle, results, Try.results12, go_sem, ht, hq8, hr9, e1, e2, e3]
 exact hQ
end Go.Proofs.Ytkndmibmmoikbaa
namespace Go.Proofs.Ytkndmibmmoikbaa
open Go.RowKit
open Cox (Tl)
noncomputable def overR9 : Code := (Try.f12.body.bind (onlyR 9)).getD .skip
theorem over_r9 {Q : Exit → Act → World → Prop} {L p y x : Nat} {kk : Int} {l : List (Fin 3)} {ds : List Deferred} {wz : World} {Z : Nat → World → Prop} (hc : wz.cell? ⟨L, 0, none⟩ = some (.pointer (some ⟨p, 0, none⟩)))
 (mc : ∀ wx, Below wz.heap.size wz wx → Calls Try.prog 34 #[.pointer (some ⟨L, 0, none⟩), .int .i64 kk] wx fun e w' => e = .returned (.string (wb l)) ∧ Below wx.heap.size wx w')
 (lc : ∀ wx, Below wz.heap.size wz wx → Calls Try.prog 33 #[.pointer (some ⟨p, 0, none⟩), .pointer (some ⟨y, 0, none⟩), .string (wb l)] wx fun e w' => ∃ y2, e = .returned (.pointer (some ⟨y2, 0, none⟩)) ∧ Z y2 w')
 (hZ : ∀ y2 w6, Z y2 w6 → w6.cell? ⟨L, 0, none⟩ = some (.pointer (some ⟨p, 0, none⟩)))
 {u0 u1 u2 u3 u4 u5 u6 u7 u8 u9 u10 u13 u15 u16 u17 u18 u19 u20 u21 u22 u23 u24 u25 u26 u27 u28 u29 u30 u31 u32 u33 u34 u35 u36 u37 u38 u39 u40 u41 u42 u43 u44 u45 u46 u47 u48 u49 u50 u51 u52 u53 u54 u55 u56 u57 u58 u59 u60 u61 u62 u63 u64 u65 u66 u67 u68 u69 u70 u71 u72 u73 u74 u75 u76 u77 u78 u79 u80 u81 u82 u83 u84 u85 u86 u87 u88 u89 u90 u91 u92 u93 u94 u95 u96 u97 u98 u99 u100 u101 u102 u103 u104 u105 u106 u107 : Value}
 (hN : ∀ y2 w6 (n61 n62 n63 n64 n65 n66 n67 n68 n69 : Value), Z y2 w6 → Q .normal ⟨#[u0, u1, u2, u3, u4, u5, u6, u7, u8, u9, u10, .pointer (some ⟨L, 0, none⟩), .pointer (some ⟨y2, 0, none⟩), u13, .int .i64 kk, u15, u16, u17, u18, u19, u20, u21, u22, u23, u24, u25, u26, u27, u28, u29, u30, u31, u32, u33, u34, u35, u36, u37, u38, u39, u40, u41, u42, u43, u44, u45, u46, u47, u48, u49, u50, u51, u52, u53, u54, u55, u56, u57, u58, u59, u60, n61, n62, n63, n64, n65, n66, n67, n68, n69, u70, u71, u72, u73, u74, u75, u76, u77, u78, u79, u80, u81, u82, u83, u84, u85, u86, u87, u88, u89, u90, u91, u92, u93, u94, u95, u96, u97, u98, u99, u100, u101, u102, u103, u104, u105, u106, u107], ds⟩ w6) :
 Code.wp Try.prog overR9 Q ⟨#[u0, u1, u2, u3, u4, u5, u6, u7, u8, u9, u10, .pointer (some ⟨L, 0, none⟩), .pointer (some ⟨y, 0, none⟩), u13, .int .i64 kk, u15, u16, u17, u18, u19, u20, u21, u22, u23, u24, u25, u26, u27, u28, u29, u30, u31, u32, u33, u34, u35, u36, u37, u38, u39, u40, u41, u42, u43, u44, u45, u46, u47, u48, u49, u50, u51, u52, u53, u54, u55, u56, u57, u58, u59, u60, u61, u62, u63, u64, u65, u66, u67, u68, u69, u70, u71, u72, u73, u74, u75, u76, u77, u78, u79, u80, u81, u82, u83, u84, u85, u86, u87, u88, u89, u90, u91, u92, u93, u94, u95, u96, u97, u98, u99, u100, u101, u102, u103, u104, u105, u106, u107], ds⟩ wz := by
 have HN := Lib.hid hN
 have HZ := Lib.hid hZ
 have MC := Lib.hid mc
 have LC := Lib.hid lc
 clear hN hZ mc lc
 conv => arg 2; whnf
 have d0 : wz.drew.cell? ⟨L, 0, none⟩ = some (.pointer (some ⟨p, 0, none⟩)) := by rw [cell_drew_own]; exact hc
 refine region_calm ?_
 refine wp_region_held_drew (S := fun w' => w'.cell? ⟨L, 0, none⟩ = some (.pointer (some ⟨p, 0, none⟩))) (by kernel_rfl) (d0) (fun hHeld => ?_)
 refine ty 0 hHeld ?_
 try simp only [ly]
 refine ty 1 hHeld ?_
 try simp only [ly]
 refine ty 2 hHeld ?_
 try simp only [ly]
 refine ty 3 hHeld ?_
 try simp only [ly]
 refine ty 4 hHeld ?_
 try simp only [ly]
 refine ty 5 hHeld ?_
 try simp only [ly]
 refine ty 6 hHeld ?_
 try simp only [ly]
 refine take_step (i := 7) rfl (by kernel_rfl) (fun K' hK => ?_)
 go_simp
 go_at_call 34
 refine (MC.out _ ((Below.refl _ wz).drew)).mono ?_
 rintro r w5 ⟨rfl, hb5⟩
 have HB5 := Lib.hid hb5
 have g0 := cell_stays hb5 d0
 clear hb5
 refine hK.out _ _ (g0) (fun hHeld => ?_)
 clear hK K'
 try simp only [ly]
 refine take_step (i := 8) rfl (by kernel_rfl) (fun K' hK => ?_)
 go_simp
 go_at_call 33
 refine (LC.out _ (((Below.refl _ wz).drew).trans HB5.out)).mono ?_
 rintro r w6 ⟨y2, rfl, hz6⟩
 have HZ6 := Lib.hid hz6
 have k0 := HZ.out _ _ hz6
 clear hz6
 refine hK.out _ _ (k0) (fun hHeld => ?_)
 clear hK K'
 try simp only [ly]
 refine ty 9 hHeld ?_
 try simp only [ly]
 refine wpAnyH_done (by kernel_rfl) ?_ _
 refine ⟨rfl, ?_⟩
 exact HN.out _ _ _ _ _ _ _ _ _ _ _ HZ6.out
noncomputable def overR15 : Code := (Try.f12.body.bind (onlyR 15)).getD .skip
theorem over_r15 {Q : Exit → Act → World → Prop} {L p y x : Nat} {kk : Int} {l : List (Fin 3)} {ds : List Deferred} {wz : World} {Z : Nat → World → Prop} (hc : wz.cell? ⟨L, 0, none⟩ = some (.pointer (some ⟨p, 0, none⟩)))
 (mc : ∀ wx, Below wz.heap.size wz wx → Calls Try.prog 35 #[.pointer (some ⟨x, 0, none⟩)] wx fun e w' => e = .returned (.string (wb l)) ∧ Below wx.heap.size wx w')
 (lc : ∀ wx, Below wz.heap.size wz wx → Calls Try.prog 33 #[.pointer (some ⟨p, 0, none⟩), .pointer (some ⟨y, 0, none⟩), .string (wb l)] wx fun e w' => ∃ y2, e = .returned (.pointer (some ⟨y2, 0, none⟩)) ∧ Z y2 w')
 (hZ : ∀ y2 w6, Z y2 w6 → w6.cell? ⟨L, 0, none⟩ = some (.pointer (some ⟨p, 0, none⟩)))
 {u0 u1 u2 u3 u4 u5 u6 u7 u8 u9 u10 u13 u14 u15 u17 u18 u19 u20 u21 u22 u23 u24 u25 u26 u27 u28 u29 u30 u31 u32 u33 u34 u35 u36 u37 u38 u39 u40 u41 u42 u43 u44 u45 u46 u47 u48 u49 u50 u51 u52 u53 u54 u55 u56 u57 u58 u59 u60 u61 u62 u63 u64 u65 u66 u67 u68 u69 u70 u71 u72 u73 u74 u75 u76 u77 u78 u79 u80 u81 u82 u83 u84 u85 u86 u87 u88 u89 u90 u91 u92 u93 u94 u95 u96 u97 u98 u99 u100 u101 u102 u103 u104 u105 u106 u107 : Value}
 (hN : ∀ y2 w6 (n90 n91 n92 n93 n94 n95 n96 n97 : Value), Z y2 w6 → Q .normal ⟨#[u0, u1, u2, u3, u4, u5, u6, u7, u8, u9, u10, .pointer (some ⟨L, 0, none⟩), .pointer (some ⟨y, 0, none⟩), u13, u14, u15, .pointer (some ⟨x, 0, none⟩), .pointer (some ⟨y2, 0, none⟩), u18, u19, u20, u21, u22, u23, u24, u25, u26, u27, u28, u29, u30, u31, u32, u33, u34, u35, u36, u37, u38, u39, u40, u41, u42, u43, u44, u45, u46, u47, u48, u49, u50, u51, u52, u53, u54, u55, u56, u57, u58, u59, u60, u61, u62, u63, u64, u65, u66, u67, u68, u69, u70, u71, u72, u73, u74, u75, u76, u77, u78, u79, u80, u81, u82, u83, u84, u85, u86, u87, u88, u89, n90, n91, n92, n93, n94, n95, n96, n97, u98, u99, u100, u101, u102, u103, u104, u105, u106, u107], ds⟩ w6) :
 Code.wp Try.prog overR15 Q ⟨#[u0, u1, u2, u3, u4, u5, u6, u7, u8, u9, u10, .pointer (some ⟨L, 0, none⟩), .pointer (some ⟨y, 0, none⟩), u13, u14, u15, .pointer (some ⟨x, 0, none⟩), u17, u18, u19, u20, u21, u22, u23, u24, u25, u26, u27, u28, u29, u30, u31, u32, u33, u34, u35, u36, u37, u38, u39, u40, u41, u42, u43, u44, u45, u46, u47, u48, u49, u50, u51, u52, u53, u54, u55, u56, u57, u58, u59, u60, u61, u62, u63, u64, u65, u66, u67, u68, u69, u70, u71, u72, u73, u74, u75, u76, u77, u78, u79, u80, u81, u82, u83, u84, u85, u86, u87, u88, u89, u90, u91, u92, u93, u94, u95, u96, u97, u98, u99, u100, u101, u102, u103, u104, u105, u106, u107], ds⟩ wz := by
 have HN := Lib.hid hN
 have HZ := Lib.hid hZ
 have MC := Lib.hid mc
 have LC := Lib.hid lc
 clear hN hZ mc lc
 conv => arg 2; whnf
 have d0 : wz.drew.cell? ⟨L, 0, none⟩ = some (.pointer (some ⟨p, 0, none⟩)) := by rw [cell_drew_own]; exact hc
 refine region_calm ?_
 refine wp_region_held_drew (S := fun w' => w'.cell? ⟨L, 0, none⟩ = some (.pointer (some ⟨p, 0, none⟩))) (by kernel_rfl) (d0) (fun hHeld => ?_)
 refine ty 0 hHeld ?_
 try simp only [ly]
 refine ty 1 hHeld ?_
 try simp only [ly]
 refine ty 2 hHeld ?_
 try simp only [ly]
 refine ty 3 hHeld ?_
 try simp only [ly]
 refine ty 4 hHeld ?_
 try simp only [ly]
 refine ty 5 hHeld ?_
 try simp only [ly]
 refine take_step (i := 6) rfl (by kernel_rfl) (fun K' hK => ?_)
 go_simp
 go_at_call 35
 refine (MC.out _ ((Below.refl _ wz).drew)).mono ?_
 rintro r w5 ⟨rfl, hb5⟩
 have HB5 := Lib.hid hb5
 have g0 := cell_stays hb5 d0
 clear hb5
 refine hK.out _ _ (g0) (fun hHeld => ?_)
 clear hK K'
 try simp only [ly]
 refine take_step (i := 7) rfl (by kernel_rfl) (fun K' hK => ?_)
 go_simp
 go_at_call 33
 refine (LC.out _ (((Below.refl _ wz).drew).trans HB5.out)).mono ?_
 rintro r w6 ⟨y2, rfl, hz6⟩
 have HZ6 := Lib.hid hz6
 have k0 := HZ.out _ _ hz6
 clear hz6
 refine hK.out _ _ (k0) (fun hHeld => ?_)
 clear hK K'
 try simp only [ly]
 refine ty 8 hHeld ?_
 try simp only [ly]
 refine wpAnyH_done (by kernel_rfl) ?_ _
 refine ⟨rfl, ?_⟩
 exact HN.out _ _ _ _ _ _ _ _ _ _ HZ6.out
theorem over_cells {q8 q9 q10 : Nat} {s t : ByteArray} {wz w : World} {v8 v9 : Value} {v10 : Int} (h89 : q8 ≠ q9) (h810 : q8 ≠ q10) (h910 : q9 ≠ q10)
 (h8 : wz.heap[q8]? = some (.cells #[v8] 9 (0, 0))) (h9 : wz.heap[q9]? = some (.cells #[v9] 9 (0, 0))) (h10 : wz.heap[q10]? = some (.cells #[.int .i64 v10] 30 (0, 0))) (hb : Below wz.heap.size wz w) :
 w.cell? ⟨q8, 0, none⟩ = some v8 ∧ (w.setCell ⟨q8, 0, none⟩ (.string s)).cell? ⟨q9, 0, none⟩ = some v9 ∧ ((w.setCell ⟨q8, 0, none⟩ (.string s)).setCell ⟨q9, 0, none⟩ (.string t)).cell? ⟨q10, 0, none⟩ = some (.int .i64 v10) ∧
 w.frozen? ⟨q8, 0, none⟩ = false ∧ (w.setCell ⟨q8, 0, none⟩ (.string s)).frozen? ⟨q9, 0, none⟩ = false ∧ ((w.setCell ⟨q8, 0, none⟩ (.string s)).setCell ⟨q9, 0, none⟩ (.string t)).frozen? ⟨q10, 0, none⟩ = false ∧
 w.frozen? ⟨q9, 0, none⟩ = false ∧ w.frozen? ⟨q10, 0, none⟩ = false := by
 have a8 := (hb.block _ (Array.getElem?_eq_some_iff.1 h8).1).trans h8
 have a9 := (hb.block _ (Array.getElem?_eq_some_iff.1 h9).1).trans h9
 have a10 := (hb.block _ (Array.getElem?_eq_some_iff.1 h10).1).trans h10
 refine ⟨by rw [cell_of a8]; rfl, ?_, ?_, free_of a8 0, ?_, ?_, free_of a9 0, free_of a10 0⟩
 · rw [World.cell?_setCell_far _ _ _ _ (by simpa using h89), cell_of a9]; rfl
 · rw [World.cell?_setCell_far _ _ _ _ (by simpa using h910), World.cell?_setCell_far _ _ _ _ (by simpa using h810), cell_of a10]; rfl
 · rw [World.frozen?_setCell]; exact free_of a9 0
 · rw [World.frozen?_setCell, World.frozen?_setCell]; exact free_of a10 0
noncomputable def overR17 : Code := (Try.f12.body.bind (onlyR 17)).getD .skip
theorem over_r17 {Q : Exit → Act → World → Prop} {q8 q9 q10 x y : Nat} {s t : ByteArray} {ds : List Deferred} {wz : World} {v8 v9 : Value} {v10 : Int} (h89 : q8 ≠ q9) (h810 : q8 ≠ q10) (h910 : q9 ≠ q10)
 (h8 : wz.heap[q8]? = some (.cells #[v8] 9 (0, 0))) (h9 : wz.heap[q9]? = some (.cells #[v9] 9 (0, 0))) (h10 : wz.heap[q10]? = some (.cells #[.int .i64 v10] 30 (0, 0)))
 (c1 : Calls Try.prog 35 #[.pointer (some ⟨x, 0, none⟩)] wz fun e w' => e = .returned (.string s) ∧ Below wz.heap.size wz w')
 (c2 : ∀ wx, Below wz.heap.size wz wx → Calls Try.prog 35 #[.pointer (some ⟨y, 0, none⟩)] wx fun e w' => e = .returned (.string t) ∧ Below wx.heap.size wx w')
 {u0 u1 u2 u3 u4 u5 u6 u7 u11 u12 u13 u14 u15 u18 u19 u20 u21 u22 u23 u24 u25 u26 u27 u28 u29 u30 u31 u32 u33 u34 u35 u36 u37 u38 u39 u40 u41 u42 u43 u44 u45 u46 u47 u48 u49 u50 u51 u52 u53 u54 u55 u56 u57 u58 u59 u60 u61 u62 u63 u64 u65 u66 u67 u68 u69 u70 u71 u72 u73 u74 u75 u76 u77 u78 u79 u80 u81 u82 u83 u84 u85 u86 u87 u88 u89 u90 u91 u92 u93 u94 u95 u96 u97 u98 u99 u100 u101 u102 u103 u104 u105 u106 u107 : Value}
 (hN : ∀ w' (n101 n102 n103 n104 : Value), Below wz.heap.size wz w' → Q .normal ⟨#[u0, u1, u2, u3, u4, u5, u6, u7, .pointer (some ⟨q8, 0, none⟩), .pointer (some ⟨q9, 0, none⟩), .pointer (some ⟨q10, 0, none⟩), u11, u12, u13, u14, u15, .pointer (some ⟨x, 0, none⟩), .pointer (some ⟨y, 0, none⟩), u18, u19, u20, u21, u22, u23, u24, u25, u26, u27, u28, u29, u30, u31, u32, u33, u34, u35, u36, u37, u38, u39, u40, u41, u42, u43, u44, u45, u46, u47, u48, u49, u50, u51, u52, u53, u54, u55, u56, u57, u58, u59, u60, u61, u62, u63, u64, u65, u66, u67, u68, u69, u70, u71, u72, u73, u74, u75, u76, u77, u78, u79, u80, u81, u82, u83, u84, u85, u86, u87, u88, u89, u90, u91, u92, u93, u94, u95, u96, u97, u98, u99, u100, n101, n102, n103, n104, u105, u106, u107], ds⟩ (((w'.setCell ⟨q8, 0, none⟩ (.string s)).setCell ⟨q9, 0, none⟩ (.string t)).setCell ⟨q10, 0, none⟩ (.int .i64 0))) :
 Code.wp Try.prog overR17 Q ⟨#[u0, u1, u2, u3, u4, u5, u6, u7, .pointer (some ⟨q8, 0, none⟩), .pointer (some ⟨q9, 0, none⟩), .pointer (some ⟨q10, 0, none⟩), u11, u12, u13, u14, u15, .pointer (some ⟨x, 0, none⟩), .pointer (some ⟨y, 0, none⟩), u18, u19, u20, u21, u22, u23, u24, u25, u26, u27, u28, u29, u30, u31, u32, u33, u34, u35, u36, u37, u38, u39, u40, u41, u42, u43, u44, u45, u46, u47, u48, u49, u50, u51, u52, u53, u54, u55, u56, u57, u58, u59, u60, u61, u62, u63, u64, u65, u66, u67, u68, u69, u70, u71, u72, u73, u74, u75, u76, u77, u78, u79, u80, u81, u82, u83, u84, u85, u86, u87, u88, u89, u90, u91, u92, u93, u94, u95, u96, u97, u98, u99, u100, u101, u102, u103, u104, u105, u106, u107], ds⟩ wz := by
 have HN := Lib.hid hN
 have C1 := Lib.hid c1
 have C2 := Lib.hid c2
 have H8 := Hi (And.intro h8 (And.intro h9 h10))
 have HNE := Hi (And.intro h89 (And.intro h810 h910))
 clear hN c1 c2 h8 h9 h10
 conv => arg 2; whnf
 go_wp2_with (first
  | (go_at_call 35; with_reducible refine C1.out.mono ?_; rintro r w7 ⟨rfl, hb7⟩; have HB7 := Lib.hid hb7; clear hb7)
  | (go_at_call 35; with_reducible refine (C2.out _ HB7.out).mono ?_; rintro r w8 ⟨rfl, hb8⟩; have HB8 := Hi (HB7.out.trans (hb8.mono HB7.out.size)); clear hb8; obtain ⟨z1, z2, z3, f1, f2, f3, z4, z5⟩ := over_cells HNE.out.1 HNE.out.2.1 HNE.out.2.2 (s := s) (t := t) H8.out.1 H8.out.2.1 H8.out.2.2 HB8.out))
 exact HN.out _ _ _ _ _ HB8.out
end Go.Proofs.Ytkndmibmmoikbaa
