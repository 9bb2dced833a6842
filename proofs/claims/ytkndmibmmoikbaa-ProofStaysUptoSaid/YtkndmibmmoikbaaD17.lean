/- Chapter 10: Ov1. -/
import Derived.Test.YtkndmibmmoikbaaD15
import Derived.Test.YtkndmibmmoikbaaD14
import Derived.Test.YtkndmibmmoikbaaD16
import Derived.Deep.OwnRows
set_option linter.all false
set_option maxRecDepth 100000
set_option maxHeartbeats 16000000
namespace Go.Proofs.Ytkndmibmmoikbaa
open Go.RowKit
open Cox (Tl)
variable {K : Type} [Cox.OR K] {W : Cox.Tri K}
theorem info5 : (Try.prog.info? 5).map (fun i => (i.zero, i.size, i.bytes)) = some (some (.int .u8 0), 1, 1) := by kernel_rfl
theorem TD.tile {a b c : Int} {p F : Nat} {w : World} {D : Dict} (h : TD W a b c p F w D) {u : List (Fin 3)} {x : Nat} (hx : D u x) :
 w.cell? ⟨x, 0, none⟩ = some (.int .i64 (u.length : Nat)) ∧ ∀ v (i : Fin 3), u = v ++ [i] → w.cell? ⟨x, 7, none⟩ = some (.int .i64 (i.val : Int)) ∧ ∃ y, w.cell? ⟨x, 1 + i.val, none⟩ = some (.pointer (some ⟨y, 0, none⟩)) ∧ D v y := by
 obtain ⟨A, la, st, hs, rfl⟩ := h
 obtain ⟨k, nd, h1, h2, rfl⟩ := hx
 have hl := hs.last k nd h1
 refine ⟨?_, fun v i hv => ?_⟩
 · rw [hs.rep.depth h1, hl.1, h2]
 · have hch := chain_of W hs.ok hs.last
   have hkl := (List.getElem?_eq_some_iff.1 h1).1
   obtain ⟨s, k', nd', g1, g2, g3, g4, g5⟩ := hch.step k nd hkl h1 (by rw [h2, hv]; simp)
   rw [h2, hv] at g5
   obtain ⟨e1, e2⟩ := List.append_inj' g5 rfl
   have e3 : i = s := by simpa using e2
   subst e3
   refine ⟨by rw [hs.rep.last h1, g1], A k', ?_, k', nd', g4, e1.symm, rfl⟩
   rw [hs.rep.to h1 i, g2]; rfl
theorem normal_any {a b c : Int} {p F : Nat} {w : World} {D : Dict} (h : TD W a b c p F w D) {u : List (Fin 3)} {x : Nat} (hx : D u x) (hu : u.length ≤ 100000) :
 Calls Try.prog 35 #[.pointer (some ⟨x, 0, none⟩)] w fun e w' => e = .returned (.string (wb u)) ∧ Below w.heap.size w w' := by
 have HU := Lib.hid hu
 have c0 := (h.tile hx).1
 have HX := Lib.hid hx
 have hmk := fun w => run_make_row' (P := Try.prog) 104 5 (.int .u8 0) 1 Try.underlying104 info5 rfl .i64 .i64 u.length (by omega) (by omega) w
 have hbm := (Below.refl w.heap.size w).alloc (Nat.le_refl _) (.cells (madeCells #[.int .u8 0] u.length) 5)
 have h1 := str_new w (madeCells #[.int .u8 0] u.length) 5 _ rfl
 have h2 := toList_madeCells_one (.int .u8 0) u.length
 have hr0 : BRow (w.alloc (.cells (madeCells #[.int .u8 0] u.length) 5)) w.heap.size u.length (fun t => if u.length ≤ t then ((u.getD t 0).val : Int) else 0) := by
  intro t ht
  refine ⟨?_, free_of h1 t⟩
  rw [cell_of h1, ← Array.getElem?_toList, h2, List.getElem?_replicate, if_pos ht]
  have e : (if u.length ≤ t then ((u.getD t 0).val : Int) else 0) = 0 := if_neg (by omega)
  exact congrArg (fun z => some (Value.int .u8 z)) e.symm
 have hs0 : (w.alloc (.cells (madeCells #[.int .u8 0] u.length) 5)).heap.size = w.heap.size + 1 := by simp
 have c1 := ((h.below hbm).tile hx).1
 have HT := Hi (h.below hbm)
 have HPL := Hi ((Array.getElem?_eq_some_iff.1 h.head.1).1)
 have HLT := Hi (fun (u' : List (Fin 3)) (y : Nat) (hy : D u' y) => h.lt hy)
 clear h hx h1 h2
 go_enter Try.func35, Try.ntmps35
 go_upto_region 2 with fail
 generalize w.alloc (.cells (madeCells #[.int .u8 0] u.length) 5) = w1 at *
 have H0 := Hi (And.intro hbm (And.intro hr0 hs0))
 clear hbm hr0 hs0 hmk c0
 go_wp2_with fail
 go_loopw [0, 4] (fun s0 s4 wr => ∃ (k y : Nat), k ≤ u.length ∧ s0 = .pointer (some ⟨y, 0, none⟩) ∧ s4 = .int .i64 ((k : Int) - 1) ∧ Hid (D (u.take k) y ∧ Below w.heap.size w wr ∧ TD W a b c p F wr D ∧ BRow wr w.heap.size u.length (fun t => if k ≤ t then ((u.getD t 0).val : Int) else 0))) (fun _ s4 _ => (intOf s4 + 1).toNat)
 case atStart => exact ⟨u.length, x, Nat.le_refl _, rfl, rfl, Lib.hid ⟨by rw [List.take_length]; exact HX.out, H0.out.1, HT.out, H0.out.2.1⟩⟩
 case round =>
  obtain ⟨k, y, hk, rfl, rfl, HK⟩ := hrel
  by_cases hlt : 1 ≤ k
  · obtain ⟨m, rfl⟩ : ∃ m, k = m + 1 := ⟨k - 1, by omega⟩
    have hj : ((m + 1 : Nat) : Int) - 1 = (m : Int) := by omega
    rw [hj]
    have hmu : m < u.length := by omega
    have htk : u.take (m + 1) = u.take m ++ [u[m]] := List.take_succ_eq_append_getElem hmu
    obtain ⟨b1, z, b2, b3⟩ := (HK.out.2.2.1.tile HK.out.1).2 _ _ htk
    have k0 : (0 : Int) ≤ (m : Int) := by omega
    have k1 : (m : Int) < (u.length : Int) := by omega
    obtain ⟨f1, f2⟩ := HK.out.2.2.2 m hmu
    have hval : ((u.getD m 0).val : Int) = (u[m].val : Int) := by rw [List.getD_eq_getElem?_getD, List.getElem?_eq_getElem hmu]; rfl
    have hyg : y ≠ w.heap.size := by
     have := HLT.out _ _ HK.out.1
     omega
    generalize u[m] = i at *
    have i1 : (i.val : Int) < 3 := by omega
    have i2 : (0 : Int) ≤ (i.val : Int) := by omega
    have i3 : ((i.val : Int) % 256) = (i.val : Int) := by omega
    clear hj
    have HN : Hid (Below w.heap.size w (wr.setCell ⟨w.heap.size, m, none⟩ (.int .u8 (i.val : Int))) ∧ TD W a b c p F (wr.setCell ⟨w.heap.size, m, none⟩ (.int .u8 (i.val : Int))) D ∧ BRow (wr.setCell ⟨w.heap.size, m, none⟩ (.int .u8 (i.val : Int))) w.heap.size u.length (fun t => if m ≤ t then ((u.getD t 0).val : Int) else 0)) := Hi (by
     refine ⟨HK.out.2.1.trans ((Below.refl _ _).setCell (p := ⟨w.heap.size, m, none⟩) (Nat.le_refl _) _), HK.out.2.2.1.stay (fun x2 hx2 => ?_) ?_, ?_⟩
     · obtain ⟨u2, hu2⟩ := hx2
       have := HLT.out _ _ hu2
       rw [heap_setCell', if_neg (by omega)]
     · rw [heap_setCell', if_neg (by have := HPL.out; omega)]
     · intro t ht
       have h3 := HK.out.2.2.2.put hmu (i.val : Int) t ht
       refine ⟨?_, h3.2⟩
       rw [h3.1]
       refine congrArg (fun z => some (Value.int .u8 z)) ?_
       show (if t = m then (i.val : Int) else if m + 1 ≤ t then ((u.getD t 0).val : Int) else 0) = if m ≤ t then ((u.getD t 0).val : Int) else 0
       by_cases e1 : t = m
       · subst e1; rw [if_pos rfl, if_pos (Nat.le_refl _), ← hval]
       · rw [if_neg e1]
         by_cases e2 : m + 1 ≤ t
         · rw [if_pos e2, if_pos (by omega)]
         · rw [if_neg e2, if_neg (by omega)])
    have HZ := Lib.hid b3
    have d1 : (wr.setCell ⟨w.heap.size, m, none⟩ (.int .u8 (i.val : Int))).cell? ⟨y, 7, none⟩ = some (.int .i64 (i.val : Int)) := by
     rw [World.cell?_setCell_far _ _ _ _ (by simpa using Ne.symm hyg)]; exact b1
    have d2 : (wr.setCell ⟨w.heap.size, m, none⟩ (.int .u8 (i.val : Int))).cell? ⟨y, 1 + i.val, none⟩ = some (.pointer (some ⟨z, 0, none⟩)) := by
     rw [World.cell?_setCell_far _ _ _ _ (by simpa using Ne.symm hyg)]; exact b2
    clear b3
    go_upto_region 6 with fail
    generalize wr.setCell ⟨w.heap.size, m, none⟩ (.int .u8 (i.val : Int)) = w2 at *
    clear b1 b2 f1 f2
    go_quiet (fail)
    all_goals
     go_wp2_with fail
     go_roundw
     case rel => exact ⟨m, z, by omega, rfl, rfl, Lib.hid ⟨HZ.out, HN.out.1.trans (drewN_below _ _ _), HN.out.2.1.below (drewN_below _ _ _), fun t ht => HN.out.2.2 t ht⟩⟩
     case measure => simp [intOf]
  · have hk0 : k = 0 := by omega
    subst hk0
    have hcv := conv_row u (C := u.length) HK.out.2.2.2 (fun t ht => by
     show (if 0 ≤ t then ((u.getD t 0).val : Int) else 0) = _
     rw [if_pos (Nat.zero_le t), List.getD_eq_getElem?_getD, List.getElem?_eq_getElem ht]; rfl)
    go_wp2_with fail
    go_ret
    exact ⟨rfl, HK.out.2.1⟩
end Go.Proofs.Ytkndmibmmoikbaa
