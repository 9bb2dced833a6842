/- Chapter 10: Words4 Words5 Law0 Law1 St0 St1. -/
import Derived.Test.YtkndmibmmoikbaaD06
import Derived.Test.YtkndmibmmoikbaaD03
import Derived.Deep.RegionHeld3
import Derived.StillTactics
set_option linter.all false
set_option maxRecDepth 100000
set_option maxHeartbeats 16000000
namespace Go.Proofs.Ytkndmibmmoikbaa
open Go.RowKit
open Cox (Tl)
theorem str_new (W : World) (cs : Array Value) (T : TypeId) (n : Nat) (hn : n = W.heap.size) : (W.alloc (.cells cs T)).heap[n]? = some (.cells cs T (0, 0)) := by
 subst hn
 show (W.heap.push _)[W.heap.size]? = _
 simp
section
variable {K : Type} [Cox.OR K]
end
end Go.Proofs.Ytkndmibmmoikbaa
namespace Go.Proofs.Ytkndmibmmoikbaa
open Go.RowKit
open Cox (Tl)
section
variable {K : Type} [Cox.OR K]
end
theorem wb_get (l : List (Fin 3)) (i : Nat) (h : i < (wb l).size) (h' : i < l.length) : ((wb l)[i]'h).toNat = (l[i]'h').val := by
 have e : (wb l).data = (l.map fun i : Fin 3 => UInt8.ofNat i.val).toArray := rfl
 have h2 : (wb l)[i]'h = UInt8.ofNat (l[i]'h').val := by
  show (wb l).data[i]'_ = _
  simp [e]
 rw [h2]
 have := (l[i]'h').isLt
 simp
 omega
theorem index_wb (l : List (Fin 3)) (i : Nat) (h : i < l.length) (W : World) : (Instr.index 9 (.string (wb l)) (.int .i64 (i : Int))).run Try.prog W = .ok (.int .u8 ((l[i]'h).val : Int)) W := by
 have hs : i < (wb l).size := by rw [wb_size]; exact h
 have e : ((l[i]'h).val : Int) = (((wb l)[i]'hs).toNat : Int) := by rw [wb_get l i hs h]
 rw [e]
 simp [go_sem, hs]
end Go.Proofs.Ytkndmibmmoikbaa
namespace Go.Proofs.Ytkndmibmmoikbaa
open Go.RowKit
open Cox (Tl)
theorem chk_nat {a b c : Int} (h : chk a b c = 0) : ∃ a' b' c' : Nat, a = a' ∧ b = b' ∧ c = c' ∧ a' ≠ 1 ∧ b' ≠ 1 ∧ c' ≠ 1 ∧ a' ≤ 12 ∧ b' ≤ 12 ∧ c' ≤ 12 := by
 unfold chk at h
 by_cases h1 : badO a ∨ badO b ∨ badO c
 · rw [if_pos h1] at h; cases h
 · simp only [badO, not_or] at h1
   refine ⟨a.toNat, b.toNat, c.toNat, ?_⟩
   omega
end Go.Proofs.Ytkndmibmmoikbaa
namespace Go.Proofs.Ytkndmibmmoikbaa
open Go.RowKit
open Cox (Tl)
def AtO (a b c : Int) (B : Nat) (w : World) : Prop := w.cell? ⟨B, 0, none⟩ = some (.int .i64 a) ∧ w.cell? ⟨B, 1, none⟩ = some (.int .i64 b) ∧ w.cell? ⟨B, 2, none⟩ = some (.int .i64 c) ∧ B < w.heap.size
theorem AtO.below {a b c : Int} {B : Nat} {w w' : World} (h : AtO a b c B w) (hb : Below w.heap.size w w') : AtO a b c B w' := by
 obtain ⟨h1, h2, h3, h4⟩ := h
 exact ⟨by rw [Below.cell (p := ⟨B, 0, none⟩) hb h4]; exact h1, by rw [Below.cell (p := ⟨B, 1, none⟩) hb h4]; exact h2, by rw [Below.cell (p := ⟨B, 2, none⟩) hb h4]; exact h3, Nat.lt_of_lt_of_le h4 hb.size⟩
theorem wb_data (l : List (Fin 3)) : (wb l).data.toList = l.map fun i => UInt8.ofNat i.val := by simp [wb]
theorem ba_ext {s t : ByteArray} (h : s.data.toList = t.data.toList) : s = t := by
 cases s; cases t
 simp only at h
 exact congrArg _ (Array.toList_inj.1 h)
theorem wb_inj {u v : List (Fin 3)} (h : wb u = wb v) : u = v := by
 have h1 : (wb u).data.toList = (wb v).data.toList := by rw [h]
 rw [wb_data, wb_data] at h1
 have hf : ∀ i j : Fin 3, UInt8.ofNat i.val = UInt8.ofNat j.val → i = j := by decide
 induction u generalizing v with
 | nil => cases v with
  | nil => rfl
  | cons b v => cases h1
 | cons a u ih => cases v with
  | nil => cases h1
  | cons b v =>
   simp only [List.map_cons, List.cons.injEq] at h1
   rw [hf _ _ h1.1, ih (ba_ext (by rw [wb_data, wb_data]; exact h1.2)) h1.2]
theorem wb_beq (u v : List (Fin 3)) : ((wb u).toList == (wb v).toList) = decide (u = v) := by
 by_cases h : u = v
 · subst h; simp
 · rw [decide_eq_false h, beq_eq_false_iff_ne]
   intro e
   refine h (wb_inj (ba_ext ?_))
   rw [← ByteArray.toList_eq, ← ByteArray.toList_eq]
   exact e
end Go.Proofs.Ytkndmibmmoikbaa
namespace Go.Proofs.Ytkndmibmmoikbaa
open Go.RowKit
open Cox (Tl)
theorem between_any (a b c : Int) (i j : Int) (hi : 0 ≤ i ∧ i ≤ 2) (hj : 0 ≤ j ∧ j ≤ 2) (w : World) :
 Calls Try.prog 45 #[oval a b c, .int .i64 i, .int .i64 j] w fun e w' => e = .returned (.int .i64 (if i + j = 1 then a else if i + j = 3 then b else c)) ∧ Below w.heap.size w w' := by
 unfold oval
 by_cases h1 : i + j = 1
 · have e1 : (i + j == 1) = true := by simpa using h1
   rw [if_pos h1]
   go_enter Try.func45, Try.ntmps45
   go_wp2
   go_ret
   exact ⟨rfl, (Below.refl _ _).alloc (Nat.le_refl _) _⟩
 · have e1 : (i + j == 1) = false := by simpa using h1
   rw [if_neg h1]
   by_cases h3 : i + j = 3
   · have e3 : (i + j == 3) = true := by simpa using h3
     rw [if_pos h3]
     go_enter Try.func45, Try.ntmps45
     go_wp2
     go_ret
     exact ⟨rfl, (Below.refl _ _).alloc (Nat.le_refl _) _⟩
   · have e3 : (i + j == 3) = false := by simpa using h3
     rw [if_neg h3]
     go_enter Try.func45, Try.ntmps45
     go_wp2
     go_ret
     exact ⟨rfl, (Below.refl _ _).alloc (Nat.le_refl _) _⟩
end Go.Proofs.Ytkndmibmmoikbaa
namespace Go.Proofs.Ytkndmibmmoikbaa
open Go.RowKit
open Cox (Tl)
theorem AtO.newT (a b c : Int) (w : World) (T : TypeId) : AtO a b c w.heap.size (w.alloc (.cells #[.int .i64 a, .int .i64 b, .int .i64 c] T)) := by
 have := str_new w #[.int .i64 a, .int .i64 b, .int .i64 c] T _ rfl
 exact ⟨cell_of this 0, cell_of this 1, cell_of this 2, by simp⟩
end Go.Proofs.Ytkndmibmmoikbaa
