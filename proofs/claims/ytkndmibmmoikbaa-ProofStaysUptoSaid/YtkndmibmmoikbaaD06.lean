/- Chapter 10: Small3. -/
import Derived.Test.YtkndmibmmoikbaaD05
import Derived.Lib.ConvBytes
set_option linter.all false
set_option maxRecDepth 100000
set_option maxHeartbeats 16000000
namespace Go.Proofs.Ytkndmibmmoikbaa
open Go.RowKit
open Cox (Tl)
def badW (s : ByteArray) : Prop := ∃ (i : Nat) (h : i < s.size), 2 < (s[i]'h).toNat
noncomputable def cw (s : ByteArray) : Int := by
 classical
 exact if badW s then 1 else if 60 < s.size then 4 else 0
theorem cw_bad {s : ByteArray} (h : badW s) : cw s = 1 := by unfold cw; rw [if_pos h]
theorem cw_long {s : ByteArray} (h : ¬ badW s) (h2 : 60 < s.size) : cw s = 4 := by unfold cw; rw [if_neg h, if_pos h2]
theorem cw_ok {s : ByteArray} (h : ¬ badW s) (h2 : ¬ 60 < s.size) : cw s = 0 := by unfold cw; rw [if_neg h, if_neg h2]
theorem wb_of {s : ByteArray} (h : ¬ badW s) : ∃ l : List (Fin 3), s = wb l := by
 have hl : ∀ l : List UInt8, (∀ x, x ∈ l → x.toNat ≤ 2) → ∃ r : List (Fin 3), l = r.map fun i => UInt8.ofNat i.val := by
  intro l
  induction l with
  | nil => intro _; exact ⟨[], rfl⟩
  | cons x l ih =>
   intro hx
   obtain ⟨r, hr⟩ := ih fun y hy => hx y (List.mem_cons_of_mem _ hy)
   have h2 := hx x (List.mem_cons_self)
   refine ⟨⟨x.toNat, by omega⟩ :: r, ?_⟩
   simp [hr]
 obtain ⟨r, hr⟩ := hl s.data.toList (by
  intro x hx
  obtain ⟨i, hi, rfl⟩ := List.getElem_of_mem hx
  have hi' : i < s.size := by simpa using hi
  exact Nat.le_of_not_lt fun h2 => h ⟨i, hi', h2⟩)
 refine ⟨r, ?_⟩
 apply ByteArray.ext
 show s.data = _
 rw [← Array.toList_inj, hr]
 simp [wb]
theorem cw_zero {s : ByteArray} (h : cw s = 0) : ∃ l : List (Fin 3), s = wb l ∧ l.length ≤ 60 := by
 by_cases hb : badW s
 · rw [cw_bad hb] at h; cases h
 · by_cases hl : 60 < s.size
   · rw [cw_long hb hl] at h; cases h
   · obtain ⟨l, rfl⟩ := wb_of hb
     rw [wb_size] at hl
     exact ⟨l, rfl, by omega⟩
noncomputable def cws : List ByteArray → Int
 | [] => 0
 | s :: l => if cw s = 0 then cws l else cw s
end Go.Proofs.Ytkndmibmmoikbaa
