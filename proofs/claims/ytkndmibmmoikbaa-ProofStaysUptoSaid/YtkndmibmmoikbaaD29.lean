/- Chapter 10: Rf7 Rd0. -/
import Derived.Test.YtkndmibmmoikbaaD28
import Derived.Deep.OwnRows
set_option linter.all false
set_option maxRecDepth 100000
set_option maxHeartbeats 16000000
namespace Go.Proofs.Ytkndmibmmoikbaa
open Go.RowKit
open Cox (Tl)
theorem wrap_u8_fin (i : Fin 3) : IntKind.u8.wrap (i.val : Int) = (i.val : Int) := by
 match i with
 | 0 => rfl
 | 1 => rfl
 | 2 => rfl
end Go.Proofs.Ytkndmibmmoikbaa
namespace Go.Proofs.Ytkndmibmmoikbaa
open Go.RowKit
open Cox (Tl)
theorem info9 : Option.map (fun i => (i.zero, i.size, i.bytes)) (Try.prog.info? 9) = some (some (.string ⟨#[]⟩), 1, 16) := by kernel_rfl
theorem owns_cell {w : World} {B : Nat} {e : TypeId} {n size : Nat} {v : Value} {xs : List Value} (h : w.ownsRow B e size v n xs) {i : Nat} (hi : i < xs.length) : ∃ g cap, v = .slice (some ⟨g, 0, none⟩) n cap ∧ w.cell? ⟨g, i, none⟩ = xs[i]? ∧ B ≤ g := by
 obtain ⟨h1, h2⟩ := h
 rcases h2 with ⟨_, h2⟩ | ⟨g, cap, cur, hv, hb, hg, hn, _, hs, ht⟩
 · subst h2; simp at h1; subst h1; simp at hi
 · refine ⟨g, cap, hv, ?_, hb⟩
   rw [cell_of hg, ← ht, List.getElem?_take, if_pos (by omega)]
   simp
theorem owns_form {w : World} {B : Nat} {e : TypeId} {n size : Nat} {v : Value} {xs : List Value} (h : w.ownsRow B e size v n xs) : ∃ p cap, v = .slice p n cap := by
 rcases h.2 with ⟨h1, h2⟩ | ⟨g, cap, cur, hv, _⟩
 · exact ⟨none, 0, by rw [h1, h2]⟩
 · exact ⟨_, cap, hv⟩
theorem grown_keep {w w' : World} {o : Obj} {r : Option Nat} (hgr : (w.alloc o).grownBy w' r) {q : Nat} (hq : q < w.heap.size) (hne : r ≠ some q) : w'.heap[q]? = w.heap[q]? := by
 rw [hgr.block q (by simp; omega) (fun e => hne e.symm)]
 exact Below.heap_alloc _ _ _ hq
section
variable {H bl bo br : Nat} {a b c : Int} {vt vto vput vm : Value} {ts : List ByteArray} {n m : Nat} {f g : Nat → Nat → Int} {ms : List ByteArray} {wi w : World}
end
end Go.Proofs.Ytkndmibmmoikbaa
