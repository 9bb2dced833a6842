/- Chapter 10: Grow0 Grow1. -/
import Derived.Test.YtkndmibmmoikbaaD02
import Derived.Test.YtkndmibmmoikbaaD03
import Derived.Test.YtkndmibmmoikbaaD00
import Derived.Test.YtkndmibmmoikbaaProg
import Derived.WalkKit
import Derived.RegionTactic
import Derived.ChangeAlike
import Derived.BigRegion
import Derived.Outline
import Derived.Lib.Hide
set_option linter.all false
set_option maxRecDepth 100000
set_option maxHeartbeats 16000000
namespace Go.Proofs.Ytkndmibmmoikbaa
open Go.RowKit
open Cox (Tl)
theorem Hi {p : Prop} (h : p) : Hid p := h
theorem cell_of {w : World} {b : Nat} {cs : Array Value} {T : TypeId} {fr : Nat × Nat} (h : w.heap[b]? = some (.cells cs T fr)) (o : Nat) : w.cell? ⟨b, o, none⟩ = cs[o]? := by
 simp [World.cell?, h]
theorem free_of {w : World} {b : Nat} {cs : Array Value} {T : TypeId} (h : w.heap[b]? = some (.cells cs T (0, 0))) (o : Nat) : w.frozen? ⟨b, o, none⟩ = false := by
 simp [World.frozen?, h]
def wb (l : List (Fin 3)) : ByteArray := ⟨(l.map fun i => UInt8.ofNat i.val).toArray⟩
theorem heap_setCell (w : World) (b o : Nat) (v : Value) (k : Nat) {cs : Array Value} {T : TypeId} {fr : Nat × Nat} (h : w.heap[b]? = some (.cells cs T fr)) :
 (w.setCell ⟨b, o, none⟩ v).heap[k]? = if k = b then some (.cells (cs.setIfInBounds o v) T fr) else w.heap[k]? := by
 simp only [World.setCell, Array.getElem?_modify]
 by_cases e : b = k
 · subst e; simp [h]
 · rw [if_neg e, if_neg (fun h => e h.symm)]
theorem lowest_succ {st : List Tl} {x : Nat} {i j : Fin 3} {n : Nat} {o : Option Nat} (h : Cox.lowest st x i j (n + 1) = some o) :
 ∃ nd, st[x]? = some nd ∧ ((nd.down i = false ∧ o = none) ∨ (nd.down i = true ∧ ∃ x', nd.to i = some x' ∧ Cox.lowest st x' j i n = some o)) := by
 simp only [Cox.lowest] at h
 cases hx : st[x]? with
 | none => rw [hx] at h; cases h
 | some nd =>
  rw [hx] at h
  simp only [Option.bind_some] at h
  refine ⟨nd, rfl, ?_⟩
  cases hd : nd.down i with
  | false => rw [hd] at h; simp at h; exact .inl ⟨rfl, h.symm⟩
  | true =>
   rw [hd] at h
   simp only [if_true] at h
   cases ht : nd.to i with
   | none => rw [ht] at h; cases h
   | some x' => rw [ht] at h; exact .inr ⟨rfl, x', rfl, h⟩
theorem conv_byte (i : Fin 3) (W : World) (a : Addr) (ha : a.spot = none) (h : W.cell? a = some (.int .u8 (i.val : Int))) :
 (convert 104 9 (.slice (some a) 1 1)).run Try.prog W = .ok (.string (wb [i])) W := by
 obtain ⟨b, o, sp⟩ := a
 subst ha
 have h' : ∀ j, j < 1 → W.cell? ⟨b, o + j, none⟩ = some (.int .u8 ([(i.val : Int)].getD j 0)) := by
  intro j hj
  have hj0 : j = 0 := by omega
  subst hj0
  exact h
 rw [run_convert_bytes_arg W 104 5 Try.underlying104 Try.underlying5 b o 1 1 [(i.val : Int)] rfl h' 9 Try.underlying9]
 rfl
theorem wb_size (l : List (Fin 3)) : (wb l).size = l.length := by simp [wb, ByteArray.size]
theorem wb_append (a b : List (Fin 3)) : wb a ++ wb b = wb (a ++ b) := by
 unfold wb
 rw [ByteArray.mk_append_mk, List.map_append]
end Go.Proofs.Ytkndmibmmoikbaa
namespace Go.Proofs.Ytkndmibmmoikbaa
open Go.RowKit
open Cox (Tl)
theorem step_none {m : Fin 3 → Fin 3 → Nat} {f : Nat} {st : List Tl} {x y : Nat} {s : Fin 3} {nd : Tl} {st' : List Tl} (h : Cox.step m (f + 1) st x s = some (st', y)) (hn : st[x]? = some nd) (ht : nd.to s = none) :
 nd.word.length ≤ f ∧ y = st.length ∧ ∃ sa sb, Cox.round m f (Cox.step m f) (Cox.link (st ++ [Cox.fresh nd s]) x st.length s) x st.length s 0 = some sa ∧
  Cox.round m f (Cox.step m f) sa x st.length s 1 = some sb ∧ Cox.round m f (Cox.step m f) sb x st.length s 2 = some st' := by
 simp only [Cox.step, hn, Option.bind_some] at h
 have hlen : nd.word.length ≤ f := by
  rcases Nat.lt_or_ge f nd.word.length with h' | h'
  · rw [if_pos h'] at h; cases h
  · exact h'
 rw [if_neg (by omega), ht] at h
 simp only at h
 cases ha : Cox.round m f (Cox.step m f) (Cox.link (st ++ [Cox.fresh nd s]) x st.length s) x st.length s 0 with
 | none => rw [ha] at h; cases h
 | some sa =>
  rw [ha] at h
  simp only [Option.bind_some] at h
  cases hb : Cox.round m f (Cox.step m f) sa x st.length s 1 with
  | none => rw [hb] at h; cases h
  | some sb =>
   rw [hb] at h
   simp only [Option.bind_some] at h
   cases hc : Cox.round m f (Cox.step m f) sb x st.length s 2 with
   | none => rw [hc] at h; cases h
   | some sc =>
    rw [hc] at h
    simp only [Option.bind_some, Option.some.injEq, Prod.mk.injEq] at h
    obtain ⟨rfl, rfl⟩ := h
    exact ⟨hlen, rfl, sa, sb, rfl, hb, hc⟩
theorem less_wb (u v : List (Fin 3)) : Op.bytesLess (wb u).toList (wb v).toList = Cox.lex u v := by
 unfold wb
 rw [ByteArray.toList_mk, ByteArray.toList_mk]
 have e : ∀ i j : Fin 3, decide (UInt8.ofNat i.val < UInt8.ofNat j.val) = decide (i < j) ∧ (UInt8.ofNat i.val == UInt8.ofNat j.val) = decide (i = j) := by decide
 induction u generalizing v with
 | nil => cases v <;> rfl
 | cons a u ih => cases v with
  | nil => rfl
  | cons b v => simp only [List.map_cons, Op.bytesLess, Cox.lex, ih, (e a b).1, (e a b).2]
end Go.Proofs.Ytkndmibmmoikbaa
