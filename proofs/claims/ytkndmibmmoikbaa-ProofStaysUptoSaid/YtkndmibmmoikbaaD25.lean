/- Chapter 10: PrT. -/
import Derived.StillTailTactics
import Derived.BigQuiet
set_option linter.all false
set_option maxRecDepth 100000
set_option maxHeartbeats 16000000
namespace Go.Proofs.Ytkndmibmmoikbaa
open Go
theorem still_of_quiet {P : Program} {o : Oper} {a : Act} {w : World} {K K' : Act → Prop} (hK : ∀ a, K a → K' a) (h : o.quiet P a (fun w' => w' = w) K) : o.still P a w K' := by
 obtain ⟨v, h1, h2⟩ := h
 have h3 := h1 w rfl
 unfold Oper.quietAt at h3
 unfold Oper.still
 cases hr : (execOp a.eval o).run P w with
 | ok r w' =>
  rw [hr] at h3
  cases r with
  | value u => obtain ⟨rfl, rfl⟩ := h3; exact ⟨rfl, hK _ h2⟩
  | skip => obtain ⟨rfl, rfl⟩ := h3; exact ⟨rfl, hK _ h2⟩
  | enter f args => obtain ⟨rfl, h4⟩ := h3; exact ⟨rfl, v, h4, hK _ h2⟩
  | _ => exact h3.elim
 | _ => rw [hr] at h3; exact h3.elim
theorem wpStill_of_quiet {P : Program} {ops : Array Oper} {w : World} {Q : Act → Prop} : ∀ {l : List Oper} {a : Act}, wpQuiet P ops (fun w' => w' = w) Q l a → wpStill P ops w Q l a
 | [], a, h => h
 | o :: rest, a, h => by
  unfold wpStill
  unfold wpQuiet at h
  split
  · rename_i hw
    rw [if_pos hw] at h
    exact still_of_quiet (fun a ha => wpStill_of_quiet ha) h
  · rename_i hw
    rw [if_neg hw] at h
    exact wpStill_of_quiet h
theorem region_quiet_tail {P : Program} {id : Nat} {Q : Exit → Act → World → Prop} {a : Act} {w : World} {l : List Oper} (n : Nat) (hm : P.follows .mixedOrders = true) (hB : Region.lexTailB .any l.toArray n = true)
 (h : ∀ wd, wd = w.drew → wpQuiet P l.toArray (fun w' => w' = wd) (fun a' => wpList P l.toArray Q (l.drop n) a' wd) (l.take n) a) : (Code.region id l.toArray true).wp P Q a w :=
 wp_region_still_tail n hm hB (wpStill_of_quiet (h _ rfl))
end Go.Proofs.Ytkndmibmmoikbaa
