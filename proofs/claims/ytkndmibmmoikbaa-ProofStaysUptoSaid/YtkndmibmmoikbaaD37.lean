/- Chapter 10: Group0. -/
import Derived.Test.YtkndmibmmoikbaaD07
import Derived.Test.YtkndmibmmoikbaaD36
set_option linter.all false
set_option maxRecDepth 100000
set_option maxHeartbeats 16000000
namespace Go.Proofs.Ytkndmibmmoikbaa
open Go.RowKit
open Cox (Tl)
def gb (m k : Nat) : Bool := m == 0 || k ≤ m
def domB (a b c : Nat) : Bool :=
 (gb a 2 && gb b 3 && gb c 6) || (gb a 2 && gb c 3 && gb b 6) || (gb b 2 && gb a 3 && gb c 6) || (gb b 2 && gb c 3 && gb a 6) || (gb c 2 && gb a 3 && gb b 6) || (gb c 2 && gb b 3 && gb a 6) ||
 (gb a 2 && gb b 4 && gb c 4) || (gb b 2 && gb a 4 && gb c 4) || (gb c 2 && gb a 4 && gb b 4) || (gb a 3 && gb b 3 && gb c 3)
theorem dom_all : ((List.range 13).all fun a => (List.range 13).all fun b => (List.range 13).all fun c => !(decide (chk (a : Int) (b : Int) (c : Int) = 0)) || domB a b c) = true := by kernel_rfl
theorem dom_of {a b c : Nat} (ha : a ≤ 12) (hb : b ≤ 12) (hc : c ≤ 12) (h : chk a b c = 0) : domB a b c = true := by
 have h1 := List.all_eq_true.1 dom_all a (by simp; omega)
 have h2 := List.all_eq_true.1 h1 b (by simp; omega)
 have h3 := List.all_eq_true.1 h2 c (by simp; omega)
 simpa [h] using h3
theorem gb_ge {m k : Nat} (h : gb m k = true) : Cox.ge m k := by
 unfold gb at h
 unfold Cox.ge
 simpa using h
theorem tri_heavy {a b c : Nat} (ha : a ≠ 1) (hb : b ≠ 1) (hc : c ≠ 1) (ka : a ≤ 12) (kb : b ≤ 12) (kc : c ≤ 12) (h : chk a b c = 0) : ∃ T : Cox.Tri Cox.Re, T.m = ords a b c ∧ ∃ g, Cox.Heavy T g := by
 obtain ⟨T, hT, hf⟩ := Cox.exists_tri_flat (ords a b c) (by
  intro i j
  unfold ords
  by_cases e : i = j
  · subst e; rfl
  · rw [if_neg e, if_neg (fun h => e (Eq.symm h) : ¬ j = i), Nat.add_comm]) (by
  intro i j e
  unfold ords
  rw [if_neg e]
  split
  · exact ha
  · split
    · exact hb
    · exact hc)
 have a1 := T.angle 0 1 (by decide)
 have a2 := T.angle 1 2 (by decide)
 have a3 := T.angle 0 2 (by decide)
 rw [hT] at a1 a2 a3
 have e1 : ords a b c 0 1 = a := rfl
 have e2 : ords a b c 1 2 = b := rfl
 have e3 : ords a b c 0 2 = c := rfl
 rw [e1] at a1
 rw [e2] at a2
 rw [e3] at a3
 have hd := dom_of ka kb kc h
 have g2 : ∀ m, m ≠ 1 → Cox.ge m 2 := by
  intro m hm
  unfold Cox.ge
  omega
 have hs : Cox.Small (T.c 0 1) (T.c 1 2) (T.c 0 2) := by
  unfold domB at hd
  simp only [Bool.or_eq_true, Bool.and_eq_true] at hd
  rcases hd with ((((((((⟨⟨p, q⟩, r⟩ | ⟨⟨p, q⟩, r⟩) | ⟨⟨p, q⟩, r⟩) | ⟨⟨p, q⟩, r⟩) | ⟨⟨p, q⟩, r⟩) | ⟨⟨p, q⟩, r⟩) | ⟨⟨p, q⟩, r⟩) | ⟨⟨p, q⟩, r⟩) | ⟨⟨p, q⟩, r⟩) | ⟨⟨p, q⟩, r⟩
  · exact Cox.small_236 a1 a2 a3 (gb_ge p) (gb_ge q) (gb_ge r)
  · exact (Cox.small_236 a1 a3 a2 (gb_ge p) (gb_ge q) (gb_ge r)).turn.swap.turn.turn
  · exact (Cox.small_236 a2 a1 a3 (gb_ge p) (gb_ge q) (gb_ge r)).swap
  · exact (Cox.small_236 a2 a3 a1 (gb_ge p) (gb_ge q) (gb_ge r)).turn.turn
  · exact (Cox.small_236 a3 a1 a2 (gb_ge p) (gb_ge q) (gb_ge r)).turn
  · exact (Cox.small_236 a3 a2 a1 (gb_ge p) (gb_ge q) (gb_ge r)).swap.turn.turn
  · exact Cox.small_244 a1 a2 a3 (gb_ge p) (gb_ge q) (gb_ge r)
  · exact (Cox.small_244 a2 a1 a3 (gb_ge p) (gb_ge q) (gb_ge r)).swap
  · exact (Cox.small_244 a3 a1 a2 (gb_ge p) (gb_ge q) (gb_ge r)).turn
  · exact Cox.small_333 a1 a2 a3 (gb_ge p) (gb_ge q) (gb_ge r)
 exact ⟨T, hT, Cox.heavy_of T rfl rfl rfl (Cox.cos_2 a1 (g2 a ha)) (Cox.cos_2 a2 (g2 b hb)) (Cox.cos_2 a3 (g2 c hc)) (hf 0 1 (by decide)) (hf 1 2 (by decide)) (hf 0 2 (by decide)) hs⟩
end Go.Proofs.Ytkndmibmmoikbaa
