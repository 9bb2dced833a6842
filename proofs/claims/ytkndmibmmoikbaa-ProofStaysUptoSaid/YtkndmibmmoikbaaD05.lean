/- Chapter 10: Small0 Small1 Small2. -/
import Derived.Test.YtkndmibmmoikbaaD04
import Derived.Deep.QuietTactic
import Derived.BigQuiet
import Derived.Defers
import Derived.Recover
set_option linter.all false
set_option maxRecDepth 100000
set_option maxHeartbeats 16000000
namespace Go.Proofs.Ytkndmibmmoikbaa
open Go.RowKit
open Cox (Tl)
def oval (a b c : Int) : Value := .agg #[.int .i64 a, .int .i64 b, .int .i64 c]
def ords (a b c : Nat) : Fin 3 → Fin 3 → Nat := fun i j => if i = j then 0 else if i.val + j.val = 1 then a else if i.val + j.val = 3 then b else c
theorem gcd_step (x y : Nat) : Nat.gcd y (x % y) = Nat.gcd x y := by
 rw [Nat.gcd_comm y, ← Nat.gcd_rec, Nat.gcd_comm]
end Go.Proofs.Ytkndmibmmoikbaa
namespace Go.Proofs.Ytkndmibmmoikbaa
open Go.RowKit
open Cox (Tl)
def badO (m : Int) : Prop := m < 0 ∨ m = 1 ∨ 12 < m
instance (m : Int) : Decidable (badO m) := by unfold badO; infer_instance
def acc (s : Nat × Nat × Nat) (m : Nat) : Nat × Nat × Nat := if m = 0 then s else (s.1 / Nat.gcd s.1 m * m, s.2.1 * m + s.2.2, s.2.2 * m)
def acc3 (a b c : Nat) : Nat × Nat × Nat := acc (acc (acc (1, 0, 1) a) b) c
def chk (a b c : Int) : Int :=
 if badO a ∨ badO b ∨ badO c then 1 else if (acc3 a.toNat b.toNat c.toNat).2.2 ≤ (acc3 a.toNat b.toNat c.toNat).2.1 then 1 else if 60 < (acc3 a.toNat b.toNat c.toNat).1 then 4 else 0
theorem acc_le (s : Nat × Nat × Nat) (m B : Nat) (hm : m ≤ 12) (h1 : s.1 ≤ B) (h2 : s.2.1 ≤ 3 * B) (h3 : s.2.2 ≤ B) : (acc s m).1 ≤ B * 12 ∧ (acc s m).2.1 ≤ 3 * (B * 13) ∧ (acc s m).2.2 ≤ B * 12 := by
 unfold acc
 split
 · omega
 · refine ⟨?_, ?_, ?_⟩
   · have : s.1 / Nat.gcd s.1 m ≤ s.1 := Nat.div_le_self _ _
     exact Nat.mul_le_mul (by omega) hm
   · have : s.2.1 * m ≤ (3 * B) * 12 := Nat.mul_le_mul h2 hm
     show s.2.1 * m + s.2.2 ≤ _
     omega
   · exact Nat.mul_le_mul h3 hm
def at3 (a b c : Int) (k : Nat) : Int := if k = 0 then a else if k = 1 then b else c
def accs (a b c : Int) (k : Nat) : Nat × Nat × Nat := if k = 0 then (1, 0, 1) else if k = 1 then acc (1, 0, 1) a.toNat else if k = 2 then acc (acc (1, 0, 1) a.toNat) b.toNat else acc3 a.toNat b.toNat c.toNat
theorem accs_succ (a b c : Int) (k : Nat) (hk : k < 3) : accs a b c (k + 1) = acc (accs a b c k) (at3 a b c k).toNat := by
 have : k = 0 ∨ k = 1 ∨ k = 2 := by omega
 rcases this with rfl | rfl | rfl <;> rfl
theorem accs_bound (a b c : Int) (k : Nat) (hk : k ≤ 3) (h : ∀ j, j < k → ¬ badO (at3 a b c j)) : (accs a b c k).1 ≤ 2028 ∧ (accs a b c k).2.1 ≤ 7000 ∧ (accs a b c k).2.2 ≤ 2028 := by
 have hb : ∀ j, j < k → (at3 a b c j).toNat ≤ 12 := fun j hj => by have := h j hj; unfold badO at this; omega
 have e : k = 0 ∨ k = 1 ∨ k = 2 ∨ k = 3 := by omega
 have b0 : (accs a b c 0).1 ≤ 1 ∧ (accs a b c 0).2.1 ≤ 3 * 1 ∧ (accs a b c 0).2.2 ≤ 1 := by simp [accs]
 have s1 : 1 ≤ k → (accs a b c 1).1 ≤ 13 ∧ (accs a b c 1).2.1 ≤ 3 * 13 ∧ (accs a b c 1).2.2 ≤ 13 := by
  intro h1
  have q := acc_le _ _ _ (hb 0 (by omega)) b0.1 b0.2.1 b0.2.2
  rw [← accs_succ a b c 0 (by omega)] at q
  have q' : (accs a b c 1).1 ≤ 1 * 12 ∧ (accs a b c 1).2.1 ≤ 3 * (1 * 13) ∧ (accs a b c 1).2.2 ≤ 1 * 12 := q
  omega
 have s2 : 2 ≤ k → (accs a b c 2).1 ≤ 169 ∧ (accs a b c 2).2.1 ≤ 3 * 169 ∧ (accs a b c 2).2.2 ≤ 169 := by
  intro h1
  have p := s1 (by omega)
  have q := acc_le _ _ 13 (hb 1 (by omega)) p.1 p.2.1 p.2.2
  rw [← accs_succ a b c 1 (by omega)] at q
  have q' : (accs a b c 2).1 ≤ 13 * 12 ∧ (accs a b c 2).2.1 ≤ 3 * (13 * 13) ∧ (accs a b c 2).2.2 ≤ 13 * 12 := q
  omega
 have s3 : 3 ≤ k → (accs a b c 3).1 ≤ 2028 ∧ (accs a b c 3).2.1 ≤ 6591 ∧ (accs a b c 3).2.2 ≤ 2028 := by
  intro h1
  have p := s2 (by omega)
  have q := acc_le _ _ 169 (hb 2 (by omega)) p.1 p.2.1 p.2.2
  rw [← accs_succ a b c 2 (by omega)] at q
  have q' : (accs a b c 3).1 ≤ 169 * 12 ∧ (accs a b c 3).2.1 ≤ 3 * (169 * 13) ∧ (accs a b c 3).2.2 ≤ 169 * 12 := q
  omega
 rcases e with rfl | rfl | rfl | rfl
 · omega
 · have := s1 (by omega); omega
 · have := s2 (by omega); omega
 · have := s3 (by omega); omega
theorem chk_bad {a b c : Int} {k : Nat} (hk : k < 3) (h : badO (at3 a b c k)) : chk a b c = 1 := by
 unfold chk
 have : k = 0 ∨ k = 1 ∨ k = 2 := by omega
 rw [if_pos]
 rcases this with rfl | rfl | rfl
 · exact .inl h
 · exact .inr (.inl h)
 · exact .inr (.inr h)
theorem chk_good {a b c : Int} (h : ∀ j, j < 3 → ¬ badO (at3 a b c j)) : chk a b c = if (accs a b c 3).2.2 ≤ (accs a b c 3).2.1 then 1 else if 60 < (accs a b c 3).1 then 4 else 0 := by
 unfold chk
 rw [if_neg]
 · rfl
 · rintro (g | g | g)
   · exact h 0 (by omega) g
   · exact h 1 (by omega) g
   · exact h 2 (by omega) g
theorem level_cast (x g m : Nat) : ((x / g * m : Nat) : Int) = (x : Int) / (g : Int) * (m : Int) := by rw [Int.natCast_mul, Int.natCast_ediv]
theorem drewN_below (B : Nat) (w : World) (n : Nat) : Below B w (w.drewN n) := ⟨rfl, rfl, rfl, Nat.le_refl _, fun _ _ => rfl⟩
end Go.Proofs.Ytkndmibmmoikbaa
namespace Go.Proofs.Ytkndmibmmoikbaa
open Go.RowKit
open Cox (Tl)
def rsum (a b c : Int) : Nat → Nat
 | 0 => 0
 | k + 1 => if at3 a b c k = 0 then rsum a b c k else rsum a b c k + 27720 / (at3 a b c k).toNat
theorem rsum_fin : ∀ a b c : Fin 13, a.val ≠ 1 → b.val ≠ 1 → c.val ≠ 1 → ((accs a.val b.val c.val 3).2.2 ≤ (accs a.val b.val c.val 3).2.1 ↔ 27720 ≤ rsum a.val b.val c.val 3) := by decide +kernel
theorem rsum_iff {a b c : Int} (h : ∀ j, j < 3 → ¬ badO (at3 a b c j)) : ((accs a b c 3).2.2 ≤ (accs a b c 3).2.1 ↔ 27720 ≤ rsum a b c 3) := by
 have ha : ¬ badO a := h 0 (by omega)
 have hb : ¬ badO b := h 1 (by omega)
 have hc : ¬ badO c := h 2 (by omega)
 unfold badO at ha hb hc
 obtain ⟨x, rfl⟩ : ∃ x : Nat, a = x := ⟨a.toNat, by omega⟩
 obtain ⟨y, rfl⟩ : ∃ x : Nat, b = x := ⟨b.toNat, by omega⟩
 obtain ⟨z, rfl⟩ : ∃ x : Nat, c = x := ⟨c.toNat, by omega⟩
 exact rsum_fin ⟨x, by omega⟩ ⟨y, by omega⟩ ⟨z, by omega⟩ (by simp; omega) (by simp; omega) (by simp; omega)
theorem rsum_le (a b c : Int) (k : Nat) : rsum a b c k ≤ 27720 * k := by
 induction k with
 | zero => simp [rsum]
 | succ k ih =>
  have : 27720 / (at3 a b c k).toNat ≤ 27720 := Nat.div_le_self _ _
  simp only [rsum]; split <;> omega
end Go.Proofs.Ytkndmibmmoikbaa
