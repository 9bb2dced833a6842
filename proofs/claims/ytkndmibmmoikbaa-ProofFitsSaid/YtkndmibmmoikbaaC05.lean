/- Chapter 10: Small0 Small1 Small2. -/
import Derived.Test.YtkndmibmmoikbaaC04
import Derived.Deep.QuietTactic
import Derived.BigQuiet
import Derived.Defers
import Derived.Recover
set_option linter.all false
set_option maxRecDepth 100000
set_option maxHeartbeats 16000000
namespace Go.Proofs.Ytkndmibmmoikbaa
open Go.RowKit
open Cox (Tl)
def oval (a b c : Int) : Value := .agg #[.int .i64 a, .int .i64 b, .int .i64 c]
def ords (a b c : Nat) : Fin 3 → Fin 3 → Nat := fun i j => if i = j then 0 else if i.val + j.val = 1 then a else if i.val + j.val = 3 then b else c
theorem gcd_step (x y : Nat) : Nat.gcd y (x % y) = Nat.gcd x y := by
 rw [Nat.gcd_comm y, ← Nat.gcd_rec, Nat.gcd_comm]
end Go.Proofs.Ytkndmibmmoikbaa
namespace Go.Proofs.Ytkndmibmmoikbaa
open Go.RowKit
open Cox (Tl)
def badO (m : Int) : Prop := m < 0 ∨ m = 1 ∨ 12 < m
instance (m : Int) : Decidable (badO m) := by unfold badO; infer_instance
def acc (s : Nat × Nat × Nat) (m : Nat) : Nat × Nat × Nat := if m = 0 then s else (s.1 / Nat.gcd s.1 m * m, s.2.1 * m + s.2.2, s.2.2 * m)
def acc3 (a b c : Nat) : Nat × Nat × Nat := acc (acc (acc (1, 0, 1) a) b) c
def chk (a b c : Int) : Int :=
 if badO a ∨ badO b ∨ badO c then 1 else if (acc3 a.toNat b.toNat c.toNat).2.2 ≤ (acc3 a.toNat b.toNat c.toNat).2.1 then 1 else if 60 < (acc3 a.toNat b.toNat c.toNat).1 then 4 else 0
theorem acc_le (s : Nat × Nat × Nat) (m B : Nat) (hm : m ≤ 12) (h1 : s.1 ≤ B) (h2 : s.2.1 ≤ 3 * B) (h3 : s.2.2 ≤ B) : (acc s m).1 ≤ B * 12 ∧ (acc s m).2.1 ≤ 3 * (B * 13) ∧ (acc s m).2.2 ≤ B * 12 := by
 unfold acc
 split
 · omega
 · refine ⟨?_, ?_, ?_⟩
   · have : s.1 / Nat.gcd s.1 m ≤ s.1 := Nat.div_le_self _ _
     exact Nat.mul_le_mul (by omega) hm
   · have : s.2.1 * m ≤ (3 * B) * 12 := Nat.mul_le_mul h2 hm
     show s.2.1 * m + s.2.2 ≤ _
     omega
   · exact Nat.mul_le_mul h3 hm
def at3 (a b c : Int) (k : Nat) : Int := if k = 0 then a else if k = 1 then b else c
def accs (a b c : Int) (k : Nat) : Nat × Nat × Nat := if k = 0 then (1, 0, 1) else if k = 1 then acc (1, 0, 1) a.toNat else if k = 2 then acc (acc (1, 0, 1) a.toNat) b.toNat else acc3 a.toNat b.toNat c.toNat
theorem accs_succ (a b c : Int) (k : Nat) (hk : k < 3) : accs a b c (k + 1) = acc (accs a b c k) (at3 a b c k).toNat := by
 have : k = 0 ∨ k = 1 ∨ k = 2 := by omega
 rcases this with rfl | rfl | rfl <;> rfl
theorem accs_bound (a b c : Int) (k : Nat) (hk : k ≤ 3) (h : ∀ j, j < k → ¬ badO (at3 a b c j)) : (accs a b c k).1 ≤ 2028 ∧ (accs a b c k).2.1 ≤ 7000 ∧ (accs a b c k).2.2 ≤ 2028 := by
 have hb : ∀ j, j < k → (at3 a b c j).toNat ≤ 12 := fun j hj => by have := h j hj; unfold badO at this; omega
 have e : k = 0 ∨ k = 1 ∨ k = 2 ∨ k = 3 := by omega
 have b0 : (accs a b c 0).1 ≤ 1 ∧ (accs a b c 0).2.1 ≤ 3 * 1 ∧ (accs a b c 0).2.2 ≤ 1 := by simp [accs]
 have s1 : 1 ≤ k → (accs a b c 1).1 ≤ 13 ∧ (accs a b c 1).2.1 ≤ 3 * 13 ∧ (accs a b c 1).2.2 ≤ 13 := by
  intro h1
  have q := acc_le _ _ _ (hb 0 (by omega)) b0.1 b0.2.1 b0.2.2
  rw [← accs_succ a b c 0 (by omega)] at q
  have q' : (accs a b c 1).1 ≤ 1 * 12 ∧ (accs a b c 1).2.1 ≤ 3 * (1 * 13) ∧ (accs a b c 1).2.2 ≤ 1 * 12 := q
  omega
 have s2 : 2 ≤ k → (accs a b c 2).1 ≤ 169 ∧ (accs a b c 2).2.1 ≤ 3 * 169 ∧ (accs a b c 2).2.2 ≤ 169 := by
  intro h1
  have p := s1 (by omega)
  have q := acc_le _ _ 13 (hb 1 (by omega)) p.1 p.2.1 p.2.2
  rw [← accs_succ a b c 1 (by omega)] at q
  have q' : (accs a b c 2).1 ≤ 13 * 12 ∧ (accs a b c 2).2.1 ≤ 3 * (13 * 13) ∧ (accs a b c 2).2.2 ≤ 13 * 12 := q
  omega
 have s3 : 3 ≤ k → (accs a b c 3).1 ≤ 2028 ∧ (accs a b c 3).2.1 ≤ 6591 ∧ (accs a b c 3).2.2 ≤ 2028 := by
  intro h1
  have p := s2 (by omega)
  have q := acc_le _ _ 169 (hb 2 (by omega)) p.1 p.2.1 p.2.2
  rw [← accs_succ a b c 2 (by omega)] at q
  have q' : (accs a b c 3).1 ≤ 169 * 12 ∧ (accs a b c 3).2.1 ≤ 3 * (169 * 13) ∧ (accs a b c 3).2.2 ≤ 169 * 12 := q
  omega
 rcases e with rfl | rfl | rfl | rfl
 · omega
 · have := s1 (by omega); omega
 · have := s2 (by omega); omega
 · have := s3 (by omega); omega
theorem chk_bad {a b c : Int} {k : Nat} (hk : k < 3) (h : badO (at3 a b c k)) : chk a b c = 1 := by
 unfold chk
 have : k = 0 ∨ k = 1 ∨ k = 2 := by omega
 rw [if_pos]
 rcases this with rfl | rfl | rfl
 · exact .inl h
 · exact .inr (.inl h)
 · exact .inr (.inr h)
theorem chk_good {a b c : Int} (h : ∀ j, j < 3 → ¬ badO (at3 a b c j)) : chk a b c = if (accs a b c 3).2.2 ≤ (accs a b c 3).2.1 then 1 else if 60 < (accs a b c 3).1 then 4 else 0 := by
 unfold chk
 rw [if_neg]
 · rfl
 · rintro (g | g | g)
   · exact h 0 (by omega) g
   · exact h 1 (by omega) g
   · exact h 2 (by omega) g
theorem level_cast (x g m : Nat) : ((x / g * m : Nat) : Int) = (x : Int) / (g : Int) * (m : Int) := by rw [Int.natCast_mul, Int.natCast_ediv]
theorem drewN_below (B : Nat) (w : World) (n : Nat) : Below B w (w.drewN n) := ⟨rfl, rfl, rfl, Nat.le_refl _, fun _ _ => rfl⟩
end Go.Proofs.Ytkndmibmmoikbaa
namespace Go.Proofs.Ytkndmibmmoikbaa
open Go.RowKit
open Cox (Tl)
theorem rdivisor_any (a b : Nat) (ha : a < 1000000000) (hb : b < 1000000000) (w : World) : Calls Try.prog 81 #[.int .i64 a, .int .i64 b] w fun e w' => e = .returned (.int .i64 (Nat.gcd a b : Nat)) ∧ w' = w := by
 go_enter Try.func81, Try.ntmps81
 go_wp2
 go_loop [0, 1] (fun s t => ∃ (x y : Nat), s = .int .i64 x ∧ t = .int .i64 y ∧ Hid (Nat.gcd x y = Nat.gcd a b) ∧ x < 1000000000 ∧ y < 1000000000) (fun _ t => (intOf t).toNat)
 case atStart => exact ⟨a, b, rfl, rfl, Lib.hid rfl, ha, hb⟩
 case round =>
  obtain ⟨x, y, rfl, rfl, HG, hx, hy⟩ := hrel
  by_cases h : y = 0
  · have hg := HG.out
    subst h
    rw [Nat.gcd_zero_right] at hg
    have HG2 := Lib.hid hg
    clear hg
    go_wp2
    go_ret
    exact ⟨by rw [← HG2.out]; rfl, rfl⟩
  · have hy0 : 0 < y := by omega
    have hmod := Nat.mod_lt x hy0
    clear h
    go_wp2
    go_round
    case rel => exact ⟨y, x % y, rfl, by go_num, Hi (by rw [gcd_step]; exact HG.out), by omega, by omega⟩
    case measure => simp [intOf]; omega
def three (a b c : Int) (B : Nat) (w : World) : Prop := ∀ k, k < 3 → w.cell? ⟨B, k, none⟩ = some (.int .i64 (at3 a b c k))
theorem three_new (a b c : Int) (w : World) (B : Nat) (h : B = w.heap.size) (T : TypeId) : three a b c B (w.alloc (.cells #[.int .i64 a, .int .i64 b, .int .i64 c] T)) := by
 intro k hk
 subst h
 have : k = 0 ∨ k = 1 ∨ k = 2 := by omega
 rcases this with rfl | rfl | rfl <;> simp [at3]
theorem level_any (a b c : Int) (hg : ∀ j, j < 3 → ¬ badO (at3 a b c j)) (w : World) : Calls Try.prog 74 #[oval a b c] w fun e w' => e = .returned (.int .i64 ((accs a b c 3).1 : Nat)) ∧ Below w.heap.size w w' := by
 have HD := Hi (fun x y hx hy w => rdivisor_any x y hx hy w)
 have HGOOD := Lib.hid hg
 clear hg
 unfold oval
 go_enter Try.func74, Try.ntmps74
 go_wp2_with fail
 go_loopw [3, 5] (fun x t wr => ∃ (k lv : Nat), x = .int .i64 lv ∧ t = .int .i64 k ∧ k ≤ 3 ∧ Hid ((accs a b c k).1 = lv ∧ three a b c (w.heap.size + 1) wr ∧ Below w.heap.size w wr)) (fun _ t _ => 3 - (intOf t).toNat)
 case atStart => exact ⟨0, 1, rfl, rfl, by omega, Lib.hid ⟨rfl, three_new a b c _ _ (by simp) _, ((Below.refl _ _).alloc (Nat.le_refl _) _).alloc (by simp) _⟩⟩
 case round =>
  obtain ⟨k, lv, rfl, rfl, hk, HK⟩ := hrel
  have hbd := (accs_bound a b c k hk (fun j hj => HGOOD.out j (by omega))).1
  rw [HK.out.1] at hbd
  by_cases hlt : k < 3
  · have hc := HK.out.2.1 k hlt
    have hsucc := accs_succ a b c k hlt
    have hsm : (accs a b c (k + 1)).1 = if (at3 a b c k).toNat = 0 then lv else lv / Nat.gcd lv (at3 a b c k).toNat * (at3 a b c k).toNat := by
     rw [hsucc]; unfold acc
     split
     · exact HK.out.1
     · rw [HK.out.1]
    have HSU := Lib.hid hsm
    have hgk := HGOOD.out k hlt
    clear hsucc hsm
    generalize at3 a b c k = m at *
    have hrng : m = 0 ∨ (2 ≤ m ∧ m ≤ 12) := by unfold badO at hgk; omega
    clear hgk
    rcases hrng with rfl | ⟨h2, h12⟩
    · go_wp2_with fail
      go_roundw
      case rel => exact ⟨k + 1, lv, rfl, by go_num, by omega, Lib.hid ⟨by rw [HSU.out]; rfl, HK.out.2.1, HK.out.2.2⟩⟩
      case measure => simp [intOf]; omega
    · obtain ⟨mn, rfl⟩ : ∃ mn : Nat, m = mn := ⟨m.toNat, by omega⟩
      have DV := HD.out lv mn (by omega) (by omega)
      have hg0 : 0 < Nat.gcd lv mn := Nat.gcd_pos_of_pos_right _ (by omega)
      have hgl : Nat.gcd lv mn ≤ mn := Nat.gcd_le_right _ (by omega)
      have hdl : lv / Nat.gcd lv mn ≤ lv := Nat.div_le_self _ _
      have hml : lv / Nat.gcd lv mn * mn ≤ 2028 * 12 := Nat.mul_le_mul (by omega) (by omega)
      have hgen : ∃ g, g = Nat.gcd lv mn := ⟨_, rfl⟩
      obtain ⟨g, hg⟩ := hgen
      rw [← hg] at hg0 hgl hdl hml DV
      have HG := Lib.hid hg
      clear hg
      have hq1 : ((lv : Int) / (g : Int)) ≤ 2028 := by rw [← Int.natCast_ediv]; omega
      have hq0 : 0 ≤ ((lv : Int) / (g : Int)) := by rw [← Int.natCast_ediv]; exact Int.natCast_nonneg _
      have hp1 : ((lv : Int) / (g : Int)) * (mn : Int) ≤ 24336 := by rw [← Int.natCast_ediv, ← Int.natCast_mul]; omega
      have hp0 : 0 ≤ ((lv : Int) / (g : Int)) * (mn : Int) := by rw [← Int.natCast_ediv, ← Int.natCast_mul]; exact Int.natCast_nonneg _
      go_wp2_with fail
      go_quiet ((go_at_call 81; exact Calls.quiet_of_same (DV _)))
      go_wp2_with fail
      go_roundw
      case rel => exact ⟨k + 1, lv / g * mn, congrArg (Value.int .i64) (level_cast _ _ _).symm, by go_num, by omega, Lib.hid ⟨by rw [HSU.out, Int.toNat_natCast, if_neg (by omega), HG.out], HK.out.2.1, HK.out.2.2.trans (drewN_below _ _ _)⟩⟩
      case measure => simp [intOf]; omega
  · have hk3 : k = 3 := by omega
    subst hk3
    go_wp2_with fail
    go_ret
    exact ⟨by rw [HK.out.1]; rfl, HK.out.2.2⟩
def rsum (a b c : Int) : Nat → Nat
 | 0 => 0
 | k + 1 => if at3 a b c k = 0 then rsum a b c k else rsum a b c k + 27720 / (at3 a b c k).toNat
theorem rsum_fin : ∀ a b c : Fin 13, a.val ≠ 1 → b.val ≠ 1 → c.val ≠ 1 → ((accs a.val b.val c.val 3).2.2 ≤ (accs a.val b.val c.val 3).2.1 ↔ 27720 ≤ rsum a.val b.val c.val 3) := by decide +kernel
theorem rsum_iff {a b c : Int} (h : ∀ j, j < 3 → ¬ badO (at3 a b c j)) : ((accs a b c 3).2.2 ≤ (accs a b c 3).2.1 ↔ 27720 ≤ rsum a b c 3) := by
 have ha : ¬ badO a := h 0 (by omega)
 have hb : ¬ badO b := h 1 (by omega)
 have hc : ¬ badO c := h 2 (by omega)
 unfold badO at ha hb hc
 obtain ⟨x, rfl⟩ : ∃ x : Nat, a = x := ⟨a.toNat, by omega⟩
 obtain ⟨y, rfl⟩ : ∃ x : Nat, b = x := ⟨b.toNat, by omega⟩
 obtain ⟨z, rfl⟩ : ∃ x : Nat, c = x := ⟨c.toNat, by omega⟩
 exact rsum_fin ⟨x, by omega⟩ ⟨y, by omega⟩ ⟨z, by omega⟩ (by simp; omega) (by simp; omega) (by simp; omega)
theorem rsum_le (a b c : Int) (k : Nat) : rsum a b c k ≤ 27720 * k := by
 induction k with
 | zero => simp [rsum]
 | succ k ih =>
  have : 27720 / (at3 a b c k).toNat ≤ 27720 := Nat.div_le_self _ _
  simp only [rsum]; split <;> omega
theorem allowed_any (a b c : Int) (w : World) : Calls Try.prog 63 #[oval a b c] w fun e w' => e = .returned (.int .i64 (chk a b c)) ∧ Below w.heap.size w w' := by
 have HL := Hi (fun hg w => level_any a b c hg w)
 unfold oval at *
 go_enter Try.func63, Try.ntmps63
 go_wp2_with fail
 go_loopw [4, 5] (fun x t wr => ∃ (k sm : Nat), x = .int .i64 sm ∧ t = .int .i64 k ∧ k ≤ 3 ∧ Hid (rsum a b c k = sm ∧ (∀ j, j < k → ¬ badO (at3 a b c j)) ∧ three a b c (w.heap.size + 1) wr ∧ three a b c w.heap.size wr ∧ Below w.heap.size w wr ∧ w.heap.size + 1 < wr.heap.size)) (fun _ t _ => 3 - (intOf t).toNat)
 case atStart => exact ⟨0, 0, rfl, rfl, by omega, Lib.hid ⟨rfl, fun j hj => by omega, three_new a b c _ _ (by simp) _, fun k hk => by rw [World.cell?_alloc_past _ _ _ (by simp)]; exact three_new a b c w _ rfl _ k hk, ((Below.refl _ _).alloc (Nat.le_refl _) _).alloc (by simp) _, by simp⟩⟩
 case round =>
  obtain ⟨k, sm, rfl, rfl, hk, HK⟩ := hrel
  have hbd := rsum_le a b c k
  rw [HK.out.1] at hbd
  by_cases hlt : k < 3
  · have hc := HK.out.2.2.1 k hlt
    have hsm : rsum a b c (k + 1) = if at3 a b c k = 0 then sm else sm + 27720 / (at3 a b c k).toNat := by
     rw [← HK.out.1]; rfl
    have HSU := Lib.hid hsm
    have hcb := @chk_bad a b c k hlt
    have hall : ¬ badO (at3 a b c k) → ∀ j, j < k + 1 → ¬ badO (at3 a b c j) := by
     intro h j hj
     by_cases e : j = k
     · subst e; exact h
     · exact HK.out.2.1 j (by omega)
    have HA := Lib.hid hall
    clear hall hsm
    generalize at3 a b c k = m at *
    by_cases hbad : badO m
    · have hcc := hcb hbad
      have HC := Lib.hid hcc
      have hbad' := hbad
      unfold badO at hbad'
      have hn0 : (m != 0) = true := by rw [bne_iff_ne]; omega
      clear hcc hcb hbad HA HSU
      by_cases h1 : m < 2
      · clear hbad'
        go_wp2_with fail
        go_ret
        exact ⟨by rw [HC.out]; rfl, HK.out.2.2.2.2.1⟩
      · have h3 : 12 < m := by omega
        clear hbad'
        go_wp2_with fail
        go_ret
        exact ⟨by rw [HC.out]; rfl, HK.out.2.2.2.2.1⟩
    · have hrng : m = 0 ∨ (2 ≤ m ∧ m ≤ 12) := by unfold badO at hbad; omega
      have HA2 := Hi (HA.out hbad)
      clear hbad hcb HA
      rcases hrng with rfl | ⟨h2, h12⟩
      · go_wp2_with fail
        go_roundw
        case rel => exact ⟨k + 1, sm, rfl, by go_num, by omega, Lib.hid ⟨by rw [HSU.out]; rfl, HA2.out, HK.out.2.2⟩⟩
        case measure => simp [intOf]; omega
      · obtain ⟨mn, rfl⟩ : ∃ mn : Nat, m = mn := ⟨m.toNat, by omega⟩
        have hn0 : ((mn : Int) != 0) = true := by rw [bne_iff_ne]; omega
        have hdl : 27720 / mn ≤ 27720 := Nat.div_le_self _ _
        have hq1 : ((27720 : Int) / (mn : Int)) ≤ 27720 := by
         have : ((27720 / mn : Nat) : Int) = (27720 : Int) / (mn : Int) := Int.natCast_ediv _ _
         omega
        have hq0 : 0 ≤ ((27720 : Int) / (mn : Int)) := Int.ediv_nonneg (by omega) (by omega)
        go_wp2_with fail
        go_roundw
        case rel => exact ⟨k + 1, sm + 27720 / mn, congrArg (Value.int .i64) (by rw [Int.natCast_add, Int.natCast_ediv]; rfl), by go_num, by omega, Lib.hid ⟨by rw [HSU.out, Int.toNat_natCast, if_neg (by omega)], HA2.out, HK.out.2.2⟩⟩
        case measure => simp [intOf]; omega
  · have hk3 : k = 3 := by omega
    subst hk3
    have hcg := chk_good HK.out.2.1
    have hri := rsum_iff HK.out.2.1
    rw [HK.out.1] at hri
    have d0 := HK.out.2.2.2.1 0 (by omega)
    have d1 := HK.out.2.2.2.1 1 (by omega)
    have d2 := HK.out.2.2.2.1 2 (by omega)
    simp [at3] at d0 d1 d2
    have LV := fun w' => HL.out HK.out.2.1 w'
    have HSZ := Lib.hid HK.out.2.2.2.2.2
    by_cases h1 : 27720 ≤ sm
    · rw [if_pos (hri.2 h1)] at hcg
      have HC := Lib.hid hcg
      have h1' : (27720 : Int) ≤ (sm : Int) := by omega
      clear hcg hri LV h1 hbd
      go_wp2_with fail
      go_ret
      exact ⟨by rw [HC.out]; rfl, HK.out.2.2.2.2.1⟩
    · rw [if_neg (fun g => h1 (hri.1 g))] at hcg
      have h1' : (sm : Int) < 27720 := by omega
      have HC := Lib.hid hcg
      clear hcg hri h1 hbd
      generalize (sm : Int) = si at *
      generalize (accs a b c 3).1 = lv at *
      by_cases h2 : 60 < lv
      · have hcc := HC.out
        rw [if_pos h2] at hcc
        have HC2 := Lib.hid hcc
        clear hcc
        go_wp2_with (go_at_call 74; refine (LV _).mono ?_; rintro e w2 ⟨rfl, hb2⟩)
        go_ret
        exact ⟨by rw [HC2.out]; rfl, HK.out.2.2.2.2.1.trans (hb2.mono (by have := HSZ.out; omega))⟩
      · have hcc := HC.out
        rw [if_neg h2] at hcc
        have HC2 := Lib.hid hcc
        clear hcc
        go_wp2_with (go_at_call 74; refine (LV _).mono ?_; rintro e w2 ⟨rfl, hb2⟩)
        go_ret
        exact ⟨by rw [HC2.out]; rfl, HK.out.2.2.2.2.1.trans (hb2.mono (by have := HSZ.out; omega))⟩
end Go.Proofs.Ytkndmibmmoikbaa
