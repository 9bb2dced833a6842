import Derived.Test.YtlhmfaelkkiahaaSmall0
namespace Go.Proofs.Ytlhmfaelkkiahaa
open Go.RowKit
open Cox (Tl)

/-- an order that is none -/
def badO (m : Int) : Prop := m < 0 ∨ m = 1 ∨ 12 < m
instance (m : Int) : Decidable (badO m) := by unfold badO; infer_instance
/-- level, sum and product with one order more -/
def acc (s : Nat × Nat × Nat) (m : Nat) : Nat × Nat × Nat := if m = 0 then s else (s.1 / Nat.gcd s.1 m * m, s.2.1 * m + s.2.2, s.2.2 * m)
def acc3 (a b c : Nat) : Nat × Nat × Nat := acc (acc (acc (1, 0, 1) a) b) c
/-- the error of orders -/
def chk (a b c : Int) : Int :=
  if badO a ∨ badO b ∨ badO c then 1 else if (acc3 a.toNat b.toNat c.toNat).2.2 ≤ (acc3 a.toNat b.toNat c.toNat).2.1 then 1 else if 60 < (acc3 a.toNat b.toNat c.toNat).1 then 4 else 0

theorem acc_le (s : Nat × Nat × Nat) (m B : Nat) (hm : m ≤ 12) (h1 : s.1 ≤ B) (h2 : s.2.1 ≤ 3 * B) (h3 : s.2.2 ≤ B) : (acc s m).1 ≤ B * 12 ∧ (acc s m).2.1 ≤ 3 * (B * 13) ∧ (acc s m).2.2 ≤ B * 12 := by
  unfold acc
  split
  · omega
  · refine ⟨?_, ?_, ?_⟩
    · have : s.1 / Nat.gcd s.1 m ≤ s.1 := Nat.div_le_self _ _
      exact Nat.mul_le_mul (by omega) hm
    · have : s.2.1 * m ≤ (3 * B) * 12 := Nat.mul_le_mul h2 hm
      show s.2.1 * m + s.2.2 ≤ _
      omega
    · exact Nat.mul_le_mul h3 hm

def at3 (a b c : Int) (k : Nat) : Int := if k = 0 then a else if k = 1 then b else c
def accs (a b c : Int) (k : Nat) : Nat × Nat × Nat := if k = 0 then (1, 0, 1) else if k = 1 then acc (1, 0, 1) a.toNat else if k = 2 then acc (acc (1, 0, 1) a.toNat) b.toNat else acc3 a.toNat b.toNat c.toNat

theorem accs_succ (a b c : Int) (k : Nat) (hk : k < 3) : accs a b c (k + 1) = acc (accs a b c k) (at3 a b c k).toNat := by
  have : k = 0 ∨ k = 1 ∨ k = 2 := by omega
  rcases this with rfl | rfl | rfl <;> rfl

theorem accs_bound (a b c : Int) (k : Nat) (hk : k ≤ 3) (h : ∀ j, j < k → ¬ badO (at3 a b c j)) : (accs a b c k).1 ≤ 2028 ∧ (accs a b c k).2.1 ≤ 7000 ∧ (accs a b c k).2.2 ≤ 2028 := by
  have hb : ∀ j, j < k → (at3 a b c j).toNat ≤ 12 := fun j hj => by have := h j hj; unfold badO at this; omega
  have e : k = 0 ∨ k = 1 ∨ k = 2 ∨ k = 3 := by omega
  have b0 : (accs a b c 0).1 ≤ 1 ∧ (accs a b c 0).2.1 ≤ 3 * 1 ∧ (accs a b c 0).2.2 ≤ 1 := by simp [accs]
  have s1 : 1 ≤ k → (accs a b c 1).1 ≤ 13 ∧ (accs a b c 1).2.1 ≤ 3 * 13 ∧ (accs a b c 1).2.2 ≤ 13 := by
    intro h1
    have q := acc_le _ _ _ (hb 0 (by omega)) b0.1 b0.2.1 b0.2.2
    rw [← accs_succ a b c 0 (by omega)] at q
    have q' : (accs a b c 1).1 ≤ 1 * 12 ∧ (accs a b c 1).2.1 ≤ 3 * (1 * 13) ∧ (accs a b c 1).2.2 ≤ 1 * 12 := q
    omega
  have s2 : 2 ≤ k → (accs a b c 2).1 ≤ 169 ∧ (accs a b c 2).2.1 ≤ 3 * 169 ∧ (accs a b c 2).2.2 ≤ 169 := by
    intro h1
    have p := s1 (by omega)
    have q := acc_le _ _ 13 (hb 1 (by omega)) p.1 p.2.1 p.2.2
    rw [← accs_succ a b c 1 (by omega)] at q
    have q' : (accs a b c 2).1 ≤ 13 * 12 ∧ (accs a b c 2).2.1 ≤ 3 * (13 * 13) ∧ (accs a b c 2).2.2 ≤ 13 * 12 := q
    omega
  have s3 : 3 ≤ k → (accs a b c 3).1 ≤ 2028 ∧ (accs a b c 3).2.1 ≤ 6591 ∧ (accs a b c 3).2.2 ≤ 2028 := by
    intro h1
    have p := s2 (by omega)
    have q := acc_le _ _ 169 (hb 2 (by omega)) p.1 p.2.1 p.2.2
    rw [← accs_succ a b c 2 (by omega)] at q
    have q' : (accs a b c 3).1 ≤ 169 * 12 ∧ (accs a b c 3).2.1 ≤ 3 * (169 * 13) ∧ (accs a b c 3).2.2 ≤ 169 * 12 := q
    omega
  rcases e with rfl | rfl | rfl | rfl
  · omega
  · have := s1 (by omega); omega
  · have := s2 (by omega); omega
  · have := s3 (by omega); omega

theorem chk_bad {a b c : Int} {k : Nat} (hk : k < 3) (h : badO (at3 a b c k)) : chk a b c = 1 := by
  unfold chk
  have : k = 0 ∨ k = 1 ∨ k = 2 := by omega
  rw [if_pos]
  rcases this with rfl | rfl | rfl
  · exact .inl h
  · exact .inr (.inl h)
  · exact .inr (.inr h)
theorem chk_good {a b c : Int} (h : ∀ j, j < 3 → ¬ badO (at3 a b c j)) : chk a b c = if (accs a b c 3).2.2 ≤ (accs a b c 3).2.1 then 1 else if 60 < (accs a b c 3).1 then 4 else 0 := by
  unfold chk
  rw [if_neg]
  · rfl
  · rintro (g | g | g)
    · exact h 0 (by omega) g
    · exact h 1 (by omega) g
    · exact h 2 (by omega) g

theorem level_cast (x g m : Nat) : ((x / g * m : Nat) : Int) = (x : Int) / (g : Int) * (m : Int) := by rw [Int.natCast_mul, Int.natCast_ediv]

theorem sum_cast (x m y : Nat) : ((x * m + y : Nat) : Int) = (x : Int) * (m : Int) + (y : Int) := by rw [Int.natCast_add, Int.natCast_mul]
theorem acc_pos (lv sm al m : Nat) (h : 0 < m) : acc (lv, sm, al) ((m : Int).toNat) = (lv / Nat.gcd lv m * m, sm * m + al, al * m) := by
  unfold acc
  rw [Int.toNat_natCast, if_neg (by omega)]
theorem drewN_below (B : Nat) (w : World) (n : Nat) : Below B w (w.drewN n) := ⟨rfl, rfl, rfl, Nat.le_refl _, fun _ _ => rfl⟩

set_option maxHeartbeats 1000000 in
theorem check_any (a b c : Int) (w : World) : Calls Try.prog 34 #[oval a b c] w fun e w' => e = .returned (.int .i64 (chk a b c)) ∧ Below w.heap.size w w' := by
  have HD := Lib.hid (fun x y hx hy w => divisor_any x y hx hy w)
  unfold oval
  have i0 : ∀ w, (Instr.index 62 (.agg #[.int .i64 a, .int .i64 b, .int .i64 c]) (.int .i64 0)).run Try.prog w = .ok (.int .i64 a) w := fun _ => by kernel_rfl
  have i1 : ∀ w, (Instr.index 62 (.agg #[.int .i64 a, .int .i64 b, .int .i64 c]) (.int .i64 1)).run Try.prog w = .ok (.int .i64 b) w := fun _ => by kernel_rfl
  have i2 : ∀ w, (Instr.index 62 (.agg #[.int .i64 a, .int .i64 b, .int .i64 c]) (.int .i64 2)).run Try.prog w = .ok (.int .i64 c) w := fun _ => by kernel_rfl
  have hix : ∀ k, k < 3 → ∀ w, (Instr.index 62 (.agg #[.int .i64 a, .int .i64 b, .int .i64 c]) (.int .i64 (k : Nat))).run Try.prog w = .ok (.int .i64 (at3 a b c k)) w := by
    intro k hk
    have : k = 0 ∨ k = 1 ∨ k = 2 := by omega
    rcases this with rfl | rfl | rfl
    · exact i0
    · exact i1
    · exact i2
  have HIX := Lib.hid hix
  clear i0 i1 i2 hix
  go_enter Try.func34, Try.ntmps34
  go_wp2_with fail
  go_loopw [4, 5, 6, 17] (fun x y z t wr => ∃ (k lv sm al : Nat), x = .int .i64 lv ∧ y = .int .i64 sm ∧ z = .int .i64 al ∧ t = .int .i64 k ∧ k ≤ 3 ∧ Hid (accs a b c k = (lv, sm, al) ∧ (∀ j, j < k → ¬ badO (at3 a b c j)) ∧ Below w.heap.size w wr)) (fun _ _ _ t _ => 3 - (intOf t).toNat)
  case atStart => exact ⟨0, 1, 0, 1, rfl, rfl, rfl, rfl, by omega, Lib.hid ⟨rfl, fun j hj => by omega, ((Below.refl _ _).alloc (Nat.le_refl _) _).alloc (by simp) _⟩⟩
  case round =>
    obtain ⟨k, lv, sm, al, rfl, rfl, rfl, rfl, hk, HK⟩ := hrel
    have hbd := accs_bound a b c k hk HK.out.2.1
    rw [HK.out.1] at hbd
    obtain ⟨hb1, hb2, hb3⟩ : lv ≤ 2028 ∧ sm ≤ 7000 ∧ al ≤ 2028 := hbd
    by_cases hlt : k < 3
    · have ix := HIX.out k hlt
      have hcb := @chk_bad a b c k hlt
      have hsucc := accs_succ a b c k hlt
      have HSU := Lib.hid hsucc
      have hall : ¬ badO (at3 a b c k) → ∀ j, j < k + 1 → ¬ badO (at3 a b c j) := by
        intro h j hj
        by_cases e : j = k
        · subst e; exact h
        · exact HK.out.2.1 j (by omega)
      have HA := Lib.hid hall
      clear hall hsucc
      generalize at3 a b c k = m at *
      by_cases hbad : badO m
      · have hc := hcb hbad
        have HC := Lib.hid hc
        have hbad' := hbad
        unfold badO at hbad'
        clear hc hcb hbad HA HSU
        by_cases h1 : m < 0
        · go_wp2_with fail
          go_ret
          exact ⟨by rw [HC.out]; rfl, HK.out.2.2⟩
        · by_cases h2 : m = 1
          · subst h2
            clear hbad' h1
            go_wp2_with fail
            go_ret
            exact ⟨by rw [HC.out]; rfl, HK.out.2.2⟩
          · have h3 : 12 < m := by omega
            clear hbad' h1 h2
            go_wp2_with fail
            go_ret
            exact ⟨by rw [HC.out]; rfl, HK.out.2.2⟩
      · have hrng : m = 0 ∨ (2 ≤ m ∧ m ≤ 12) := by unfold badO at hbad; omega
        have HA2 := Lib.hid (HA.out hbad)
        clear hbad hcb HA
        rcases hrng with rfl | ⟨h2, h12⟩
        · go_wp2_with fail
          go_roundw
          case rel => exact ⟨k + 1, lv, sm, al, rfl, rfl, rfl, by go_num, by omega, Lib.hid ⟨by rw [HSU.out, HK.out.1]; rfl, HA2.out, HK.out.2.2⟩⟩
          case measure => simp [intOf]; omega
        · obtain ⟨mn, rfl⟩ : ∃ mn : Nat, m = mn := ⟨m.toNat, by omega⟩
          have DV := HD.out lv mn (by omega) (by omega)
          have hg0 : 0 < Nat.gcd lv mn := Nat.gcd_pos_of_pos_right _ (by omega)
          have hgl : Nat.gcd lv mn ≤ mn := Nat.gcd_le_right _ (by omega)
          have hdl : lv / Nat.gcd lv mn ≤ lv := Nat.div_le_self _ _
          have hml : lv / Nat.gcd lv mn * mn ≤ 2028 * 12 := Nat.mul_le_mul (by omega) (by omega)
          have hsl : sm * mn ≤ 7000 * 12 := Nat.mul_le_mul (by omega) (by omega)
          have hal : al * mn ≤ 2028 * 12 := Nat.mul_le_mul (by omega) (by omega)
          have hgen : ∃ g, g = Nat.gcd lv mn := ⟨_, rfl⟩
          obtain ⟨g, hg⟩ := hgen
          rw [← hg] at hg0 hgl hdl hml DV
          have HG := Lib.hid hg
          clear hg
          have hne1 : ((mn : Int) == 1) = false := by rw [beq_eq_false_iff_ne]; omega
          have hq1 : ((lv : Int) / (g : Int)) ≤ 2028 := by rw [← Int.natCast_ediv]; omega
          have hq0 : 0 ≤ ((lv : Int) / (g : Int)) := by rw [← Int.natCast_ediv]; exact Int.natCast_nonneg _
          have hp1 : ((lv : Int) / (g : Int)) * (mn : Int) ≤ 24336 := by rw [← Int.natCast_ediv, ← Int.natCast_mul]; omega
          have hp0 : 0 ≤ ((lv : Int) / (g : Int)) * (mn : Int) := by rw [← Int.natCast_ediv, ← Int.natCast_mul]; exact Int.natCast_nonneg _
          have hp3 : (sm : Int) * (mn : Int) ≤ 84000 := by rw [← Int.natCast_mul]; omega
          have hp4 : (al : Int) * (mn : Int) ≤ 24336 := by rw [← Int.natCast_mul]; omega
          go_wp2_with (go_at_call 42; refine (DV _).mono ?_; rintro e w2 ⟨rfl, n, rfl⟩)
          go_roundw
          case rel => exact ⟨k + 1, lv / g * mn, sm * mn + al, al * mn, congrArg (Value.int .i64) (level_cast _ _ _).symm, congrArg (Value.int .i64) (sum_cast _ _ _).symm, congrArg (Value.int .i64) (Int.natCast_mul _ _).symm, by go_num, by omega, Lib.hid ⟨by rw [HSU.out, HK.out.1, HG.out]; exact acc_pos _ _ _ _ (by omega), HA2.out, HK.out.2.2.trans (drewN_below _ _ _)⟩⟩
          case measure => simp [intOf]; omega
    · have hk3 : k = 3 := by omega
      subst hk3
      have hcg := chk_good HK.out.2.1
      rw [HK.out.1] at hcg
      simp only at hcg
      by_cases h1 : al ≤ sm
      · rw [if_pos h1] at hcg
        have HC := Lib.hid hcg
        clear hcg
        go_wp2_with fail
        go_ret
        exact ⟨by rw [HC.out]; rfl, HK.out.2.2⟩
      · rw [if_neg h1] at hcg
        by_cases h2 : 60 < lv
        · rw [if_pos h2] at hcg
          have HC := Lib.hid hcg
          clear hcg
          go_wp2_with fail
          go_ret
          exact ⟨by rw [HC.out]; rfl, HK.out.2.2⟩
        · rw [if_neg h2] at hcg
          have HC := Lib.hid hcg
          clear hcg
          go_wp2_with fail
          go_ret
          exact ⟨by rw [HC.out]; rfl, HK.out.2.2⟩
end Go.Proofs.Ytlhmfaelkkiahaa
