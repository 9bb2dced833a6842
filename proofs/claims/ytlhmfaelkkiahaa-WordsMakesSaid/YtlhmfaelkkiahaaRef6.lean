import Derived.Test.YtlhmfaelkkiahaaRef5
namespace Go.Proofs.Ytlhmfaelkkiahaa
open Go.RowKit
open Cox (Tl)

section
variable {K : Type} [Cox.OR K]

/-- R3.Order -/
theorem rorder_yes (T : Cox.Tri K) (a b c : Nat) (hT : T.m = ords a b c) (h12 : a ≤ 12 ∧ b ≤ 12 ∧ c ≤ 12) (l : List (Fin 3)) (hl : l.length ≤ 60) (he : errs a b c [wb l] = 0) (w : World) :
    Calls Try.prog 18 #[oval a b c, .string (wb l)] w fun e w' => e = .returned (.tuple #[.int .i64 (ordr T l), .int .i64 0]) ∧ Below w.heap.size w w' := by
  have HE := Lib.hid (err1 (a : Int) b c (wb l) (by rw [wb_size]; unfold maxLen; omega))
  rw [he] at HE
  have HW := Lib.hid (fun (v : List (Fin 3)) (hv : v.length ≤ 780) => overO (fun w => rword_any T a b c hT h12 v hv w) (a : Int) b c)
  clear he hT h12
  generalize (a : Int) = ai at *
  generalize (b : Int) = bi at *
  generalize (c : Int) = ci at *
  unfold oval at *
  have HA := Lib.hid (AtO.new ai bi ci w)
  have HB := Lib.hid ((Below.refl w.heap.size w).alloc (Nat.le_refl _) (.cells #[.int .i64 ai, .int .i64 bi, .int .i64 ci] 23))
  go_enter Try.func18, Try.ntmps18
  go_wp2_with fail
  go_at_call 8
  refine (HE.out _ _ _ (by simp) (strs_one _ _ _ _ (by simp))).mono ?_
  rintro e w2 ⟨rfl, hb3⟩
  have ha := HA.out.below (((Below.refl _ _).alloc (Nat.le_refl _) _).trans (hb3.mono (by simp)))
  have hb := HB.out.trans ((((Below.refl _ _).alloc HB.out.size _)).trans (hb3.mono (by have := HB.out.size; simp; omega)))
  clear HA HB hb3
  have HA := Lib.hid ha
  have HB := Lib.hid hb
  clear ha hb
  go_wp2_with fail
  go_loopw [7, 8] (fun pp kk wr => ∃ k : Nat, k ≤ 12 ∧ kk = .int .i64 ((k : Int) + 1) ∧ Hid (pp = .string (wb (Cox.nf T (lpow l k))) ∧ (∀ j, 1 ≤ j → j ≤ k → Cox.nf T (lpow l j) ≠ []) ∧ AtO ai bi ci w.heap.size wr ∧ Below w.heap.size w wr)) (fun _ kk _ => 13 - (intOf kk).toNat)
  case atStart => exact ⟨0, by omega, rfl, Lib.hid ⟨by rw [show lpow l 0 = [] from rfl, Cox.nf_nil]; rfl, fun j h1 h2 => by omega, HA.out, HB.out⟩⟩
  case round =>
    obtain ⟨k, hk, rfl, HK⟩ := hrel
    obtain ⟨rfl, hno, ha, hb⟩ := HK.out
    have HNO := Lib.hid hno
    have HA := Lib.hid ha
    have HB := Lib.hid hb
    obtain ⟨a0, a1, a2, -⟩ := ha
    clear hno hb HK
    by_cases hk12 : k < 12
    · have k1 : (k : Int) + 1 ≤ 12 := by omega
      have hlen : (Cox.nf T (lpow l k)).length ≤ 660 := by
        have h1 := Cox.nf_le T (lpow l k)
        rw [lpow_len] at h1
        have h2 : k * l.length ≤ 11 * 60 := Nat.mul_le_mul (by omega) hl
        omega
      have hap := wb_append (Cox.nf T (lpow l k)) l
      have hsz : ¬ 9223372036854775807 < (wb (Cox.nf T (lpow l k))).size + (wb l).size := by rw [wb_size, wb_size]; omega
      have hsz2 : (wb (Cox.nf T (lpow l k))).size + (wb l).size ≤ 9223372036854775807 := by rw [wb_size, wb_size]; omega
      have D := Lib.hid (HW.out (Cox.nf T (lpow l k) ++ l) (by rw [List.length_append]; omega))
      have hnx : Cox.nf T (Cox.nf T (lpow l k) ++ l) = Cox.nf T (lpow l (k + 1)) := Cox.nf_congr T (Cox.pi_right T (Cox.nf_pi T (lpow l k)) l)
      rw [hnx] at D
      clear hnx hlen
      generalize wb (Cox.nf T (lpow l k) ++ l) = S2 at *
      generalize wb (Cox.nf T (lpow l k)) = S1 at *
      obtain ⟨Sl, hSl⟩ : ∃ q, q = wb l := ⟨_, rfl⟩
      rw [← hSl] at hap hsz hsz2
      have HSL : Hid (Sl = wb l) := Lib.hid hSl
      rw [← hSl]
      clear hSl
      by_cases hz : Cox.nf T (lpow l (k + 1)) = []
      · rw [hz] at D
        have hor : ordr T l = k + 1 := ordr_at (by omega) (by omega) hz (fun j h1 h2 => HNO.out j h1 (by omega))
        have HOR := Lib.hid hor
        have e0 : wb [] = ⟨#[]⟩ := rfl
        rw [e0] at D
        clear hz hor e0
        go_wp2_with fail
        go_at_call 30
        refine (D.out _ _ _ HA.out HB.out).mono ?_
        clear HA HB a0 a1 a2
        rintro e w3 ⟨rfl, ha, hb⟩
        have HB := Lib.hid hb
        clear ha hb
        go_wp2
        exact bodyPost_ret (v := .tuple #[.int .i64 ((k : Int) + 1), .int .i64 0]) (by simp [results, Try.results18, go_sem]) rfl ⟨by rw [HOR.out]; rfl, HB.out⟩
      · have hq : ((wb (Cox.nf T (lpow l (k + 1)))).toList == (wb []).toList) = false := by
          rw [wb_beq]; simpa using hz
        have e0 : (wb []).toList = [] := by rw [ByteArray.toList_eq]; rfl
        have hq2 : ((wb (Cox.nf T (lpow l (k + 1)))).toList == []) = false := by rw [← e0]; exact hq
        have hq3 : ((wb (Cox.nf T (lpow l (k + 1)))).toList == (ByteArray.mk #[]).toList) = false := hq
        have hq4 : ¬ (wb (Cox.nf T (lpow l (k + 1)))).toList = [] := by
          intro h; rw [h] at hq2; simp at hq2
        have HZ := Lib.hid hz
        obtain ⟨S3, hS3⟩ : ∃ q, q = wb (Cox.nf T (lpow l (k + 1))) := ⟨_, rfl⟩
        rw [← hS3] at D hq2 hq3 hq4
        have HS3 := Lib.hid hS3
        clear hz hq hS3 e0
        go_wp2_with fail
        go_at_call 30
        refine (D.out _ _ _ HA.out HB.out).mono ?_
        clear HA HB a0 a1 a2
        rintro e w3 ⟨rfl, ha, hb⟩
        have HA := Lib.hid ha
        have HB := Lib.hid hb
        clear ha hb
        go_wp2_with fail
        go_roundw
        case rel =>
          refine ⟨k + 1, by omega, by go_num, Lib.hid ⟨by rw [HS3.out], fun j h1 h2 => ?_, HA.out, HB.out⟩⟩
          rcases Nat.lt_or_ge j (k + 1) with h3 | h3
          · exact HNO.out j h1 (by omega)
          · have : j = k + 1 := by omega
            subst this; exact HZ.out
        case measure => simp [intOf]; omega
    · have hke : k = 12 := by omega
      subst hke
      have HOR := Lib.hid (ordr_none HNO.out)
      go_wp2
      exact bodyPost_ret (v := .tuple #[.int .i64 0, .int .i64 0]) (by simp [results, Try.results18, go_sem]) rfl ⟨by rw [HOR.out]; rfl, HB.out⟩
theorem rorder_no (a b c : Int) (s : ByteArray) (hs : s.size ≤ maxLen) (he : errs a b c [s] ≠ 0) (w : World) :
    Calls Try.prog 18 #[oval a b c, .string s] w fun e w' => e = .returned (.tuple #[.int .i64 0, .int .i64 (errs a b c [s])]) ∧ Below w.heap.size w w' := by
  have HE := Lib.hid (err1 a b c s hs)
  generalize errs a b c [s] = r at *
  have hr : (r != 0) = true := by simpa [bne] using he
  clear he
  unfold oval at *
  have HA := Lib.hid (AtO.new a b c w)
  have HB := Lib.hid ((Below.refl w.heap.size w).alloc (Nat.le_refl _) (.cells #[.int .i64 a, .int .i64 b, .int .i64 c] 23))
  go_enter Try.func18, Try.ntmps18
  go_wp2_with fail
  go_at_call 8
  refine (HE.out _ _ _ (by simp) (strs_one _ _ _ _ (by simp))).mono ?_
  rintro e w2 ⟨rfl, hb3⟩
  have hb := HB.out.trans ((((Below.refl _ _).alloc HB.out.size _)).trans (hb3.mono (by have := HB.out.size; simp; omega)))
  clear HA HB hb3
  go_wp2
  exact bodyPost_ret (v := .tuple #[.int .i64 0, .int .i64 r]) (by simp [results, Try.results18, go_sem]) rfl ⟨rfl, hb⟩
end
end Go.Proofs.Ytlhmfaelkkiahaa
