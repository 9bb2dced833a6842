import Derived.Test.YtlhmfaelkkiahaaSt5
import Derived.Test.YtlhmfaelkkiahaaShut
namespace Go.Proofs.Ytlhmfaelkkiahaa
open Go.RowKit
open Cox (Tl)

set_option maxRecDepth 100000 in
theorem steps_long (a b c : Int) (s : ByteArray) (p : Option Addr) (n cap : Nat) (hn : 200 < n) (w : World) :
    Calls Try.prog 3 #[oval a b c, .string s, .slice p n cap] w fun e w' => e = .returned (.bool true) ∧ Below w.heap.size w w' := by
  have HS := Lib.hid (fun w => overO sane_any a b c w)
  unfold oval at *
  have ha := AtO.new a b c w
  have hb := (Below.refl w.heap.size w).alloc (Nat.le_refl _) (.cells #[.int .i64 a, .int .i64 b, .int .i64 c] 23)
  have HA := Lib.hid ha
  have HB := Lib.hid hb
  have hn1 : (200 : Int) < (n : Int) := by omega
  clear ha hb
  go_enter Try.func3, Try.ntmps3
  go_wp2_with fail
  go_at_call 7
  refine (HS.out _ _ _ HA.out HB.out).mono ?_
  clear HA HB
  rintro e w2 ⟨rfl, ha, hb⟩
  have HB := Lib.hid hb
  clear hb ha
  go_wp2
  go_ret
  exact ⟨rfl, HB.out⟩

set_option maxRecDepth 100000 in
theorem steps_no (a b c : Int) (s : ByteArray) (hs : s.size ≤ maxLen) (he : errs a b c [s] ≠ 0) (p : Option Addr) (n cap : Nat) (hn : n ≤ 200) (w : World) :
    Calls Try.prog 3 #[oval a b c, .string s, .slice p n cap] w fun e w' => e = .returned (.bool true) ∧ Below w.heap.size w w' := by
  have HE := Lib.hid (fun (bl C : Nat) (w : World) (hbl : bl < w.heap.size) (hl : Strs w bl [s]) => errors_any a b c [s] bl C (by show 1 < 100; omega) (fun x hx => by
    have : x = s := by simpa using hx
    subst this; exact hs) w hbl hl)
  have HS := Lib.hid (fun w => overO sane_any a b c w)
  generalize errs a b c [s] = r at *
  have hr : (r != 0) = true := by simpa [bne] using he
  have hn1 : ¬ (200 : Int) < (n : Int) := by omega
  clear he
  unfold oval at *
  have ha := AtO.new a b c w
  have hb := (Below.refl w.heap.size w).alloc (Nat.le_refl _) (.cells #[.int .i64 a, .int .i64 b, .int .i64 c] 23)
  have HA := Lib.hid ha
  have HB := Lib.hid hb
  clear ha hb
  go_enter Try.func3, Try.ntmps3
  go_wp2_with fail
  go_at_call 7
  refine (HS.out _ _ _ HA.out HB.out).mono ?_
  clear HA HB
  rintro e w2 ⟨rfl, ha, hb⟩
  have HB := Lib.hid hb
  obtain ⟨a0, a1, a2, -⟩ := ha
  clear hb
  go_wp2_with fail
  go_at_call 8
  refine (HE.out _ _ _ (by simp) (strs_one _ _ _ _ rfl)).mono ?_
  rintro e w3 ⟨rfl, hb3⟩
  have hb := HB.out.trans ((((Below.refl _ _).alloc HB.out.size _)).trans (hb3.mono (by have := HB.out.size; simp; omega)))
  clear hb3
  go_wp2
  go_ret
  exact ⟨rfl, hb⟩

/-- a contract that depends on a word, told over a box of orders -/
theorem overStep {K : Type} [Cox.OR K] (T : Cox.Tri K) (a b c : Nat) (hT : T.m = ords a b c) (h12 : a ≤ 12 ∧ b ≤ 12 ∧ c ≤ 12) (l : List (Fin 3)) (hl : l.length ≤ 60) (k p x : Int) (w0 : World) (B : Nat) (w : World) (ha : AtO a b c B w) (hb : Below w0.heap.size w0 w) :
    Calls Try.prog 10 #[oval a b c, .string (wb l), sval k p x] w fun e w' => ∃ l', e = .returned (.string (wb l')) ∧ (Cox.pi T l' = Cox.pi T l ∧ l'.length ≤ 62) ∧ AtO a b c B w' ∧ Below w0.heap.size w0 w' := by
  refine (stepped_any T a b c hT h12 l (by omega) k p x w).mono fun e w' h => ?_
  obtain ⟨l', h1, h2, h3, h4⟩ := h
  exact ⟨l', h1, ⟨h3, by omega⟩, ha.below h2, hb.trans (h2.mono hb.size)⟩

set_option maxRecDepth 100000 in
set_option maxHeartbeats 4000000 in
theorem steps_yes {K : Type} [Cox.OR K] (T : Cox.Tri K) (a b c : Nat) (hT : T.m = ords a b c) (hc0 : chk a b c = 0) (h12 : a ≤ 12 ∧ b ≤ 12 ∧ c ≤ 12) (l : List (Fin 3)) (hl : l.length ≤ 60) (p : Option Addr) (n cap : Nat) (hn : n ≤ 200) (w : World)
    (hcell : ∀ i, i < n → ∃ (bk o : Nat) (k y x : Int), p = some ⟨bk, o, none⟩ ∧ bk < w.heap.size ∧ w.cell? ⟨bk, o + i * 3, none⟩ = some (.int .i64 k) ∧ w.cell? ⟨bk, o + i * 3 + 1, none⟩ = some (.int .i64 y) ∧ w.cell? ⟨bk, o + i * 3 + 2, none⟩ = some (.int .i64 x)) :
    Calls Try.prog 3 #[oval a b c, .string (wb l), .slice p n cap] w fun e w' => e = .returned (.bool true) ∧ Below w.heap.size w w' := by
  have HE0 : ∀ (bl C : Nat) (w : World), bl < w.heap.size → Strs w bl [wb l] → Calls Try.prog 8 #[oval a b c, .slice (some ⟨bl, 0, none⟩) (1 : Nat) C] w fun e w' => e = .returned (.int .i64 0) ∧ Below w.heap.size w w' := by
    intro bl C w hbl hl'
    have h := errors_any a b c [wb l] bl C (by show 1 < 100; omega) (fun x hx => by
      have : x = wb l := by simpa using hx
      subst this; rw [wb_size]; unfold maxLen; omega) w hbl hl'
    have e0 : errs a b c [wb l] = 0 := errs_zero (ws := [l]) hc0 (by simpa using hl)
    rw [e0] at h
    exact h
  have HE := Lib.hid HE0
  clear HE0
  have HS := Lib.hid (fun w => overO sane_any (a : Int) b c w)
  have HN := Lib.hid (fun (v : List (Fin 3)) (hv : v.length ≤ 60) => overO (fun w => normal_yes T a b c hT v (errs_zero (ws := [v]) hc0 (by simpa using hv)) w) (a : Int) b c)
  have HM := Lib.hid (fun (u v : List (Fin 3)) (hu : u.length ≤ 60) (hv : v.length ≤ 60) => overO (fun w => same_yes T a b c hT u v (errs_zero (ws := [u, v]) hc0 (by simp only [List.mem_cons, List.not_mem_nil, or_false]; rintro _ (rfl | rfl); exact hu; exact hv)) w) (a : Int) b c)
  have HP := Lib.hid (fun (v : List (Fin 3)) (hv : v.length ≤ 60) => overStep T a b c hT h12 v hv)
  have HC := Lib.hid hcell
  have hn1 : ¬ (200 : Int) < (n : Int) := by omega
  clear hcell hT h12 hc0
  generalize (a : Int) = ai at *
  generalize (b : Int) = bi at *
  generalize (c : Int) = ci at *
  unfold oval at *
  have ha := AtO.new ai bi ci w
  have hb := (Below.refl w.heap.size w).alloc (Nat.le_refl _) (.cells #[.int .i64 ai, .int .i64 bi, .int .i64 ci] 23)
  have HA := Lib.hid ha
  have HB := Lib.hid hb
  clear ha hb
  go_enter Try.func3, Try.ntmps3
  go_wp2_with fail
  go_at_call 7
  refine (HS.out _ _ _ HA.out HB.out).mono ?_
  clear HA HB
  rintro e w2 ⟨rfl, ha, hb⟩
  have HA := Lib.hid ha
  have HB := Lib.hid hb
  obtain ⟨a0, a1, a2, -⟩ := ha
  clear hb
  go_wp2_with fail
  go_at_call 8
  refine (HE.out _ _ _ (by simp) (strs_one _ _ _ _ rfl)).mono ?_
  rintro e w3 ⟨rfl, hb3⟩
  have hb0 := (Below.refl w2.heap.size w2).alloc (Nat.le_refl _) (.cells #[.string (wb l)] 9)
  have ha := HA.out.below (hb0.trans (hb3.mono (by simp)))
  have hb := HB.out.trans ((((Below.refl _ _).alloc HB.out.size _)).trans (hb3.mono (by have := HB.out.size; simp; omega)))
  clear hb3 hb0 HA HB a0 a1 a2
  have HA := Lib.hid ha
  have HB := Lib.hid hb
  obtain ⟨a0, a1, a2, -⟩ := ha
  clear hb
  go_wp2_with fail
  go_at_call 9
  refine (HN.out l hl _ _ _ HA.out HB.out).mono ?_
  clear HA HB a0 a1 a2
  rintro e w2 ⟨rfl, ha, hb⟩
  have HA := Lib.hid ha
  have HB := Lib.hid hb
  clear hb ha
  go_wp2_with fail
  go_loopw [1, 9] (fun s i wr => ∃ (j : Nat) (v : List (Fin 3)), i = .int .i64 j ∧ j ≤ n ∧ Hid (s = .string (wb v) ∧ v.length ≤ 60 ∧ Cox.pi T v = Cox.pi T l ∧ AtO ai bi ci w.heap.size wr ∧ Below w.heap.size w wr)) (fun _ i _ => n - (intOf i).toNat)
  case atStart => exact ⟨0, l, rfl, by omega, Lib.hid ⟨rfl, hl, rfl, HA.out, HB.out⟩⟩
  case round =>
    obtain ⟨j, v, rfl, hj, HJ⟩ := hrel
    obtain ⟨rfl, hv, hpi, ha, hb⟩ := HJ.out
    have HPI := Lib.hid hpi
    have HA := Lib.hid ha
    have HB := Lib.hid hb
    obtain ⟨a0, a1, a2, -⟩ := ha
    clear hpi HJ
    by_cases hjn : j < n
    · obtain ⟨bk, o, k, y, x, rfl, hbk, c0, c1, c2⟩ := HC.out j hjn
      have HC0 := Lib.hid (And.intro hbk (And.intro c0 (And.intro c1 c2)))
      rw [← Below.cell (p := ⟨bk, o + j * 3, none⟩) hb hbk] at c0
      rw [← Below.cell (p := ⟨bk, o + j * 3 + 1, none⟩) hb hbk] at c1
      rw [← Below.cell (p := ⟨bk, o + j * 3 + 2, none⟩) hb hbk] at c2
      clear hb
      have j1 : (j : Int) < (n : Int) := by omega
      have j2 : (0 : Int) ≤ (j : Int) := by omega
      have HP2 := Lib.hid (HP.out v hv k y x)
      unfold sval at HP2
      go_wp2_with fail
      go_region_held3 (fun w' => (w'.cell? ⟨w.heap.size, 0, none⟩ = some (.int .i64 ai) ∧ w'.cell? ⟨w.heap.size, 1, none⟩ = some (.int .i64 bi) ∧ w'.cell? ⟨w.heap.size, 2, none⟩ = some (.int .i64 ci)) ∧ (w'.cell? ⟨bk, o + j * 3, none⟩ = some (.int .i64 k) ∧ w'.cell? ⟨bk, o + j * 3 + 1, none⟩ = some (.int .i64 y) ∧ w'.cell? ⟨bk, o + j * 3 + 2, none⟩ = some (.int .i64 x)))
        ((first | exact ⟨⟨a0, a1, a2⟩, c0, c1, c2⟩ | (obtain ⟨g0, g1, g2, -⟩ := ha; exact ⟨⟨g0, g1, g2⟩, by rw [Below.cell (p := ⟨bk, o + j * 3, none⟩) hb HC0.out.1]; exact HC0.out.2.1, by rw [Below.cell (p := ⟨bk, o + j * 3 + 1, none⟩) hb HC0.out.1]; exact HC0.out.2.2.1, by rw [Below.cell (p := ⟨bk, o + j * 3 + 2, none⟩) hb HC0.out.1]; exact HC0.out.2.2.2⟩)))
        (first | (go_at_call 10; with_reducible refine (HP2.out _ _ _ (HA.out.below (Below.refl _ _).drew) HB.out.drew).mono ?_; rintro e w4 ⟨v', rfl, hv', ha, hb⟩))
      all_goals
        have HG0 := Lib.hid ha
        have HG1 := Lib.hid hb
        have HV := Lib.hid hv'
        have zv := wb_size v'
        clear ha hb hv' HA HB
        by_cases hl6 : v'.length ≤ 60
        · have hl7 : (v'.length : Int) ≤ 60 := by omega
          go_wp2_with fail
          go_roundw
          case rel => exact ⟨j + 1, v', by go_num, by omega, Lib.hid ⟨rfl, hl6, HV.out.1.trans HPI.out, HG0.out, HG1.out⟩⟩
          case measure => simp [intOf]; omega
        · have hl7 : ¬ (v'.length : Int) ≤ 60 := by omega
          go_wp2_with fail
          go_roundw
          case rel => exact ⟨j + 1, v, by go_num, by omega, Lib.hid ⟨rfl, hv, HPI.out, HG0.out, HG1.out⟩⟩
          case measure => simp [intOf]; omega
    · have hjn' : ¬ (j : Int) < (n : Int) := by omega
      clear hb
      have hnf : Cox.nf T v = Cox.nf T l := Cox.nf_congr T HPI.out
      have D1 := Lib.hid (HN.out v hv)
      have D2 := Lib.hid (HM.out (Cox.nf T l) v (by have := Cox.nf_le T l; omega) hv)
      rw [Cox.nf_nf, hnf, beq_self_eq_true] at D2
      rw [hnf] at D1
      have hq : ((wb (Cox.nf T l)).toList == (wb (Cox.nf T l)).toList) = true := by simp
      generalize wb (Cox.nf T l) = Nn at *
      go_wp2_with fail
      go_at_call 9
      refine (D1.out _ _ _ HA.out HB.out).mono ?_
      clear HA HB a0 a1 a2
      rintro e w5 ⟨rfl, ha, hb⟩
      have HA := Lib.hid ha
      have HB := Lib.hid hb
      obtain ⟨a0, a1, a2, -⟩ := ha
      clear hb
      go_wp2_with fail
      go_at_call 11
      refine (D2.out _ _ _ HA.out HB.out).mono ?_
      clear HA HB a0 a1 a2
      rintro e w6 ⟨rfl, ha, hb⟩
      have HB := Lib.hid hb
      clear ha hb
      go_wp2
      go_ret
      exact ⟨rfl, HB.out⟩
end Go.Proofs.Ytlhmfaelkkiahaa
