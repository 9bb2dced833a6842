import Derived.Test.YtlhmfaelkkiahaaRef4
import Derived.Test.YtlhmfaelkkiahaaLaw3
namespace Go.Proofs.Ytlhmfaelkkiahaa
open Go.RowKit
open Cox (Tl)

/-- errors of one word -/
theorem err1 (a b c : Int) (s : ByteArray) (hs : s.size ≤ maxLen) (bl C : Nat) (w : World) (hbl : bl < w.heap.size) (hl : Strs w bl [s]) :
    Calls Try.prog 8 #[oval a b c, .slice (some ⟨bl, 0, none⟩) (1 : Nat) C] w fun e w' => e = .returned (.int .i64 (errs a b c [s])) ∧ Below w.heap.size w w' :=
  errors_any a b c [s] bl C (by show 1 < 100; omega) (fun x hx => by
    have : x = s := by simpa using hx
    subst this; exact hs) w hbl hl
theorem err2 (a b c : Int) (s t : ByteArray) (hs : s.size ≤ maxLen) (ht : t.size ≤ maxLen) (bl C : Nat) (w : World) (hbl : bl < w.heap.size) (hl : Strs w bl [s, t]) :
    Calls Try.prog 8 #[oval a b c, .slice (some ⟨bl, 0, none⟩) (2 : Nat) C] w fun e w' => e = .returned (.int .i64 (errs a b c [s, t])) ∧ Below w.heap.size w w' :=
  errors_any a b c [s, t] bl C (by show 2 < 100; omega) (fun x hx => by
    rcases List.mem_cons.1 hx with rfl | hx
    · exact hs
    · have : x = t := by simpa using hx
      subst this; exact ht) w hbl hl

section
variable {K : Type} [Cox.OR K]

/-- R3.Normal -/
theorem rnormal_yes (T : Cox.Tri K) (a b c : Nat) (hT : T.m = ords a b c) (h12 : a ≤ 12 ∧ b ≤ 12 ∧ c ≤ 12) (l : List (Fin 3)) (hl : l.length ≤ 60) (he : errs a b c [wb l] = 0) (w : World) :
    Calls Try.prog 12 #[oval a b c, .string (wb l)] w fun e w' => e = .returned (.tuple #[.string (wb (Cox.nf T l)), .int .i64 0]) ∧ Below w.heap.size w w' := by
  have HE := Lib.hid (err1 (a : Int) b c (wb l) (by rw [wb_size]; unfold maxLen; omega))
  rw [he] at HE
  have HW := Lib.hid (overO (fun w => rword_any T a b c hT h12 l (by omega) w) (a : Int) b c)
  clear he hT h12
  generalize (a : Int) = ai at *
  generalize (b : Int) = bi at *
  generalize (c : Int) = ci at *
  generalize wb (Cox.nf T l) = S1 at *
  generalize wb l = S at *
  unfold oval at *
  have HA := Lib.hid (AtO.new ai bi ci w)
  have HB := Lib.hid ((Below.refl w.heap.size w).alloc (Nat.le_refl _) (.cells #[.int .i64 ai, .int .i64 bi, .int .i64 ci] 23))
  go_enter Try.func12, Try.ntmps12
  go_wp2_with fail
  go_at_call 8
  refine (HE.out _ _ _ (by simp) (strs_one _ _ _ _ (by simp))).mono ?_
  rintro e w2 ⟨rfl, hb3⟩
  have ha := HA.out.below (((Below.refl _ _).alloc (Nat.le_refl _) _).trans (hb3.mono (by simp)))
  have hb := HB.out.trans ((((Below.refl _ _).alloc HB.out.size _)).trans (hb3.mono (by have := HB.out.size; simp; omega)))
  clear HA HB hb3
  have HA := Lib.hid ha
  have HB := Lib.hid hb
  obtain ⟨a0, a1, a2, -⟩ := ha
  clear hb
  go_wp2_with fail
  go_at_call 30
  refine (HW.out _ _ _ HA.out HB.out).mono ?_
  clear HA HB a0 a1 a2
  rintro e w2 ⟨rfl, ha, hb⟩
  have HB := Lib.hid hb
  clear ha hb
  go_wp2
  exact bodyPost_ret (v := .tuple #[.string S1, .int .i64 0]) (by simp [results, Try.results12, go_sem]) rfl ⟨rfl, HB.out⟩
theorem rnormal_no (a b c : Int) (s : ByteArray) (hs : s.size ≤ maxLen) (he : errs a b c [s] ≠ 0) (w : World) :
    Calls Try.prog 12 #[oval a b c, .string s] w fun e w' => e = .returned (.tuple #[.string ⟨#[]⟩, .int .i64 (errs a b c [s])]) ∧ Below w.heap.size w w' := by
  have HE := Lib.hid (err1 a b c s hs)
  generalize errs a b c [s] = r at *
  have hr : (r != 0) = true := by simpa [bne] using he
  clear he
  unfold oval at *
  have HA := Lib.hid (AtO.new a b c w)
  have HB := Lib.hid ((Below.refl w.heap.size w).alloc (Nat.le_refl _) (.cells #[.int .i64 a, .int .i64 b, .int .i64 c] 23))
  go_enter Try.func12, Try.ntmps12
  go_wp2_with fail
  go_at_call 8
  refine (HE.out _ _ _ (by simp) (strs_one _ _ _ _ (by simp))).mono ?_
  rintro e w2 ⟨rfl, hb3⟩
  have ha := HA.out.below (((Below.refl _ _).alloc (Nat.le_refl _) _).trans (hb3.mono (by simp)))
  have hb := HB.out.trans ((((Below.refl _ _).alloc HB.out.size _)).trans (hb3.mono (by have := HB.out.size; simp; omega)))
  clear HA HB hb3
  have HB := Lib.hid hb
  clear ha hb
  go_wp2
  exact bodyPost_ret (v := .tuple #[.string ⟨#[]⟩, .int .i64 r]) (by simp [results, Try.results12, go_sem]) rfl ⟨rfl, HB.out⟩

/-- R3.Inverse -/
theorem rinverse_yes (T : Cox.Tri K) (a b c : Nat) (hT : T.m = ords a b c) (h12 : a ≤ 12 ∧ b ≤ 12 ∧ c ≤ 12) (l : List (Fin 3)) (hl : l.length ≤ 60) (he : errs a b c [wb l] = 0) (w : World) :
    Calls Try.prog 16 #[oval a b c, .string (wb l)] w fun e w' => e = .returned (.tuple #[.string (wb (Cox.nf T l.reverse)), .int .i64 0]) ∧ Below w.heap.size w w' := by
  have HE := Lib.hid (err1 (a : Int) b c (wb l) (by rw [wb_size]; unfold maxLen; omega))
  rw [he] at HE
  have HW := Lib.hid (overO (fun w => rword_any T a b c hT h12 l.reverse (by rw [List.length_reverse]; omega) w) (a : Int) b c)
  have HT := Lib.hid (fun w => turned_any l (by omega) w)
  clear he hT h12
  generalize (a : Int) = ai at *
  generalize (b : Int) = bi at *
  generalize (c : Int) = ci at *
  generalize wb (Cox.nf T l.reverse) = S1 at *
  generalize wb l.reverse = S2 at *
  generalize wb l = S at *
  unfold oval at *
  have HA := Lib.hid (AtO.new ai bi ci w)
  have HB := Lib.hid ((Below.refl w.heap.size w).alloc (Nat.le_refl _) (.cells #[.int .i64 ai, .int .i64 bi, .int .i64 ci] 23))
  go_enter Try.func16, Try.ntmps16
  go_wp2_with fail
  go_at_call 8
  refine (HE.out _ _ _ (by simp) (strs_one _ _ _ _ (by simp))).mono ?_
  rintro e w2 ⟨rfl, hb3⟩
  have ha := HA.out.below (((Below.refl _ _).alloc (Nat.le_refl _) _).trans (hb3.mono (by simp)))
  have hb := HB.out.trans ((((Below.refl _ _).alloc HB.out.size _)).trans (hb3.mono (by have := HB.out.size; simp; omega)))
  clear HA HB hb3
  have HA := Lib.hid ha
  have HB := Lib.hid hb
  obtain ⟨a0, a1, a2, -⟩ := ha
  clear hb
  go_wp2_with fail
  go_region_held3 (fun w' => w'.cell? ⟨w.heap.size, 0, none⟩ = some (.int .i64 ai) ∧ w'.cell? ⟨w.heap.size, 1, none⟩ = some (.int .i64 bi) ∧ w'.cell? ⟨w.heap.size, 2, none⟩ = some (.int .i64 ci))
    ((first | exact ⟨a0, a1, a2⟩ | (obtain ⟨g0, g1, g2, -⟩ := ‹AtO _ _ _ _ _›; exact ⟨g0, g1, g2⟩)))
    (first | (go_at_call 20; with_reducible refine (HT.out _).mono ?_; rintro e w3 ⟨rfl, rfl⟩) | (go_at_call 30; with_reducible refine (HW.out _ _ _ (HA.out.below (Below.refl _ _).drew) HB.out.drew).mono ?_; rintro e w3 ⟨rfl, ha, hb⟩))
  all_goals
    have HB9 := Lib.hid hb
    clear ha hb
    go_wp2
    exact bodyPost_ret (v := .tuple #[.string S1, .int .i64 0]) (by simp [results, Try.results16, go_sem]) rfl ⟨rfl, HB9.out⟩
theorem rinverse_no (a b c : Int) (s : ByteArray) (hs : s.size ≤ maxLen) (he : errs a b c [s] ≠ 0) (w : World) :
    Calls Try.prog 16 #[oval a b c, .string s] w fun e w' => e = .returned (.tuple #[.string ⟨#[]⟩, .int .i64 (errs a b c [s])]) ∧ Below w.heap.size w w' := by
  have HE := Lib.hid (err1 a b c s hs)
  generalize errs a b c [s] = r at *
  have hr : (r != 0) = true := by simpa [bne] using he
  clear he
  unfold oval at *
  have HA := Lib.hid (AtO.new a b c w)
  have HB := Lib.hid ((Below.refl w.heap.size w).alloc (Nat.le_refl _) (.cells #[.int .i64 a, .int .i64 b, .int .i64 c] 23))
  go_enter Try.func16, Try.ntmps16
  go_wp2_with fail
  go_at_call 8
  refine (HE.out _ _ _ (by simp) (strs_one _ _ _ _ (by simp))).mono ?_
  rintro e w2 ⟨rfl, hb3⟩
  have ha := HA.out.below (((Below.refl _ _).alloc (Nat.le_refl _) _).trans (hb3.mono (by simp)))
  have hb := HB.out.trans ((((Below.refl _ _).alloc HB.out.size _)).trans (hb3.mono (by have := HB.out.size; simp; omega)))
  clear HA HB hb3
  have HB := Lib.hid hb
  clear ha hb
  go_wp2
  exact bodyPost_ret (v := .tuple #[.string ⟨#[]⟩, .int .i64 r]) (by simp [results, Try.results16, go_sem]) rfl ⟨rfl, HB.out⟩

/-- R3.Times -/
theorem rtimes_yes (T : Cox.Tri K) (a b c : Nat) (hT : T.m = ords a b c) (h12 : a ≤ 12 ∧ b ≤ 12 ∧ c ≤ 12) (u v : List (Fin 3)) (hu : u.length ≤ 60) (hv : v.length ≤ 60) (he : errs a b c [wb u, wb v] = 0) (w : World) :
    Calls Try.prog 14 #[oval a b c, .string (wb u), .string (wb v)] w fun e w' => e = .returned (.tuple #[.string (wb (Cox.nf T (u ++ v))), .int .i64 0]) ∧ Below w.heap.size w w' := by
  have HE := Lib.hid (err2 (a : Int) b c (wb u) (wb v) (by rw [wb_size]; unfold maxLen; omega) (by rw [wb_size]; unfold maxLen; omega))
  rw [he] at HE
  have HW := Lib.hid (overO (fun w => rword_any T a b c hT h12 (u ++ v) (by rw [List.length_append]; omega) w) (a : Int) b c)
  have hap := wb_append u v
  have hsz : ¬ 9223372036854775807 < (wb u).size + (wb v).size := by rw [wb_size, wb_size]; omega
  clear he hT h12
  generalize (a : Int) = ai at *
  generalize (b : Int) = bi at *
  generalize (c : Int) = ci at *
  generalize wb (Cox.nf T (u ++ v)) = S1 at *
  generalize wb (u ++ v) = S2 at *
  generalize wb u = U at *
  generalize wb v = V at *
  unfold oval at *
  have HA := Lib.hid (AtO.new ai bi ci w)
  have HB := Lib.hid ((Below.refl w.heap.size w).alloc (Nat.le_refl _) (.cells #[.int .i64 ai, .int .i64 bi, .int .i64 ci] 23))
  go_enter Try.func14, Try.ntmps14
  go_wp2_with fail
  go_at_call 8
  refine (HE.out _ _ _ (by simp) (strs_two _ _ _ _ _ (by simp))).mono ?_
  rintro e w2 ⟨rfl, hb3⟩
  have ha := HA.out.below (((Below.refl _ _).alloc (Nat.le_refl _) _).trans (hb3.mono (by simp)))
  have hb := HB.out.trans ((((Below.refl _ _).alloc HB.out.size _)).trans (hb3.mono (by have := HB.out.size; simp; omega)))
  clear HA HB hb3
  have HA := Lib.hid ha
  have HB := Lib.hid hb
  obtain ⟨a0, a1, a2, -⟩ := ha
  clear hb
  go_wp2_with fail
  go_at_call 30
  refine (HW.out _ _ _ HA.out HB.out).mono ?_
  clear HA HB a0 a1 a2
  rintro e w2 ⟨rfl, ha, hb⟩
  have HB := Lib.hid hb
  clear ha hb
  go_wp2
  exact bodyPost_ret (v := .tuple #[.string S1, .int .i64 0]) (by simp [results, Try.results14, go_sem]) rfl ⟨rfl, HB.out⟩
theorem rtimes_no (a b c : Int) (s t : ByteArray) (hs : s.size ≤ maxLen) (ht : t.size ≤ maxLen) (he : errs a b c [s, t] ≠ 0) (w : World) :
    Calls Try.prog 14 #[oval a b c, .string s, .string t] w fun e w' => e = .returned (.tuple #[.string ⟨#[]⟩, .int .i64 (errs a b c [s, t])]) ∧ Below w.heap.size w w' := by
  have HE := Lib.hid (err2 a b c s t hs ht)
  generalize errs a b c [s, t] = r at *
  have hr : (r != 0) = true := by simpa [bne] using he
  clear he
  unfold oval at *
  have HA := Lib.hid (AtO.new a b c w)
  have HB := Lib.hid ((Below.refl w.heap.size w).alloc (Nat.le_refl _) (.cells #[.int .i64 a, .int .i64 b, .int .i64 c] 23))
  go_enter Try.func14, Try.ntmps14
  go_wp2_with fail
  go_at_call 8
  refine (HE.out _ _ _ (by simp) (strs_two _ _ _ _ _ (by simp))).mono ?_
  rintro e w2 ⟨rfl, hb3⟩
  have ha := HA.out.below (((Below.refl _ _).alloc (Nat.le_refl _) _).trans (hb3.mono (by simp)))
  have hb := HB.out.trans ((((Below.refl _ _).alloc HB.out.size _)).trans (hb3.mono (by have := HB.out.size; simp; omega)))
  clear HA HB hb3
  have HB := Lib.hid hb
  clear ha hb
  go_wp2
  exact bodyPost_ret (v := .tuple #[.string ⟨#[]⟩, .int .i64 r]) (by simp [results, Try.results14, go_sem]) rfl ⟨rfl, HB.out⟩

/-- R3.Same -/
theorem rsame_yes (T : Cox.Tri K) (a b c : Nat) (hT : T.m = ords a b c) (h12 : a ≤ 12 ∧ b ≤ 12 ∧ c ≤ 12) (u v : List (Fin 3)) (hu : u.length ≤ 60) (hv : v.length ≤ 60) (he : errs a b c [wb u, wb v] = 0) (w : World) :
    Calls Try.prog 13 #[oval a b c, .string (wb u), .string (wb v)] w fun e w' => e = .returned (.tuple #[.bool ((wb (Cox.nf T u)).toList == (wb (Cox.nf T v)).toList), .int .i64 0]) ∧ Below w.heap.size w w' := by
  have HE := Lib.hid (err2 (a : Int) b c (wb u) (wb v) (by rw [wb_size]; unfold maxLen; omega) (by rw [wb_size]; unfold maxLen; omega))
  rw [he] at HE
  have HU := Lib.hid (overO (fun w => rword_any T a b c hT h12 u (by omega) w) (a : Int) b c)
  have HV := Lib.hid (overO (fun w => rword_any T a b c hT h12 v (by omega) w) (a : Int) b c)
  clear he hT h12
  generalize (a : Int) = ai at *
  generalize (b : Int) = bi at *
  generalize (c : Int) = ci at *
  generalize wb (Cox.nf T u) = S1 at *
  generalize wb (Cox.nf T v) = S2 at *
  generalize wb u = U at *
  generalize wb v = V at *
  unfold oval at *
  have HA := Lib.hid (AtO.new ai bi ci w)
  have HB := Lib.hid ((Below.refl w.heap.size w).alloc (Nat.le_refl _) (.cells #[.int .i64 ai, .int .i64 bi, .int .i64 ci] 23))
  go_enter Try.func13, Try.ntmps13
  go_wp2_with fail
  go_at_call 8
  refine (HE.out _ _ _ (by simp) (strs_two _ _ _ _ _ (by simp))).mono ?_
  rintro e w2 ⟨rfl, hb3⟩
  have ha := HA.out.below (((Below.refl _ _).alloc (Nat.le_refl _) _).trans (hb3.mono (by simp)))
  have hb := HB.out.trans ((((Below.refl _ _).alloc HB.out.size _)).trans (hb3.mono (by have := HB.out.size; simp; omega)))
  clear HA HB hb3
  have HA := Lib.hid ha
  have HB := Lib.hid hb
  obtain ⟨a0, a1, a2, -⟩ := ha
  clear hb
  go_wp2_with fail
  go_region_held3 (fun w' => w'.cell? ⟨w.heap.size, 0, none⟩ = some (.int .i64 ai) ∧ w'.cell? ⟨w.heap.size, 1, none⟩ = some (.int .i64 bi) ∧ w'.cell? ⟨w.heap.size, 2, none⟩ = some (.int .i64 ci))
    ((first | exact ⟨a0, a1, a2⟩ | (obtain ⟨g0, g1, g2, -⟩ := ‹AtO _ _ _ _ _›; exact ⟨g0, g1, g2⟩)))
    (first | (go_at_call 30; with_reducible refine (HU.out _ _ _ (HA.out.below (Below.refl _ _).drew) HB.out.drew).mono ?_; rintro e w3 ⟨rfl, ha, hb⟩) | (go_at_call 30; with_reducible refine (HV.out _ _ _ ha hb).mono ?_; rintro e w4 ⟨rfl, ha4, hb4⟩) | (go_at_call 30; with_reducible refine (HV.out _ _ _ (HA.out.below (Below.refl _ _).drew) HB.out.drew).mono ?_; rintro e w3 ⟨rfl, ha, hb⟩) | (go_at_call 30; with_reducible refine (HU.out _ _ _ ha hb).mono ?_; rintro e w4 ⟨rfl, ha4, hb4⟩))
  all_goals
    have HB9 := Lib.hid hb4
    clear ha hb ha4 hb4
    go_wp2
    exact bodyPost_ret (v := .tuple #[.bool (S1.toList == S2.toList), .int .i64 0]) (by simp [results, Try.results13, go_sem]) rfl ⟨rfl, HB9.out⟩
theorem rsame_no (a b c : Int) (s t : ByteArray) (hs : s.size ≤ maxLen) (ht : t.size ≤ maxLen) (he : errs a b c [s, t] ≠ 0) (w : World) :
    Calls Try.prog 13 #[oval a b c, .string s, .string t] w fun e w' => e = .returned (.tuple #[.bool false, .int .i64 (errs a b c [s, t])]) ∧ Below w.heap.size w w' := by
  have HE := Lib.hid (err2 a b c s t hs ht)
  generalize errs a b c [s, t] = r at *
  have hr : (r != 0) = true := by simpa [bne] using he
  clear he
  unfold oval at *
  have HA := Lib.hid (AtO.new a b c w)
  have HB := Lib.hid ((Below.refl w.heap.size w).alloc (Nat.le_refl _) (.cells #[.int .i64 a, .int .i64 b, .int .i64 c] 23))
  go_enter Try.func13, Try.ntmps13
  go_wp2_with fail
  go_at_call 8
  refine (HE.out _ _ _ (by simp) (strs_two _ _ _ _ _ (by simp))).mono ?_
  rintro e w2 ⟨rfl, hb3⟩
  have ha := HA.out.below (((Below.refl _ _).alloc (Nat.le_refl _) _).trans (hb3.mono (by simp)))
  have hb := HB.out.trans ((((Below.refl _ _).alloc HB.out.size _)).trans (hb3.mono (by have := HB.out.size; simp; omega)))
  clear HA HB hb3
  have HB := Lib.hid hb
  clear ha hb
  go_wp2
  exact bodyPost_ret (v := .tuple #[.bool false, .int .i64 r]) (by simp [results, Try.results13, go_sem]) rfl ⟨rfl, HB.out⟩
end
end Go.Proofs.Ytlhmfaelkkiahaa
