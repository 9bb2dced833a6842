import Derived.Test.YtlhmfaelkkiahaaRef6
namespace Go.Proofs.Ytlhmfaelkkiahaa
open Go.RowKit
open Cox (Tl)

set_option maxRecDepth 100000 in
theorem makes_long (a b c : Int) (s t : ByteArray) (hs : s.size ≤ maxLen) (ht : t.size ≤ maxLen) (hl : 200 < s.size ∨ 200 < t.size) (w : World) :
    Calls Try.prog 5 #[oval a b c, .string s, .string t] w fun e w' => e = .returned (.bool true) ∧ Below w.heap.size w w' := by
  have HS := Lib.hid (fun w => overO sane_any a b c w)
  unfold oval at *
  unfold maxLen at hs ht
  have HA := Lib.hid (AtO.new a b c w)
  have HB := Lib.hid ((Below.refl w.heap.size w).alloc (Nat.le_refl _) (.cells #[.int .i64 a, .int .i64 b, .int .i64 c] 23))
  have hcase : 200 < s.size ∨ (¬ 200 < s.size ∧ 200 < t.size) := by omega
  clear hl
  rcases hcase with h1 | ⟨h1, h2⟩
  all_goals
    go_enter Try.func5, Try.ntmps5
    go_wp2_with fail
    go_at_call 7
    refine (HS.out _ _ _ HA.out HB.out).mono ?_
    clear HA HB
    rintro e w2 ⟨rfl, ha, hb⟩
    have HB := Lib.hid hb
    clear hb ha
    go_wp2
    go_ret
    exact ⟨rfl, HB.out⟩

set_option maxRecDepth 100000 in
set_option maxHeartbeats 1000000 in
theorem makes_eq (a b c : Int) (s t : ByteArray) (hs : s.size ≤ 200) (ht : t.size ≤ 200) (X1 X3 X4 : ByteArray) (X2 : Bool) (X5 E1 E2 E3 E4 E5 : Int)
    (r1 : ∀ w, Calls Try.prog 12 #[oval a b c, .string s] w fun e w' => e = .returned (.tuple #[.string X1, .int .i64 E1]) ∧ Below w.heap.size w w')
    (p1 : ∀ w, Calls Try.prog 9 #[oval a b c, .string s] w fun e w' => e = .returned (.tuple #[.string X1, .int .i64 E1]) ∧ Below w.heap.size w w')
    (r2 : ∀ w, Calls Try.prog 13 #[oval a b c, .string s, .string t] w fun e w' => e = .returned (.tuple #[.bool X2, .int .i64 E2]) ∧ Below w.heap.size w w')
    (p2 : ∀ w, Calls Try.prog 11 #[oval a b c, .string s, .string t] w fun e w' => e = .returned (.tuple #[.bool X2, .int .i64 E2]) ∧ Below w.heap.size w w')
    (r3 : ∀ w, Calls Try.prog 14 #[oval a b c, .string s, .string t] w fun e w' => e = .returned (.tuple #[.string X3, .int .i64 E3]) ∧ Below w.heap.size w w')
    (p3 : ∀ w, Calls Try.prog 15 #[oval a b c, .string s, .string t] w fun e w' => e = .returned (.tuple #[.string X3, .int .i64 E3]) ∧ Below w.heap.size w w')
    (r4 : ∀ w, Calls Try.prog 16 #[oval a b c, .string s] w fun e w' => e = .returned (.tuple #[.string X4, .int .i64 E4]) ∧ Below w.heap.size w w')
    (p4 : ∀ w, Calls Try.prog 17 #[oval a b c, .string s] w fun e w' => e = .returned (.tuple #[.string X4, .int .i64 E4]) ∧ Below w.heap.size w w')
    (r5 : ∀ w, Calls Try.prog 18 #[oval a b c, .string s] w fun e w' => e = .returned (.tuple #[.int .i64 X5, .int .i64 E5]) ∧ Below w.heap.size w w')
    (p5 : ∀ w, Calls Try.prog 19 #[oval a b c, .string s] w fun e w' => e = .returned (.tuple #[.int .i64 X5, .int .i64 E5]) ∧ Below w.heap.size w w')
    (w : World) : Calls Try.prog 5 #[oval a b c, .string s, .string t] w fun e w' => e = .returned (.bool true) ∧ Below w.heap.size w w' := by
  have HS := Lib.hid (fun w => overO sane_any a b c w)
  have Dr1 := Lib.hid (overO r1 a b c)
  have Dp1 := Lib.hid (overO p1 a b c)
  have Dr2 := Lib.hid (overO r2 a b c)
  have Dp2 := Lib.hid (overO p2 a b c)
  have Dr3 := Lib.hid (overO r3 a b c)
  have Dp3 := Lib.hid (overO p3 a b c)
  have Dr4 := Lib.hid (overO r4 a b c)
  have Dp4 := Lib.hid (overO p4 a b c)
  have Dr5 := Lib.hid (overO r5 a b c)
  have Dp5 := Lib.hid (overO p5 a b c)
  clear r1 p1 r2 p2 r3 p3 r4 p4 r5 p5
  unfold oval at *
  have k1 : ¬ 200 < s.size := by omega
  have k2 : ¬ 200 < t.size := by omega
  have HA := Lib.hid (AtO.new a b c w)
  have HB := Lib.hid ((Below.refl w.heap.size w).alloc (Nat.le_refl _) (.cells #[.int .i64 a, .int .i64 b, .int .i64 c] 23))
  go_enter Try.func5, Try.ntmps5
  go_wp2_with fail
  go_at_call 7
  refine (HS.out _ _ _ HA.out HB.out).mono ?_
  clear HA HB HS
  rintro e w2 ⟨rfl, ha, hb⟩
  have HA := Lib.hid ha
  have HB := Lib.hid hb
  obtain ⟨a0, a1, a2, -⟩ := ha
  clear hb
  go_wp2_with fail
  go_at_call 12
  refine (Dr1.out _ _ _ HA.out HB.out).mono ?_
  clear HA HB a0 a1 a2 Dr1
  rintro e w2 ⟨rfl, ha, hb⟩
  have HA := Lib.hid ha
  have HB := Lib.hid hb
  obtain ⟨a0, a1, a2, -⟩ := ha
  clear hb
  go_wp2_with fail
  go_at_call 9
  refine (Dp1.out _ _ _ HA.out HB.out).mono ?_
  clear HA HB a0 a1 a2 Dp1
  rintro e w2 ⟨rfl, ha, hb⟩
  have HA := Lib.hid ha
  have HB := Lib.hid hb
  obtain ⟨a0, a1, a2, -⟩ := ha
  clear hb
  go_wp2_with fail
  go_at_call 13
  refine (Dr2.out _ _ _ HA.out HB.out).mono ?_
  clear HA HB a0 a1 a2 Dr2
  rintro e w2 ⟨rfl, ha, hb⟩
  have HA := Lib.hid ha
  have HB := Lib.hid hb
  obtain ⟨a0, a1, a2, -⟩ := ha
  clear hb
  go_wp2_with fail
  go_at_call 11
  refine (Dp2.out _ _ _ HA.out HB.out).mono ?_
  clear HA HB a0 a1 a2 Dp2
  rintro e w2 ⟨rfl, ha, hb⟩
  have HA := Lib.hid ha
  have HB := Lib.hid hb
  obtain ⟨a0, a1, a2, -⟩ := ha
  clear hb
  go_wp2_with fail
  go_at_call 14
  refine (Dr3.out _ _ _ HA.out HB.out).mono ?_
  clear HA HB a0 a1 a2 Dr3
  rintro e w2 ⟨rfl, ha, hb⟩
  have HA := Lib.hid ha
  have HB := Lib.hid hb
  obtain ⟨a0, a1, a2, -⟩ := ha
  clear hb
  go_wp2_with fail
  go_at_call 15
  refine (Dp3.out _ _ _ HA.out HB.out).mono ?_
  clear HA HB a0 a1 a2 Dp3
  rintro e w2 ⟨rfl, ha, hb⟩
  have HA := Lib.hid ha
  have HB := Lib.hid hb
  obtain ⟨a0, a1, a2, -⟩ := ha
  clear hb
  go_wp2_with fail
  go_at_call 16
  refine (Dr4.out _ _ _ HA.out HB.out).mono ?_
  clear HA HB a0 a1 a2 Dr4
  rintro e w2 ⟨rfl, ha, hb⟩
  have HA := Lib.hid ha
  have HB := Lib.hid hb
  obtain ⟨a0, a1, a2, -⟩ := ha
  clear hb
  go_wp2_with fail
  go_at_call 17
  refine (Dp4.out _ _ _ HA.out HB.out).mono ?_
  clear HA HB a0 a1 a2 Dp4
  rintro e w2 ⟨rfl, ha, hb⟩
  have HA := Lib.hid ha
  have HB := Lib.hid hb
  obtain ⟨a0, a1, a2, -⟩ := ha
  clear hb
  go_wp2_with fail
  go_at_call 18
  refine (Dr5.out _ _ _ HA.out HB.out).mono ?_
  clear HA HB a0 a1 a2 Dr5
  rintro e w2 ⟨rfl, ha, hb⟩
  have HA := Lib.hid ha
  have HB := Lib.hid hb
  obtain ⟨a0, a1, a2, -⟩ := ha
  clear hb
  go_wp2_with fail
  go_at_call 19
  refine (Dp5.out _ _ _ HA.out HB.out).mono ?_
  clear HA HB a0 a1 a2 Dp5
  rintro e w2 ⟨rfl, ha, hb⟩
  have HA := Lib.hid ha
  have HB := Lib.hid hb
  obtain ⟨a0, a1, a2, -⟩ := ha
  clear hb
  go_wp2
  go_ret
  exact ⟨by simp, HB.out⟩

theorem makes_any (a b c : Int) (s t : ByteArray) (hs : s.size ≤ maxLen) (ht : t.size ≤ maxLen) (w : World) :
    Calls Try.prog 5 #[oval a b c, .string s, .string t] w fun e w' => e = .returned (.bool true) ∧ Below w.heap.size w w' := by
  by_cases hl : 200 < s.size ∨ 200 < t.size
  · exact makes_long a b c s t hs ht hl w
  simp only [not_or] at hl
  have hs2 : s.size ≤ 200 := by omega
  have ht2 : t.size ≤ 200 := by omega
  by_cases he2 : errs a b c [s, t] = 0
  · obtain ⟨h0, ws, hw, h60⟩ := errs_words he2
    obtain ⟨a', b', c', rfl, rfl, rfl, ha, hb, hc, ha2, hb2, hc2⟩ := chk_nat h0
    obtain ⟨T, hT⟩ := ords_tri ha hb hc
    match ws, hw, h60 with
    | [u, v], hw, h60 =>
      simp only [List.map_cons, List.map_nil, List.cons.injEq, and_true] at hw
      obtain ⟨rfl, rfl⟩ := hw
      have hu := h60 u (by simp)
      have hv := h60 v (by simp)
      have he1 : errs (a' : Int) b' c' [wb u] = 0 := errs_zero (ws := [u]) h0 (by simpa using hu)
      have h12 : a' ≤ 12 ∧ b' ≤ 12 ∧ c' ≤ 12 := ⟨ha2, hb2, hc2⟩
      exact makes_eq a' b' c' (wb u) (wb v) hs2 ht2 _ _ _ _ _ _ _ _ _ _ (rnormal_yes T a' b' c' hT h12 u hu he1) (normal_yes T a' b' c' hT u he1) (rsame_yes T a' b' c' hT h12 u v hu hv he2) (same_yes T a' b' c' hT u v he2)
        (rtimes_yes T a' b' c' hT h12 u v hu hv he2) (times_yes T a' b' c' hT u v he2) (rinverse_yes T a' b' c' hT h12 u hu he1) (inverse_yes T a' b' c' hT u he1) (rorder_yes T a' b' c' hT h12 u hu he1) (order_yes T a' b' c' hT u he1) w
    | [], hw, _ => cases hw
    | [_], hw, _ => simp at hw
    | _ :: _ :: _ :: _, hw, _ => simp at hw
  · by_cases he1 : errs a b c [s] = 0
    · obtain ⟨h0, ws, hw, h60⟩ := errs_words he1
      obtain ⟨a', b', c', rfl, rfl, rfl, ha, hb, hc, ha2, hb2, hc2⟩ := chk_nat h0
      obtain ⟨T, hT⟩ := ords_tri ha hb hc
      match ws, hw, h60 with
      | [u], hw, h60 =>
        simp only [List.map_cons, List.map_nil, List.cons.injEq, and_true] at hw
        subst hw
        have hu := h60 u (by simp)
        have h12 : a' ≤ 12 ∧ b' ≤ 12 ∧ c' ≤ 12 := ⟨ha2, hb2, hc2⟩
        exact makes_eq a' b' c' (wb u) t hs2 ht2 _ _ _ _ _ _ _ _ _ _ (rnormal_yes T a' b' c' hT h12 u hu he1) (normal_yes T a' b' c' hT u he1) (rsame_no _ _ _ _ _ hs ht he2) (same_no _ _ _ _ _ hs ht he2)
          (rtimes_no _ _ _ _ _ hs ht he2) (times_no _ _ _ _ _ hs ht he2) (rinverse_yes T a' b' c' hT h12 u hu he1) (inverse_yes T a' b' c' hT u he1) (rorder_yes T a' b' c' hT h12 u hu he1) (order_yes T a' b' c' hT u he1) w
      | [], hw, _ => cases hw
      | _ :: _ :: _, hw, _ => simp at hw
    · exact makes_eq a b c s t hs2 ht2 _ _ _ _ _ _ _ _ _ _ (rnormal_no _ _ _ _ hs he1) (normal_no _ _ _ _ hs he1) (rsame_no _ _ _ _ _ hs ht he2) (same_no _ _ _ _ _ hs ht he2)
        (rtimes_no _ _ _ _ _ hs ht he2) (times_no _ _ _ _ _ hs ht he2) (rinverse_no _ _ _ _ hs he1) (inverse_no _ _ _ _ hs he1) (rorder_no _ _ _ _ hs he1) (order_no _ _ _ _ hs he1) w
end Go.Proofs.Ytlhmfaelkkiahaa
