import Derived.Test.YtlhmfaelkkiahaaGroup1
namespace Go.Proofs.Ytlhmfaelkkiahaa
open Go.RowKit
open Cox (Tl)

set_option maxRecDepth 100000 in
theorem group_long (a b c : Int) (s t u : ByteArray) (hs : s.size ≤ maxLen) (ht : t.size ≤ maxLen) (hu : u.size ≤ maxLen) (hl : 20 < s.size ∨ 20 < t.size ∨ 20 < u.size) (w : World) :
    Calls Try.prog 6 #[oval a b c, .string s, .string t, .string u] w fun e w' => e = .returned (.bool true) ∧ Below w.heap.size w w' := by
  have HS := Lib.hid (fun w => overO sane_any a b c w)
  unfold oval at *
  unfold maxLen at hs ht hu
  have ha := AtO.new a b c w
  have hb := (Below.refl w.heap.size w).alloc (Nat.le_refl _) (.cells #[.int .i64 a, .int .i64 b, .int .i64 c] 23)
  have HA := Lib.hid ha
  have HB := Lib.hid hb
  clear ha hb
  have hcase : 20 < s.size ∨ (¬ 20 < s.size ∧ 20 < t.size) ∨ (¬ 20 < s.size ∧ ¬ 20 < t.size ∧ 20 < u.size) := by omega
  clear hl
  rcases hcase with h1 | ⟨h1, h2⟩ | ⟨h1, h2, h3⟩
  all_goals
    go_enter Try.func6, Try.ntmps6
    go_wp2_with fail
    go_at_call 7
    refine (HS.out _ _ _ HA.out HB.out).mono ?_
    clear HA HB
    rintro e w2 ⟨rfl, ha, hb⟩
    have HB := Lib.hid hb
    clear hb ha
    go_wp2
    go_ret
    exact ⟨rfl, HB.out⟩

set_option maxRecDepth 100000 in
theorem group_no (a b c : Int) (s t u : ByteArray) (hs : s.size ≤ 20) (ht : t.size ≤ 20) (hu : u.size ≤ 20) (he : errs a b c [s, t, u] ≠ 0) (w : World) :
    Calls Try.prog 6 #[oval a b c, .string s, .string t, .string u] w fun e w' => e = .returned (.bool true) ∧ Below w.heap.size w w' := by
  have HE := Lib.hid (fun (bl C : Nat) (w : World) (hbl : bl < w.heap.size) (hl : Strs w bl [s, t, u]) => errors_any a b c [s, t, u] bl C (by show 3 < 100; omega) (fun x hx => by
    unfold maxLen
    simp only [List.mem_cons, List.not_mem_nil, or_false] at hx
    rcases hx with rfl | rfl | rfl <;> omega) w hbl hl)
  have HS := Lib.hid (fun w => overO sane_any a b c w)
  generalize errs a b c [s, t, u] = r at *
  have hr : (r != 0) = true := by simpa [bne] using he
  have k1 : ¬ 20 < s.size := by omega
  have k2 : ¬ 20 < t.size := by omega
  have k3 : ¬ 20 < u.size := by omega
  clear he
  unfold oval at *
  have ha := AtO.new a b c w
  have hb := (Below.refl w.heap.size w).alloc (Nat.le_refl _) (.cells #[.int .i64 a, .int .i64 b, .int .i64 c] 23)
  have HA := Lib.hid ha
  have HB := Lib.hid hb
  clear ha hb
  go_enter Try.func6, Try.ntmps6
  go_wp2_with fail
  go_at_call 7
  refine (HS.out _ _ _ HA.out HB.out).mono ?_
  clear HA HB
  rintro e w2 ⟨rfl, ha, hb⟩
  have HB := Lib.hid hb
  obtain ⟨a0, a1, a2, -⟩ := ha
  clear hb
  go_wp2_with fail
  go_at_call 8
  refine (HE.out _ _ _ (by simp) (strs_three _ _ _ _ _ _ rfl)).mono ?_
  rintro e w3 ⟨rfl, hb3⟩
  have hb := HB.out.trans ((((Below.refl _ _).alloc HB.out.size _)).trans (hb3.mono (by have := HB.out.size; simp; omega)))
  clear hb3
  go_wp2
  go_ret
  exact ⟨rfl, hb⟩

theorem group_any (a b c : Int) (s t u : ByteArray) (hs : s.size ≤ maxLen) (ht : t.size ≤ maxLen) (hu : u.size ≤ maxLen) (w : World) :
    Calls Try.prog 6 #[oval a b c, .string s, .string t, .string u] w fun e w' => e = .returned (.bool true) ∧ Below w.heap.size w w' := by
  by_cases hl : 20 < s.size ∨ 20 < t.size ∨ 20 < u.size
  · exact group_long a b c s t u hs ht hu hl w
  · by_cases he : errs a b c [s, t, u] = 0
    · obtain ⟨h0, ws, hw, h60⟩ := errs_words he
      obtain ⟨a', b', c', rfl, rfl, rfl, ha, hb, hc, ka, kb, kc⟩ := chk_nat h0
      obtain ⟨T, hT, g, hg⟩ := tri_heavy ha hb hc ka kb kc h0
      match ws, hw, h60 with
      | [l, v, x], hw, h60 =>
        simp only [List.map_cons, List.map_nil, List.cons.injEq, and_true] at hw
        obtain ⟨rfl, rfl, rfl⟩ := hw
        rw [wb_size, wb_size, wb_size] at hl
        exact group_yes T a' b' c' hT h0 ka kb kc hg l v x (by omega) (by omega) (by omega) w
      | [], hw, _ => cases hw
      | [_], hw, _ => simp at hw
      | [_, _], hw, _ => simp at hw
      | _ :: _ :: _ :: _ :: _, hw, _ => simp at hw
    · exact group_no a b c s t u (by omega) (by omega) (by omega) he w
end Go.Proofs.Ytlhmfaelkkiahaa
