import Derived.Test.YtlhmfaelkkiahaaWords8
import Derived.Test.YtlhmfaelkkiahaaReal
namespace Go.Proofs.Ytlhmfaelkkiahaa
open Go.RowKit
open Cox (Tl)

/-- the normal word, by the plain function -/
def wk (a b c : Nat) (w l : List (Fin 3)) : Bool := match Cox.walk (ords a b c) 100 [Cox.first] 0 w with
  | some (st, y) => (st[y]?).any fun nd => nd.word == l
  | none => false
theorem nf_wk {K : Type} [Cox.OR K] {T : Cox.Tri K} {a b c : Nat} (hT : T.m = ords a b c) {w l : List (Fin 3)} (hw : w.length ≤ 100) (h : wk a b c w l = true) : Cox.nf T w = l := by
  obtain ⟨st', P', y, h1, h2, h3, h4, h5⟩ := Cox.walk_ok T (f := 100) w [Cox.first] (fun k => k = 0) 0 [] (Cox.first_ok T) (fun k hk => by subst hk; simp) ⟨rfl, Cox.first, rfl, (Cox.nf_nil T).symm⟩ (by simpa using hw)
  rw [hT] at h1
  unfold wk at h
  rw [h1] at h
  obtain ⟨_, nd, g1, g2⟩ := h4
  simp only [g1, Option.any_some, beq_iff_eq] at h
  rw [← h, g2]; rfl
def nk (a b c : Nat) (w : List (Fin 3)) : Bool := match Cox.walk (ords a b c) 100 [Cox.first] 0 w with
  | some (st, y) => (st[y]?).any fun nd => !nd.word.isEmpty
  | none => false
theorem nf_nk {K : Type} [Cox.OR K] {T : Cox.Tri K} {a b c : Nat} (hT : T.m = ords a b c) {w : List (Fin 3)} (hw : w.length ≤ 100) (h : nk a b c w = true) : Cox.nf T w ≠ [] := by
  obtain ⟨st', P', y, h1, h2, h3, h4, h5⟩ := Cox.walk_ok T (f := 100) w [Cox.first] (fun k => k = 0) 0 [] (Cox.first_ok T) (fun k hk => by subst hk; simp) ⟨rfl, Cox.first, rfl, (Cox.nf_nil T).symm⟩ (by simpa using hw)
  rw [hT] at h1
  unfold nk at h
  rw [h1] at h
  obtain ⟨_, nd, g1, g2⟩ := h4
  simp only [g1, Option.any_some] at h
  have g3 : nd.word = Cox.nf T w := g2
  rw [← g3]
  intro e
  rw [e] at h
  cases h

theorem ords_tri {a b c : Nat} (ha : a ≠ 1) (hb : b ≠ 1) (hc : c ≠ 1) : ∃ T : Cox.Tri Cox.Re, T.m = ords a b c := by
  refine Cox.exists_tri _ ?_ ?_
  · intro i j
    unfold ords
    by_cases e : i = j
    · subst e; rfl
    · rw [if_neg e, if_neg (fun h => e (Eq.symm h) : ¬ j = i), Nat.add_comm]
  · intro i j e
    unfold ords
    rw [if_neg e]
    split
    · exact ha
    · split
      · exact hb
      · exact hc

theorem hept_any (w : World) : Calls Try.prog 22 #[] w fun e w' => e = .returned (.agg #[.int .i64 3, .int .i64 7, .int .i64 2]) ∧ Below w.heap.size w w' := by
  go_enter Try.func22, Try.ntmps22
  go_wp2
  refine bodyPost_ret (v := .agg #[.int .i64 3, .int .i64 7, .int .i64 2]) (by simp [results, Try.results22, go_sem]) rfl ⟨rfl, ?_⟩
  exact (Below.refl _ _).alloc (Nat.le_refl _) _

theorem errs_zero {a b c : Int} {ws : List (List (Fin 3))} (h : chk a b c = 0) (h60 : ∀ w, w ∈ ws → w.length ≤ 60) : errs a b c (ws.map wb) = 0 := by
  unfold errs
  rw [if_pos h]
  induction ws with
  | nil => rfl
  | cons x ws ih =>
    have hx : cw (wb x) = 0 := cw_wb (h60 x (by simp))
    simp only [List.map_cons, cws, hx, if_true]
    exact ih fun w hw => h60 w (by simp [hw])
theorem chk372 : chk 3 7 2 = 0 := by decide
theorem errs_words {a b c : Int} {l : List ByteArray} (h : errs a b c l = 0) : chk a b c = 0 ∧ ∃ ws : List (List (Fin 3)), l = ws.map wb ∧ ∀ w, w ∈ ws → w.length ≤ 60 := by
  have hz : chk a b c = 0 := by
    unfold errs at h
    by_cases h1 : chk a b c = 0
    · exact h1
    · rw [if_neg h1] at h; exact h
  refine ⟨hz, ?_⟩
  unfold errs at h
  rw [if_pos hz] at h
  induction l with
  | nil => exact ⟨[], rfl, by simp⟩
  | cons s l ih =>
    unfold cws at h
    have hs : cw s = 0 := by
      by_cases h1 : cw s = 0
      · exact h1
      · rw [if_neg h1] at h; exact h
    rw [if_pos hs] at h
    obtain ⟨ws, rfl, h2⟩ := ih h
    obtain ⟨x, rfl, h3⟩ := cw_zero hs
    refine ⟨x :: ws, rfl, fun w hw => ?_⟩
    rcases List.mem_cons.1 hw with rfl | hw
    · exact h3
    · exact h2 w hw
theorem chk_nat {a b c : Int} (h : chk a b c = 0) : ∃ a' b' c' : Nat, a = a' ∧ b = b' ∧ c = c' ∧ a' ≠ 1 ∧ b' ≠ 1 ∧ c' ≠ 1 ∧ a' ≤ 12 ∧ b' ≤ 12 ∧ c' ≤ 12 := by
  unfold chk at h
  by_cases h1 : badO a ∨ badO b ∨ badO c
  · rw [if_pos h1] at h; cases h
  · simp only [badO, not_or] at h1
    refine ⟨a.toNat, b.toNat, c.toNat, ?_⟩
    omega

theorem val372 : ∃ T : Cox.Tri Cox.Re, T.m = ords 3 7 2 ∧ Cox.nf T [1, 0, 1] = [0, 1, 0] ∧ Cox.nf T [2, 0] = [0, 2] ∧ Cox.nf T [0, 1, 0] = [0, 1, 0] ∧ Cox.nf T ([0, 1] ++ [0, 1]) = [1, 0] ∧ ordr T [1, 2] = 7 ∧ ordr T [0, 1, 2] = 0 := by
  obtain ⟨T, hT⟩ := ords_tri (a := 3) (b := 7) (c := 2) (by omega) (by omega) (by omega)
  refine ⟨T, hT, nf_wk hT (by decide) (by kernel_rfl), nf_wk hT (by decide) (by kernel_rfl), nf_wk hT (by decide) (by kernel_rfl), nf_wk hT (by decide) (by kernel_rfl), ?_, ?_⟩
  · refine ordr_at (by omega) (by omega) (nf_wk hT (by decide) (by kernel_rfl)) ?_
    intro j h1 h2
    have : j = 1 ∨ j = 2 ∨ j = 3 ∨ j = 4 ∨ j = 5 ∨ j = 6 := by omega
    rcases this with rfl | rfl | rfl | rfl | rfl | rfl <;> exact nf_nk hT (by decide) (by kernel_rfl)
  · refine ordr_none ?_
    intro j h1 h2
    have : j = 1 ∨ j = 2 ∨ j = 3 ∨ j = 4 ∨ j = 5 ∨ j = 6 ∨ j = 7 ∨ j = 8 ∨ j = 9 ∨ j = 10 ∨ j = 11 ∨ j = 12 := by omega
    rcases this with rfl | rfl | rfl | rfl | rfl | rfl | rfl | rfl | rfl | rfl | rfl | rfl <;> exact nf_nk hT (by decide) (by kernel_rfl)
theorem errs3 : errs 3 7 2 [⟨#[3]⟩] = 1 := by
  unfold errs
  rw [if_pos chk372]
  have : badW ⟨#[3]⟩ := ⟨0, by decide, by decide⟩
  unfold cws
  rw [cw_bad this]; rfl

def At3 (B : Nat) (w : World) : Prop := w.cell? ⟨B, 0, none⟩ = some (.int .i64 3) ∧ w.cell? ⟨B, 1, none⟩ = some (.int .i64 7) ∧ w.cell? ⟨B, 2, none⟩ = some (.int .i64 2) ∧ B < w.heap.size

theorem At3.below {B : Nat} {w w' : World} (h : At3 B w) (hb : Below w.heap.size w w') : At3 B w' := by
  obtain ⟨h1, h2, h3, h4⟩ := h
  exact ⟨by rw [Below.cell (p := ⟨B, 0, none⟩) hb h4]; exact h1, by rw [Below.cell (p := ⟨B, 1, none⟩) hb h4]; exact h2, by rw [Below.cell (p := ⟨B, 2, none⟩) hb h4]; exact h3, Nat.lt_of_lt_of_le h4 hb.size⟩

theorem sane_any (w : World) : Calls Try.prog 7 #[] w fun e w' => e = .returned (.bool true) ∧ Below w.heap.size w w' := by
  obtain ⟨T, hT, v1, v2, v3, v4, v5, v6⟩ := val372
  have K : ∀ {p : FuncId} {args : Array Value} {r : Value}, (∀ w, Calls Try.prog p args w fun e w' => e = .returned r ∧ Below w.heap.size w w') →
      ∀ (w0 : World) (B : Nat) (w : World), At3 B w → Below w0.heap.size w0 w → Calls Try.prog p args w fun e w' => e = .returned r ∧ At3 B w' ∧ Below w0.heap.size w0 w' := fun h w0 B w ha hb => (h w).mono fun e w' hh => ⟨hh.1, ha.below hh.2, hb.trans (hh.2.mono hb.size)⟩
  have C1 : ∀ (w0 : World) (B : Nat) (w : World), At3 B w → Below w0.heap.size w0 w → Calls Try.prog 9 #[.agg #[.int .i64 3, .int .i64 7, .int .i64 2], .string ⟨#[1, 0, 1]⟩] w fun e w' => e = .returned (.tuple #[.string ⟨#[0, 1, 0]⟩, .int .i64 0]) ∧ At3 B w' ∧ Below w0.heap.size w0 w' := K (fun w => by
    have h := normal_yes T 3 7 2 hT [1, 0, 1] (errs_zero (ws := [[1, 0, 1]]) chk372 (by decide)) w
    rw [v1] at h
    exact h)
  have D1 := Lib.hid C1
  have C2 : ∀ (w0 : World) (B : Nat) (w : World), At3 B w → Below w0.heap.size w0 w → Calls Try.prog 9 #[.agg #[.int .i64 3, .int .i64 7, .int .i64 2], .string ⟨#[2, 0]⟩] w fun e w' => e = .returned (.tuple #[.string ⟨#[0, 2]⟩, .int .i64 0]) ∧ At3 B w' ∧ Below w0.heap.size w0 w' := K (fun w => by
    have h := normal_yes T 3 7 2 hT [2, 0] (errs_zero (ws := [[2, 0]]) chk372 (by decide)) w
    rw [v2] at h
    exact h)
  have D2 := Lib.hid C2
  have C3 : ∀ (w0 : World) (B : Nat) (w : World), At3 B w → Below w0.heap.size w0 w → Calls Try.prog 11 #[.agg #[.int .i64 3, .int .i64 7, .int .i64 2], .string ⟨#[0, 1, 0]⟩, .string ⟨#[1, 0, 1]⟩] w fun e w' => e = .returned (.tuple #[.bool true, .int .i64 0]) ∧ At3 B w' ∧ Below w0.heap.size w0 w' := K (fun w => by
    have h := same_yes T 3 7 2 hT [0, 1, 0] [1, 0, 1] (errs_zero (ws := [[0, 1, 0], [1, 0, 1]]) chk372 (by decide)) w
    rw [v3, v1, beq_self_eq_true] at h
    exact h)
  have D3 := Lib.hid C3
  have C4 : ∀ (w0 : World) (B : Nat) (w : World), At3 B w → Below w0.heap.size w0 w → Calls Try.prog 15 #[.agg #[.int .i64 3, .int .i64 7, .int .i64 2], .string ⟨#[0, 1]⟩, .string ⟨#[0, 1]⟩] w fun e w' => e = .returned (.tuple #[.string ⟨#[1, 0]⟩, .int .i64 0]) ∧ At3 B w' ∧ Below w0.heap.size w0 w' := K (fun w => by
    have h := times_yes T 3 7 2 hT [0, 1] [0, 1] (errs_zero (ws := [[0, 1], [0, 1]]) chk372 (by decide)) w
    rw [v4] at h
    exact h)
  have D4 := Lib.hid C4
  have C5 : ∀ (w0 : World) (B : Nat) (w : World), At3 B w → Below w0.heap.size w0 w → Calls Try.prog 19 #[.agg #[.int .i64 3, .int .i64 7, .int .i64 2], .string ⟨#[1, 2]⟩] w fun e w' => e = .returned (.tuple #[.int .i64 7, .int .i64 0]) ∧ At3 B w' ∧ Below w0.heap.size w0 w' := K (fun w => by
    have h := order_yes T 3 7 2 hT [1, 2] (errs_zero (ws := [[1, 2]]) chk372 (by decide)) w
    rw [v5] at h
    exact h)
  have D5 := Lib.hid C5
  have C6 : ∀ (w0 : World) (B : Nat) (w : World), At3 B w → Below w0.heap.size w0 w → Calls Try.prog 19 #[.agg #[.int .i64 3, .int .i64 7, .int .i64 2], .string ⟨#[0, 1, 2]⟩] w fun e w' => e = .returned (.tuple #[.int .i64 0, .int .i64 0]) ∧ At3 B w' ∧ Below w0.heap.size w0 w' := K (fun w => by
    have h := order_yes T 3 7 2 hT [0, 1, 2] (errs_zero (ws := [[0, 1, 2]]) chk372 (by decide)) w
    rw [v6] at h
    exact h)
  have D6 := Lib.hid C6
  have C7 : ∀ (w0 : World) (B : Nat) (w : World), At3 B w → Below w0.heap.size w0 w → Calls Try.prog 9 #[.agg #[.int .i64 3, .int .i64 7, .int .i64 2], .string ⟨#[3]⟩] w fun e w' => e = .returned (.tuple #[.string ⟨#[]⟩, .int .i64 1]) ∧ At3 B w' ∧ Below w0.heap.size w0 w' := K (fun w => by
    have h := normal_no 3 7 2 ⟨#[3]⟩ (by decide) (by rw [errs3]; decide) w
    rw [errs3] at h
    exact h)
  have D7 := Lib.hid C7
  have HH := Lib.hid (fun w => hept_any w)
  clear C1 C2 C3 C4 C5 C6 C7 v1 v2 v3 v4 v5 v6 hT K
  go_enter Try.func7, Try.ntmps7
  go_wp2_with fail
  go_at_call 22
  refine (HH.out _).mono ?_
  rintro e w1 ⟨rfl, hb1⟩
  have hb : Below w.heap.size w (w1.alloc (.cells #[.int .i64 3, .int .i64 7, .int .i64 2] 23)) := hb1.alloc hb1.size _
  have ha : At3 w1.heap.size (w1.alloc (.cells #[.int .i64 3, .int .i64 7, .int .i64 2] 23)) := by
    have := str_new w1 #[.int .i64 3, .int .i64 7, .int .i64 2] 23 _ rfl
    exact ⟨cell_of this 0, cell_of this 1, cell_of this 2, by simp⟩
  have HA := Lib.hid ha
  have HB := Lib.hid hb
  clear ha hb hb1
  go_wp2_with fail
  go_at_call 9
  refine (D1.out _ _ _ HA.out HB.out).mono ?_
  clear HA HB
  rintro e w2 ⟨rfl, ha, hb⟩
  have HA := Lib.hid ha
  have HB := Lib.hid hb
  obtain ⟨a0, a1, a2, -⟩ := ha
  clear hb
  go_wp2_with fail
  go_at_call 9
  refine (D2.out _ _ _ HA.out HB.out).mono ?_
  clear HA HB
  rintro e w2 ⟨rfl, ha, hb⟩
  have HA := Lib.hid ha
  have HB := Lib.hid hb
  obtain ⟨a0, a1, a2, -⟩ := ha
  clear hb
  go_wp2_with fail
  go_at_call 11
  refine (D3.out _ _ _ HA.out HB.out).mono ?_
  clear HA HB
  rintro e w2 ⟨rfl, ha, hb⟩
  have HA := Lib.hid ha
  have HB := Lib.hid hb
  obtain ⟨a0, a1, a2, -⟩ := ha
  clear hb
  go_wp2_with fail
  go_at_call 15
  refine (D4.out _ _ _ HA.out HB.out).mono ?_
  clear HA HB
  rintro e w2 ⟨rfl, ha, hb⟩
  have HA := Lib.hid ha
  have HB := Lib.hid hb
  obtain ⟨a0, a1, a2, -⟩ := ha
  clear hb
  go_wp2_with fail
  go_at_call 19
  refine (D5.out _ _ _ HA.out HB.out).mono ?_
  clear HA HB
  rintro e w2 ⟨rfl, ha, hb⟩
  have HA := Lib.hid ha
  have HB := Lib.hid hb
  obtain ⟨a0, a1, a2, -⟩ := ha
  clear hb
  go_wp2_with fail
  go_at_call 19
  refine (D6.out _ _ _ HA.out HB.out).mono ?_
  clear HA HB
  rintro e w2 ⟨rfl, ha, hb⟩
  have HA := Lib.hid ha
  have HB := Lib.hid hb
  obtain ⟨a0, a1, a2, -⟩ := ha
  clear hb
  go_wp2_with fail
  go_at_call 9
  refine (D7.out _ _ _ HA.out HB.out).mono ?_
  clear HA HB
  rintro e w2 ⟨rfl, ha, hb⟩
  have HA := Lib.hid ha
  have HB := Lib.hid hb
  obtain ⟨a0, a1, a2, -⟩ := ha
  clear hb
  go_wp2
  go_ret
  exact ⟨rfl, HB.out⟩
end Go.Proofs.Ytlhmfaelkkiahaa
